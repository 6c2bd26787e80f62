/- Own work: contracts. -/
import Derived.Test.YthdoogcgeioahaaDoorConA
set_option linter.all false
set_option linter.unusedSimpArgs false
namespace Go.Proofs
open Go.Hx
theorem check_spec (t : List (List Int)) (ht : (t.length : Int) < 2 ^ 40) (hr : ∀ r, r ∈ t → (r.length : Int) < 2 ^ 40) (H : AHeap) (K : ARes → AHeap → Prop) (hK : K (.ret (.lit (.int .i64 (if TableOk t then 0 else 300)))) H) : ACall Tryd.prog G0 20 [vecV t] H K := by
  have no : ¬ TableOk t → FinV Tryd.prog G0 H K (.lit (.int .i64 300)) H := fun h => FinV.mk (Nat.le_refl _) (by rw [if_neg h] at hK; exact hK)
  refine ACall.of_body (n := 62) (rs := [.tmp 2]) Tryd.func20 rfl rfl rfl (by decide) (by kernel_rfl) (by simp) ?_
  simp (config := { maxSteps := 1000000 }) only [go_sem, Int.reduceToNat, Int.reduceLE, Int.reduceLT, Int.reduceAdd, Int.reduceSub, Int.reduceMul, Int.reduceEq, Int.reduceNe, Nat.reduceEqDiff, Nat.reducePow, Nat.reduceDiv, Nat.reduceMod, Nat.reduceAdd, Nat.reduceMul, Nat.reduceSub, Nat.reduceLT, Nat.reduceLeDiff, reduceIte, reduceCtorEq, vecV, appendA_U]
  by_cases h1 : (t.length : Int) < 2
  · simp (config := { maxSteps := 1000000 }) only [go_sem, Int.reduceToNat, Int.reduceLE, Int.reduceLT, Int.reduceAdd, Int.reduceSub, Int.reduceMul, Int.reduceEq, Int.reduceNe, Nat.reduceEqDiff, Nat.reducePow, Nat.reduceDiv, Nat.reduceMod, Nat.reduceAdd, Nat.reduceMul, Nat.reduceSub, Nat.reduceLT, Nat.reduceLeDiff, reduceIte, reduceCtorEq, h1, appendA_U]
    exact no fun h => by have := h.1; omega
  by_cases h2 : (t.length : Int) > 3
  · simp (config := { maxSteps := 1000000 }) only [go_sem, Int.reduceToNat, Int.reduceLE, Int.reduceLT, Int.reduceAdd, Int.reduceSub, Int.reduceMul, Int.reduceEq, Int.reduceNe, Nat.reduceEqDiff, Nat.reducePow, Nat.reduceDiv, Nat.reduceMod, Nat.reduceAdd, Nat.reduceMul, Nat.reduceSub, Nat.reduceLT, Nat.reduceLeDiff, reduceIte, reduceCtorEq, h1, h2, appendA_U]
    exact no fun h => by have := h.2.1; omega
  simp (config := { maxSteps := 1000000 }) only [go_sem, Int.reduceToNat, Int.reduceLE, Int.reduceLT, Int.reduceAdd, Int.reduceSub, Int.reduceMul, Int.reduceEq, Int.reduceNe, Nat.reduceEqDiff, Nat.reducePow, Nat.reduceDiv, Nat.reduceMod, Nat.reduceAdd, Nat.reduceMul, Nat.reduceSub, Nat.reduceLT, Nat.reduceLeDiff, reduceIte, reduceCtorEq, h1, h2, appendA_U]
  have h0 : 0 < t.length := by omega
  obtain ⟨r0, hr0⟩ : ∃ r, t[0]? = some r := ⟨_, List.getElem?_eq_getElem h0⟩
  refine W.loop0 72057594037665964 (by rfl) (fun ρ H' => H' = H ∧ ∃ k : Nat, ρ 18 = lin k ∧ k ≤ t.length ∧ ρ 3 = lin (total2 (t.take k)) ∧ ∀ r, r ∈ t.take k → rowOk (t.headD []).length r) (fun ρ H => t.length - (iv (ρ 18)).toNat) ?_ ?_
  · simp (config := { maxSteps := 1000000 }) only [go_sem, Int.reduceToNat, Int.reduceLE, Int.reduceLT, Int.reduceAdd, Int.reduceSub, Int.reduceMul, Int.reduceEq, Int.reduceNe, Nat.reduceEqDiff, Nat.reducePow, Nat.reduceDiv, Nat.reduceMod, Nat.reduceAdd, Nat.reduceMul, Nat.reduceSub, Nat.reduceLT, Nat.reduceLeDiff, reduceIte, reduceCtorEq, appendA_U]
    exact ⟨0, rfl, by omega, rfl, by simp⟩
  rintro ρ H' ⟨rfl, k, h18, hk, h3, hrs⟩
  refine vc_sound _ _ _ (by rfl) ?_
  by_cases hb : (k : Int) < t.length
  · have hne : ¬ t = [] := by rintro rfl; simp at h0
    have ht0 : (0 : Int) < t.length := by omega
    obtain ⟨r, hrk⟩ : ∃ r, t[k]? = some r := ⟨_, List.getElem?_eq_getElem (by omega)⟩
    have hr0d : t.headD [] = r0 := by
      cases t with
      | nil => simp at h0
      | cons a t => simpa using hr0
    have hmem : r ∈ t := List.mem_of_getElem? hrk
    have nope : ¬ rowOk (t.headD []).length r → FinV Tryd.prog G0 H' K (.lit (.int .i64 300)) H' := fun h => no fun ht => h (ht.2.2.1 r hmem)
    rw [hr0d] at nope hrs
    by_cases e1 : (r.length : Int) = r0.length
    rotate_left
    · simp (config := { maxSteps := 1000000 }) only [go_sem, Int.reduceToNat, Int.reduceLE, Int.reduceLT, Int.reduceAdd, Int.reduceSub, Int.reduceMul, Int.reduceEq, Int.reduceNe, Nat.reduceEqDiff, Nat.reducePow, Nat.reduceDiv, Nat.reduceMod, Nat.reduceAdd, Nat.reduceMul, Nat.reduceSub, Nat.reduceLT, Nat.reduceLeDiff, reduceIte, reduceCtorEq, h18, h3, hb, hrk, hr0, hne, ht0, e1, appendA_U]
      exact nope fun h => e1 (by rw [h.1])
    by_cases e2 : (r0.length : Int) < 2
    · simp (config := { maxSteps := 1000000 }) only [go_sem, Int.reduceToNat, Int.reduceLE, Int.reduceLT, Int.reduceAdd, Int.reduceSub, Int.reduceMul, Int.reduceEq, Int.reduceNe, Nat.reduceEqDiff, Nat.reducePow, Nat.reduceDiv, Nat.reduceMod, Nat.reduceAdd, Nat.reduceMul, Nat.reduceSub, Nat.reduceLT, Nat.reduceLeDiff, reduceIte, reduceCtorEq, h18, h3, hb, hrk, hr0, hne, ht0, e1, e2, appendA_U]
      exact nope fun h => by have := h.2.1; omega
    by_cases e3 : (r0.length : Int) > 3
    · simp (config := { maxSteps := 1000000 }) only [go_sem, Int.reduceToNat, Int.reduceLE, Int.reduceLT, Int.reduceAdd, Int.reduceSub, Int.reduceMul, Int.reduceEq, Int.reduceNe, Nat.reduceEqDiff, Nat.reducePow, Nat.reduceDiv, Nat.reduceMod, Nat.reduceAdd, Nat.reduceMul, Nat.reduceSub, Nat.reduceLT, Nat.reduceLeDiff, reduceIte, reduceCtorEq, h18, h3, hb, hrk, hr0, hne, ht0, e1, e2, e3, appendA_U]
      exact nope fun h => by have := h.2.2.1; omega
    simp (config := { maxSteps := 1000000 }) only [go_sem, Int.reduceToNat, Int.reduceLE, Int.reduceLT, Int.reduceAdd, Int.reduceSub, Int.reduceMul, Int.reduceEq, Int.reduceNe, Nat.reduceEqDiff, Nat.reducePow, Nat.reduceDiv, Nat.reduceMod, Nat.reduceAdd, Nat.reduceMul, Nat.reduceSub, Nat.reduceLT, Nat.reduceLeDiff, reduceIte, reduceCtorEq, h18, h3, hb, hrk, hr0, hne, ht0, e1, e2, e3, appendA_U]
    refine W.loop0 36026597995708556 (by rfl) (fun ρ' H2 => H2 = H' ∧ ∃ j : Nat, ρ' 41 = lin j ∧ j ≤ r.length ∧ ρ' 3 = lin (total2 (t.take k) + (r.take j).sum) ∧ ∀ c, c ∈ r.take j → 0 ≤ c ∧ c ≤ 20) (fun ρ' H2 => r.length - (iv (ρ' 41)).toNat) ?_ ?_
    · simp (config := { maxSteps := 1000000 }) only [go_sem, Int.reduceToNat, Int.reduceLE, Int.reduceLT, Int.reduceAdd, Int.reduceSub, Int.reduceMul, Int.reduceEq, Int.reduceNe, Nat.reduceEqDiff, Nat.reducePow, Nat.reduceDiv, Nat.reduceMod, Nat.reduceAdd, Nat.reduceMul, Nat.reduceSub, Nat.reduceLT, Nat.reduceLeDiff, reduceIte, reduceCtorEq, h3, appendA_U]
      exact ⟨0, rfl, by omega, by simp, by simp⟩
    rintro ρ' H2 ⟨rfl, j, h41, hj, h3', hcs⟩
    refine vc_sound _ _ _ (by rfl) ?_
    have hrl : r.length ≤ 3 := by omega
    have hkl : k ≤ 3 := by omega
    have b1 := total2_bound hrs hkl
    have b2 := sum_bound hcs (by simp; omega : (r.take j).length ≤ 3)
    by_cases hb2 : (j : Int) < r.length <;> have hb2' := hb2 <;> rw [e1] at hb2'
    · obtain ⟨c, hc⟩ : ∃ c, r[j]? = some c := ⟨_, List.getElem?_eq_getElem (by omega)⟩
      have hrn : ¬ r = [] := by rintro rfl; simp at hb2; omega
      have hcm : c ∈ r := List.mem_of_getElem? hc
      by_cases c1 : c < 0
      · simp (config := { maxSteps := 1000000 }) only [go_sem, Int.reduceToNat, Int.reduceLE, Int.reduceLT, Int.reduceAdd, Int.reduceSub, Int.reduceMul, Int.reduceEq, Int.reduceNe, Nat.reduceEqDiff, Nat.reducePow, Nat.reduceDiv, Nat.reduceMod, Nat.reduceAdd, Nat.reduceMul, Nat.reduceSub, Nat.reduceLT, Nat.reduceLeDiff, reduceIte, reduceCtorEq, h41, h3', hb2, hb2', hc, hrn, c1, appendA_U]
        exact nope fun h => by have := (h.2.2.2 c hcm).1; omega
      by_cases c2 : c > 20
      · simp (config := { maxSteps := 1000000 }) only [go_sem, Int.reduceToNat, Int.reduceLE, Int.reduceLT, Int.reduceAdd, Int.reduceSub, Int.reduceMul, Int.reduceEq, Int.reduceNe, Nat.reduceEqDiff, Nat.reducePow, Nat.reduceDiv, Nat.reduceMod, Nat.reduceAdd, Nat.reduceMul, Nat.reduceSub, Nat.reduceLT, Nat.reduceLeDiff, reduceIte, reduceCtorEq, h41, h3', hb2, hb2', hc, hrn, c1, c2, appendA_U]
        exact nope fun h => by have := (h.2.2.2 c hcm).2; omega
      simp (config := { maxSteps := 1000000 }) only [go_sem, Int.reduceToNat, Int.reduceLE, Int.reduceLT, Int.reduceAdd, Int.reduceSub, Int.reduceMul, Int.reduceEq, Int.reduceNe, Nat.reduceEqDiff, Nat.reducePow, Nat.reduceDiv, Nat.reduceMod, Nat.reduceAdd, Nat.reduceMul, Nat.reduceSub, Nat.reduceLT, Nat.reduceLeDiff, reduceIte, reduceCtorEq, h41, h3', hb2, hb2', hc, hrn, c1, c2, appendA_U]
      rw [IntWalk.i64_in ((j : Int) + 1) (by omega), IntWalk.i64_in (_ + c) (by omega)]
      refine ⟨⟨j + 1, by simp, by omega, ?_, ?_⟩, by omega⟩
      · rw [take_succ_of hc]; simp [Int.add_assoc]
      · rw [take_succ_of hc]
        intro d hd
        rcases List.mem_append.1 hd with hd | hd
        · exact hcs d hd
        · obtain rfl := List.mem_singleton.1 hd; omega
    · simp (config := { maxSteps := 1000000 }) only [go_sem, Int.reduceToNat, Int.reduceLE, Int.reduceLT, Int.reduceAdd, Int.reduceSub, Int.reduceMul, Int.reduceEq, Int.reduceNe, Nat.reduceEqDiff, Nat.reducePow, Nat.reduceDiv, Nat.reduceMod, Nat.reduceAdd, Nat.reduceMul, Nat.reduceSub, Nat.reduceLT, Nat.reduceLeDiff, reduceIte, reduceCtorEq, h41, h3', hb2, hb2', h18, appendA_U]
      rw [IntWalk.i64_in ((k : Int) + 1) (by omega)]
      have hjr : r.take j = r := List.take_of_length_le (by omega)
      rw [hjr] at hcs h3' ⊢
      refine ⟨⟨k + 1, by simp, by omega, ?_, ?_⟩, by omega⟩
      · rw [take_succ_of hrk]; simp [total2]
      · rw [take_succ_of hrk, hr0d]
        intro d hd
        rcases List.mem_append.1 hd with hd | hd
        · exact hrs d hd
        · obtain rfl := List.mem_singleton.1 hd; exact ⟨by omega, by omega, by omega, hcs⟩
  · have hkt : t.take k = t := List.take_of_length_le (by omega)
    by_cases s1 : total2 (t.take k) < 1
    · simp (config := { maxSteps := 1000000 }) only [go_sem, Int.reduceToNat, Int.reduceLE, Int.reduceLT, Int.reduceAdd, Int.reduceSub, Int.reduceMul, Int.reduceEq, Int.reduceNe, Nat.reduceEqDiff, Nat.reducePow, Nat.reduceDiv, Nat.reduceMod, Nat.reduceAdd, Nat.reduceMul, Nat.reduceSub, Nat.reduceLT, Nat.reduceLeDiff, reduceIte, reduceCtorEq, h18, h3, hb, s1, appendA_U]
      exact no fun h => by rw [hkt] at s1; have := h.2.2.2.1; omega
    by_cases s2 : total2 (t.take k) > 20
    · simp (config := { maxSteps := 1000000 }) only [go_sem, Int.reduceToNat, Int.reduceLE, Int.reduceLT, Int.reduceAdd, Int.reduceSub, Int.reduceMul, Int.reduceEq, Int.reduceNe, Nat.reduceEqDiff, Nat.reducePow, Nat.reduceDiv, Nat.reduceMod, Nat.reduceAdd, Nat.reduceMul, Nat.reduceSub, Nat.reduceLT, Nat.reduceLeDiff, reduceIte, reduceCtorEq, h18, h3, hb, s1, s2, appendA_U]
      exact no fun h => by rw [hkt] at s2; have := h.2.2.2.2; omega
    simp (config := { maxSteps := 1000000 }) only [go_sem, Int.reduceToNat, Int.reduceLE, Int.reduceLT, Int.reduceAdd, Int.reduceSub, Int.reduceMul, Int.reduceEq, Int.reduceNe, Nat.reduceEqDiff, Nat.reducePow, Nat.reduceDiv, Nat.reduceMod, Nat.reduceAdd, Nat.reduceMul, Nat.reduceSub, Nat.reduceLT, Nat.reduceLeDiff, reduceIte, reduceCtorEq, h18, h3, hb, s1, s2, appendA_U]
    refine FinV.mk (Nat.le_refl _) ?_
    rw [hkt] at s1 s2 hrs
    rw [if_pos ⟨by omega, by omega, hrs, by omega, by omega⟩] at hK
    exact hK
end Go.Proofs
set_option linter.unusedSimpArgs false
namespace Go.Proofs
open Go.Hx

def rowsOf (t : List (List Int)) : List Int := t.map List.sum
def colAt (t : List (List Int)) (j : Nat) : Int := (t.map fun r => r.getD j 0).sum
def colsOf (t : List (List Int)) : List Int := (List.range (t.headD []).length).map (colAt t)

theorem colAt_bound {n : Nat} {t : List (List Int)} (h : ∀ r, r ∈ t → rowOk n r) (j : Nat) : 0 ≤ colAt t j ∧ colAt t j ≤ 20 * t.length := by
  induction t with
  | nil => simp [colAt]
  | cons r t ih =>
    have h1 := ih fun r hr => h r (by simp [hr])
    have h2 : 0 ≤ r.getD j 0 ∧ r.getD j 0 ≤ 20 := by
      rw [List.getD_eq_getElem?_getD]
      cases hj : r[j]? with
      | none => simp
      | some c => exact (h r (by simp)).2.2.2 c (List.mem_of_getElem? hj)
    simp only [colAt, List.map_cons, List.sum_cons, List.length_cons] at h1 ⊢
    omega
theorem margins_spec (t : List (List Int)) (ht : TableOk t) (H : AHeap) (K : ARes → AHeap → Prop) (hK : K (.ret (.tup [vecI (rowsOf t), vecI (colsOf t)])) H) : ACall Tryd.prog G0 39 [vecV t] H K := by
  refine ACall.clo ⟨_, Tryd.func39, rfl, rfl⟩ fun hcl => ?_
  refine ACall.of_body (n := 48) (rs := [.tmp 2, .tmp 3]) Tryd.func39 rfl rfl rfl (by decide) (by kernel_rfl) (by simp) ?_
  have h0 : 0 < t.length := by have := ht.1; omega
  have h3 := ht.2.1
  obtain ⟨r0, hr0⟩ : ∃ r, t[0]? = some r := ⟨_, List.getElem?_eq_getElem h0⟩
  have hr0d : t.headD [] = r0 := by
    cases t with
    | nil => simp at h0
    | cons a t => simpa using hr0
  have hne : ¬ t = [] := by rintro rfl; simp at h0
  have ht0 : (0 : Int) < t.length := by omega
  simp (config := { maxSteps := 1000000 }) only [go_sem, Int.reduceToNat, Int.reduceLE, Int.reduceLT, Int.reduceAdd, Int.reduceSub, Int.reduceMul, Int.reduceEq, Int.reduceNe, Nat.reduceEqDiff, Nat.reducePow, Nat.reduceDiv, Nat.reduceMod, Nat.reduceAdd, Nat.reduceMul, Nat.reduceSub, Nat.reduceLT, Nat.reduceLeDiff, reduceIte, reduceCtorEq, vecV, appendA_U]
  refine W.draw 9 [0, 1, 3, 0, 8, 24, 56, 120, 7] Tryd.mixed (by kernel_rfl) (by kernel_rfl) ?_
  simp (config := { maxSteps := 1000000 }) only [go_sem, Int.reduceToNat, Int.reduceLE, Int.reduceLT, Int.reduceAdd, Int.reduceSub, Int.reduceMul, Int.reduceEq, Int.reduceNe, Nat.reduceEqDiff, Nat.reducePow, Nat.reduceDiv, Nat.reduceMod, Nat.reduceAdd, Nat.reduceMul, Nat.reduceSub, Nat.reduceLT, Nat.reduceLeDiff, reduceIte, reduceCtorEq, hr0, hne, ht0, appendA_U]
  have hrok := hr0d ▸ ht.2.2.1
  have hw : r0.length ≤ 3 := (hrok r0 (List.mem_of_getElem? hr0)).2.2.1
  refine ⟨⟨by omega, by omega⟩, ⟨by omega, by omega⟩, ?_⟩
  refine W.loop0 70368743915760 (by rfl) (fun ρ H' => ∃ (k : Nat) (a b : List Int), H' = ext H [.arr 0 3 (ints a), .arr 0 3 (ints b)] ∧ ρ 18 = lin k ∧ ρ 2 = .own H.next 0 0 t.length 1 ∧ ρ 3 = .own (H.next + 1) 0 0 r0.length 1 ∧ k ≤ t.length ∧ a.length = t.length ∧ b.length = r0.length ∧
    (∀ i, i < t.length → a.getD i 0 = if i < k then (t.getD i []).sum else 0) ∧ ∀ m, m < r0.length → b.getD m 0 = colAt (t.take k) m) (fun ρ H => t.length - (iv (ρ 18)).toNat) ?_ ?_
  · simp (config := { maxSteps := 1000000 }) only [go_sem, Int.reduceToNat, Int.reduceLE, Int.reduceLT, Int.reduceAdd, Int.reduceSub, Int.reduceMul, Int.reduceEq, Int.reduceNe, Nat.reduceEqDiff, Nat.reducePow, Nat.reduceDiv, Nat.reduceMod, Nat.reduceAdd, Nat.reduceMul, Nat.reduceSub, Nat.reduceLT, Nat.reduceLeDiff, reduceIte, reduceCtorEq, appendA_U]
    refine ⟨0, List.replicate t.length 0, List.replicate r0.length 0, by simp [ints, lin], rfl, by omega, by simp, by simp, ?_, ?_⟩
    · intro i hi; simp [List.getD_eq_getElem?_getD, List.getElem?_replicate, hi]
    · intro m hm; simp [List.getD_eq_getElem?_getD, List.getElem?_replicate, hm, colAt]
  rintro ρ H' ⟨k, a, b, rfl, h18, h2, h3', hk, hal, hbl, ha, hb⟩
  refine vc_sound _ _ _ (by rfl) ?_
  by_cases hkt : (k : Int) < t.length
  · obtain ⟨r, hrk⟩ : ∃ r, t[k]? = some r := ⟨_, List.getElem?_eq_getElem (by omega)⟩
    have hrr := hrok r (List.mem_of_getElem? hrk)
    simp (config := { maxSteps := 1000000 }) only [go_sem, Int.reduceToNat, Int.reduceLE, Int.reduceLT, Int.reduceAdd, Int.reduceSub, Int.reduceMul, Int.reduceEq, Int.reduceNe, Nat.reduceEqDiff, Nat.reducePow, Nat.reduceDiv, Nat.reduceMod, Nat.reduceAdd, Nat.reduceMul, Nat.reduceSub, Nat.reduceLT, Nat.reduceLeDiff, reduceIte, reduceCtorEq, h18, h2, h3', hkt, hrk, hne, appendA_U]
    refine W.loop0 35184338534592 (by rfl) (fun ρ' H' => ∃ (j : Nat) (a b : List Int), H' = ext H [.arr 0 3 (ints a), .arr 0 3 (ints b)] ∧ ρ' 25 = lin j ∧ ρ' 2 = .own H.next 0 0 t.length 1 ∧ ρ' 3 = .own (H.next + 1) 0 0 r0.length 1 ∧ j ≤ r.length ∧ a.length = t.length ∧ b.length = r0.length ∧
      (∀ i, i < t.length → a.getD i 0 = if i < k then (t.getD i []).sum else if i = k then (r.take j).sum else 0) ∧ ∀ m, m < r0.length → b.getD m 0 = colAt (t.take k) m + if m < j then r.getD m 0 else 0) (fun ρ' H => r.length - (iv (ρ' 25)).toNat) ?_ ?_
    · simp (config := { maxSteps := 1000000 }) only [go_sem, Int.reduceToNat, Int.reduceLE, Int.reduceLT, Int.reduceAdd, Int.reduceSub, Int.reduceMul, Int.reduceEq, Int.reduceNe, Nat.reduceEqDiff, Nat.reducePow, Nat.reduceDiv, Nat.reduceMod, Nat.reduceAdd, Nat.reduceMul, Nat.reduceSub, Nat.reduceLT, Nat.reduceLeDiff, reduceIte, reduceCtorEq, h2, h3', appendA_U]
      refine ⟨0, a, b, rfl, rfl, by omega, hal, hbl, fun i hi => ?_, fun m hm => ?_⟩
      · rw [ha i hi]; simp
      · rw [hb m hm]; simp
    rintro ρ' H' ⟨j, a, b, rfl, h25, h2, h3', hj, hal, hbl, ha, hb⟩
    refine vc_sound _ _ _ (by rfl) ?_
    by_cases hjr : (j : Int) < r.length
    · obtain ⟨c, hc⟩ : ∃ c, r[j]? = some c := ⟨_, List.getElem?_eq_getElem (by omega)⟩
      have hrn : ¬ r = [] := by rintro rfl; simp at hjr; omega
      have hjw : (j : Int) < r0.length := by have := hrr.1; omega
      obtain ⟨x, hx⟩ : ∃ x, a[k]? = some x := ⟨_, List.getElem?_eq_getElem (by omega)⟩
      obtain ⟨y, hy⟩ : ∃ y, b[j]? = some y := ⟨_, List.getElem?_eq_getElem (by omega)⟩
      simp (config := { maxSteps := 1000000 }) only [go_sem, Int.reduceToNat, Int.reduceLE, Int.reduceLT, Int.reduceAdd, Int.reduceSub, Int.reduceMul, Int.reduceEq, Int.reduceNe, Nat.reduceEqDiff, Nat.reducePow, Nat.reduceDiv, Nat.reduceMod, Nat.reduceAdd, Nat.reduceMul, Nat.reduceSub, Nat.reduceLT, Nat.reduceLeDiff, reduceIte, reduceCtorEq, h25, h2, h3', hjr, hc, hrn, hjw, hkt, hx, hy, appendA_U]
      have hcb := hrr.2.2.2 c (List.mem_of_getElem? hc)
      have ex : x = (r.take j).sum := by
        have := ha k (by omega)
        rw [getD_some hx] at this
        simpa using this
      have ey : y = colAt (t.take k) j := by
        have := hb j (by omega)
        rw [getD_some hy] at this
        simpa using this
      have b1 := sum_bound (l := r.take j) (n := 3) (fun c hc => hrr.2.2.2 c (List.mem_of_mem_take hc)) (by have := hrr.2.2.1; simp; omega)
      have b2 := colAt_bound (t := t.take k) (n := r0.length) (fun r hr => hrok r (List.mem_of_mem_take hr)) j
      have b3 : (t.take k).length ≤ 3 := by simp; omega
      rw [IntWalk.i64_in ((j : Int) + 1) (by omega), IntWalk.i64_in (x + c) (by omega), IntWalk.i64_in (y + c) (by omega), setAt_ints _ (by omega), setAt_ints _ (by omega)]
      refine ⟨by omega, by omega, ⟨j + 1, a.set k (x + c), b.set j (y + c), rfl, by simp, by omega, by simpa using hal, by simpa using hbl, fun i hi => ?_, fun m hm => ?_⟩, by omega⟩
      · rw [getD_set i (by omega), take_sum_succ hc, ← ex]
        by_cases hik : i = k
        · subst hik; simp
        · rw [if_neg hik, ha i hi]; simp [hik]
      · rw [getD_set m (by omega)]
        by_cases hmj : m = j
        · subst hmj; simp [ey, hc]
        · rw [if_neg hmj, hb m hm]
          have : (m < j + 1) = (m < j) := by apply propext; omega
          simp only [this]
    · simp (config := { maxSteps := 1000000 }) only [go_sem, Int.reduceToNat, Int.reduceLE, Int.reduceLT, Int.reduceAdd, Int.reduceSub, Int.reduceMul, Int.reduceEq, Int.reduceNe, Nat.reduceEqDiff, Nat.reducePow, Nat.reduceDiv, Nat.reduceMod, Nat.reduceAdd, Nat.reduceMul, Nat.reduceSub, Nat.reduceLT, Nat.reduceLeDiff, reduceIte, reduceCtorEq, h25, h2, h3', hjr, h18, appendA_U]
      rw [IntWalk.i64_in ((k : Int) + 1) (by omega)]
      have hje : j = r.length := by omega
      refine ⟨⟨k + 1, a, b, rfl, by simp, by omega, hal, hbl, fun i hi => ?_, fun m hm => ?_⟩, by omega⟩
      · rw [ha i hi]
        by_cases hik : i = k
        · subst hik; simp [hje, hrk]
        · have : (i < k + 1) = (i < k) := by apply propext; omega
          simp only [if_neg hik, this]
      · have hmr : m < j := by have := hrr.1; omega
        rw [hb m hm, if_pos hmr, take_succ_of hrk]
        simp [colAt]
  · simp (config := { maxSteps := 1000000 }) only [go_sem, Int.reduceToNat, Int.reduceLE, Int.reduceLT, Int.reduceAdd, Int.reduceSub, Int.reduceMul, Int.reduceEq, Int.reduceNe, Nat.reduceEqDiff, Nat.reducePow, Nat.reduceDiv, Nat.reduceMod, Nat.reduceAdd, Nat.reduceMul, Nat.reduceSub, Nat.reduceLT, Nat.reduceLeDiff, reduceIte, reduceCtorEq, h18, h2, h3', hkt, appendA_U]
    have hke : t.take k = t := List.take_of_length_le (by omega)
    have e1 : a = rowsOf t := eq_of_getD (by simp [rowsOf, hal]) fun i hi => by
      rw [ha i (by omega), if_pos (by omega)]
      simp [rowsOf, List.getD_eq_getElem?_getD, List.getElem?_eq_getElem (by omega : i < t.length)]
    have e2 : b = colsOf t := eq_of_getD (by unfold colsOf; rw [hr0d]; simp [hbl]) fun i hi => by
      rw [hb i (by omega), hke]
      unfold colsOf
      rw [hr0d]
      simp [List.getD_eq_getElem?_getD, List.getElem?_range (by omega : i < r0.length)]
    rw [← e1, ← e2] at hK
    refine FinV.drop (v' := .tup [vecI a, vecI b]) G0_ok hcl (.tup rfl fun i hi _ => ?_) hK
    match i, hi with
    | 0, _ => exact .ints (Nat.le_refl _) (get_ext H _ 0 (by simp)) (by omega) fun i hi => by simp [ints_get, hi]
    | 1, _ => exact .ints (by omega) (get_ext H _ 1 (by simp)) (by omega) fun i hi => by simp [ints_get, hi]

theorem Margins_spec (t : List (List Int)) (ht : (t.length : Int) < 2 ^ 40) (hr : ∀ r, r ∈ t → (r.length : Int) < 2 ^ 40) (H : AHeap) (K : ARes → AHeap → Prop)
    (hK : K (.ret (if TableOk t then .tup [vecI (rowsOf t), vecI (colsOf t), .lit (.int .i64 0)] else .tup [vecI [], vecI [], .lit (.int .i64 300)])) H) : ACall Tryd.prog G0 22 [vecV t] H K := by
  refine ACall.clo ⟨_, Tryd.func22, rfl, rfl⟩ fun hcl => ?_
  refine ACall.of_body (n := 18) (rs := [.tmp 2, .tmp 3, .tmp 4]) Tryd.func22 rfl rfl rfl (by decide) (by kernel_rfl) (by simp) ?_
  simp (config := { maxSteps := 1000000 }) only [go_sem, Int.reduceToNat, Int.reduceLE, Int.reduceLT, Int.reduceAdd, Int.reduceSub, Int.reduceMul, Int.reduceEq, Int.reduceNe, Nat.reduceEqDiff, Nat.reducePow, Nat.reduceDiv, Nat.reduceMod, Nat.reduceAdd, Nat.reduceMul, Nat.reduceSub, Nat.reduceLT, Nat.reduceLeDiff, reduceIte, reduceCtorEq, vecV, appendA_U]
  refine AApply.clo (check_spec t ht hr H _ ⟨trivial, ?_⟩)
  by_cases hok : TableOk t
  · rw [if_pos hok] at hK ⊢
    simp (config := { maxSteps := 1000000 }) only [go_sem, Int.reduceToNat, Int.reduceLE, Int.reduceLT, Int.reduceAdd, Int.reduceSub, Int.reduceMul, Int.reduceEq, Int.reduceNe, Nat.reduceEqDiff, Nat.reducePow, Nat.reduceDiv, Nat.reduceMod, Nat.reduceAdd, Nat.reduceMul, Nat.reduceSub, Nat.reduceLT, Nat.reduceLeDiff, reduceIte, reduceCtorEq, appendA_U]
    refine AApply.clo (margins_spec t hok H _ ⟨trivial, ?_⟩)
    simp (config := { maxSteps := 1000000 }) only [go_sem, Int.reduceToNat, Int.reduceLE, Int.reduceLT, Int.reduceAdd, Int.reduceSub, Int.reduceMul, Int.reduceEq, Int.reduceNe, Nat.reduceEqDiff, Nat.reducePow, Nat.reduceDiv, Nat.reduceMod, Nat.reduceAdd, Nat.reduceMul, Nat.reduceSub, Nat.reduceLT, Nat.reduceLeDiff, reduceIte, reduceCtorEq, appendA_U]
    exact FinV.mk (Nat.le_refl _) hK
  · rw [if_neg hok] at hK ⊢
    simp (config := { maxSteps := 1000000 }) only [go_sem, Int.reduceToNat, Int.reduceLE, Int.reduceLT, Int.reduceAdd, Int.reduceSub, Int.reduceMul, Int.reduceEq, Int.reduceNe, Nat.reduceEqDiff, Nat.reducePow, Nat.reduceDiv, Nat.reduceMod, Nat.reduceAdd, Nat.reduceMul, Nat.reduceSub, Nat.reduceLT, Nat.reduceLeDiff, reduceIte, reduceCtorEq, appendA_U]
    refine FinV.drop0 (v' := .tup [vecI [], vecI [], .lit (.int .i64 300)]) G0_ok hcl (.tup rfl fun i hi _ => ?_) hK
    match i, hi with
    | 0, _ => exact .ints_nil
    | 1, _ => exact .ints_nil
    | 2, _ => exact .lit _
end Go.Proofs
set_option linter.unusedSimpArgs false
namespace Go.Proofs
open Go.Hx

theorem sum_map_add (f g : Nat → Int) : ∀ l : List Nat, (l.map fun j => f j + g j).sum = (l.map f).sum + (l.map g).sum
  | [] => rfl
  | a :: l => by simp only [List.map_cons, List.sum_cons, sum_map_add f g l]; omega
theorem range_getD (r : List Int) : (List.range r.length).map (fun j => r.getD j 0) = r := by
  refine List.ext_getElem (by simp) fun i h1 h2 => ?_
  simp [List.getD_eq_getElem?_getD, List.getElem?_eq_getElem h2]
theorem colSum {n : Nat} {t : List (List Int)} (h : ∀ r, r ∈ t → r.length = n) : ((List.range n).map (colAt t)).sum = total2 t := by
  induction t with
  | nil =>
    have : (List.range n).map (colAt []) = List.replicate n 0 := by
      refine List.ext_getElem (by simp) fun i h1 h2 => ?_
      simp [colAt]
    rw [this]
    simp [total2]
  | cons r t ih =>
    have h1 := ih fun r hr => h r (by simp [hr])
    have h2 : (List.range n).map (colAt (r :: t)) = (List.range n).map fun j => r.getD j 0 + colAt t j := by
      refine List.map_congr_left fun j _ => ?_
      simp [colAt]
    rw [h2, sum_map_add, h1]
    have h3 := range_getD r
    rw [h r (by simp)] at h3
    rw [h3]
    simp [total2]
theorem rows_ok {t : List (List Int)} (h : TableOk t) : ∀ r, r ∈ t → rowOk (t.headD []).length r := h.2.2.1
theorem cols_ok {t : List (List Int)} (h : TableOk t) : (colsOf t).length ≤ 3 ∧ (∀ c, c ∈ colsOf t → 0 ≤ c) ∧ (colsOf t).sum ≤ 20 := by
  have hr := rows_ok h
  have h0 : 0 < t.length := by have := h.1; omega
  have hw : (t.headD []).length ≤ 3 := by
    have := (hr t[0] (List.getElem_mem h0))
    have h1 := this.1
    have h2 := this.2.2.1
    omega
  refine ⟨by unfold colsOf; rw [List.length_map, List.length_range]; exact hw, fun c hc => ?_, ?_⟩
  · unfold colsOf at hc
    obtain ⟨j, _, rfl⟩ := List.mem_map.1 hc
    exact (colAt_bound hr j).1
  · unfold colsOf
    rw [colSum fun r hm => (hr r hm).1]
    exact h.2.2.2.2
theorem total_spec (l : List Int) (hl : l.length ≤ 3) (hn : ∀ c, c ∈ l → 0 ≤ c) (hs : l.sum ≤ 20) (H : AHeap) (K : ARes → AHeap → Prop) (hK : K (.ret (.lit (.int .i64 (overI l.sum l)))) H) : ACall Tryd.prog G0 41 [vecI l] H K := by
  have hs0 := sum_nonneg hn
  have f20 := fact_20
  refine ACall.of_body (n := 35) (rs := [.tmp 2]) Tryd.func41 rfl rfl rfl (by decide) (by kernel_rfl) (by simp) ?_
  simp (config := { maxSteps := 1000000 }) only [go_sem, Int.reduceToNat, Int.reduceLE, Int.reduceLT, Int.reduceAdd, Int.reduceSub, Int.reduceMul, Int.reduceEq, Int.reduceNe, Nat.reduceEqDiff, Nat.reducePow, Nat.reduceDiv, Nat.reduceMod, Nat.reduceAdd, Nat.reduceMul, Nat.reduceSub, Nat.reduceLT, Nat.reduceLeDiff, reduceIte, reduceCtorEq, appendA_U]
  refine W.loop0 522280 (by rfl) (fun ρ H' => H' = H ∧ ∃ k : Nat, ρ 11 = lin k ∧ k ≤ l.length ∧ ρ 3 = lin (l.take k).sum) (fun ρ H => l.length - (iv (ρ 11)).toNat) ?_ ?_
  · simp (config := { maxSteps := 1000000 }) only [go_sem, Int.reduceToNat, Int.reduceLE, Int.reduceLT, Int.reduceAdd, Int.reduceSub, Int.reduceMul, Int.reduceEq, Int.reduceNe, Nat.reduceEqDiff, Nat.reducePow, Nat.reduceDiv, Nat.reduceMod, Nat.reduceAdd, Nat.reduceMul, Nat.reduceSub, Nat.reduceLT, Nat.reduceLeDiff, reduceIte, reduceCtorEq, appendA_U]
    exact ⟨0, rfl, by omega, by simp⟩
  rintro ρ H' ⟨rfl, k, h11, hk, h3⟩
  refine vc_sound _ _ _ (by rfl) ?_
  by_cases hb : (k : Int) < l.length
  · obtain ⟨c, hc⟩ : ∃ c, l[k]? = some c := ⟨_, List.getElem?_eq_getElem (by omega)⟩
    have hne : ¬ l = [] := by rintro rfl; simp at hb; omega
    simp (config := { maxSteps := 1000000 }) only [go_sem, Int.reduceToNat, Int.reduceLE, Int.reduceLT, Int.reduceAdd, Int.reduceSub, Int.reduceMul, Int.reduceEq, Int.reduceNe, Nat.reduceEqDiff, Nat.reducePow, Nat.reduceDiv, Nat.reduceMod, Nat.reduceAdd, Nat.reduceMul, Nat.reduceSub, Nat.reduceLT, Nat.reduceLeDiff, reduceIte, reduceCtorEq, h11, h3, hb, hc, hne, appendA_U]
    have b1 := take_sum_le hn k
    have b2 := le_sum hn c (List.mem_of_getElem? hc)
    have b3 := hn c (List.mem_of_getElem? hc)
    rw [IntWalk.i64_in ((k : Int) + 1) (by omega), IntWalk.i64_in (_ + c) (by omega)]
    exact ⟨⟨k + 1, by simp, by omega, by rw [take_sum_succ hc]⟩, by omega⟩
  · have hke : l.take k = l := List.take_of_length_le (by omega)
    rw [hke] at h3
    obtain ⟨n, hn'⟩ : ∃ n : Nat, l.sum = n := ⟨l.sum.toNat, by omega⟩
    have hfn : factL[n]? = some (fact n) := factL_get (by omega)
    have hfl : (n : Int) < 21 := by omega
    simp (config := { maxSteps := 1000000 }) only [go_sem, Int.reduceToNat, Int.reduceLE, Int.reduceLT, Int.reduceAdd, Int.reduceSub, Int.reduceMul, Int.reduceEq, Int.reduceNe, Nat.reduceEqDiff, Nat.reducePow, Nat.reduceDiv, Nat.reduceMod, Nat.reduceAdd, Nat.reduceMul, Nat.reduceSub, Nat.reduceLT, Nat.reduceLeDiff, reduceIte, reduceCtorEq, h11, h3, hb, evA_g0, hn', hfn, appendA_U]
    refine ⟨by omega, ?_⟩
    refine W.loop0 17163092288 (by rfl) (fun ρ' H2 => H2 = H' ∧ ∃ k : Nat, ρ' 24 = lin k ∧ k ≤ l.length ∧ ρ' 6 = lin (quoF (fact n) (l.take k))) (fun ρ' H => l.length - (iv (ρ' 24)).toNat) ?_ ?_
    · simp (config := { maxSteps := 1000000 }) only [go_sem, Int.reduceToNat, Int.reduceLE, Int.reduceLT, Int.reduceAdd, Int.reduceSub, Int.reduceMul, Int.reduceEq, Int.reduceNe, Nat.reduceEqDiff, Nat.reducePow, Nat.reduceDiv, Nat.reduceMod, Nat.reduceAdd, Nat.reduceMul, Nat.reduceSub, Nat.reduceLT, Nat.reduceLeDiff, reduceIte, reduceCtorEq, appendA_U]
      exact ⟨0, rfl, by omega, by simp [quoF]⟩
    rintro ρ' H2 ⟨rfl, j, h24, hj, h6⟩
    refine vc_sound _ _ _ (by rfl) ?_
    by_cases hb2 : (j : Int) < l.length
    · obtain ⟨c, hc⟩ : ∃ c, l[j]? = some c := ⟨_, List.getElem?_eq_getElem (by omega)⟩
      have hne : ¬ l = [] := by rintro rfl; simp at hb2; omega
      have b2 := le_sum hn c (List.mem_of_getElem? hc)
      have b3 := hn c (List.mem_of_getElem? hc)
      obtain ⟨m, rfl⟩ : ∃ m : Nat, c = m := ⟨c.toNat, by omega⟩
      have hfm : factL[m]? = some (fact m) := factL_get (by omega)
      have hfp := fact_pos m
      have hf0 : ¬ fact m = 0 := by omega
      have q := quoF_bound (l := l.take j) (Int.le_of_lt (fact_pos n))
      have q2 := tdiv_bound q.1 hfp
      have q3 := fact_mono (by omega : n ≤ 20)
      simp (config := { maxSteps := 1000000 }) only [go_sem, Int.reduceToNat, Int.reduceLE, Int.reduceLT, Int.reduceAdd, Int.reduceSub, Int.reduceMul, Int.reduceEq, Int.reduceNe, Nat.reduceEqDiff, Nat.reducePow, Nat.reduceDiv, Nat.reduceMod, Nat.reduceAdd, Nat.reduceMul, Nat.reduceSub, Nat.reduceLT, Nat.reduceLeDiff, reduceIte, reduceCtorEq, h24, h6, hb2, hc, hne, evA_g0, hfm, hf0, appendA_U]
      rw [IntWalk.i64_in ((j : Int) + 1) (by omega), IntWalk.i64_in (Int.tdiv _ _) (by omega)]
      exact ⟨by omega, ⟨j + 1, by simp, by omega, by rw [quoF_succ hc]; rfl⟩, by omega⟩
    · have hje : l.take j = l := List.take_of_length_le (by omega)
      rw [hje] at h6
      simp (config := { maxSteps := 1000000 }) only [go_sem, Int.reduceToNat, Int.reduceLE, Int.reduceLT, Int.reduceAdd, Int.reduceSub, Int.reduceMul, Int.reduceEq, Int.reduceNe, Nat.reduceEqDiff, Nat.reducePow, Nat.reduceDiv, Nat.reduceMod, Nat.reduceAdd, Nat.reduceMul, Nat.reduceSub, Nat.reduceLT, Nat.reduceLeDiff, reduceIte, reduceCtorEq, h24, h6, hb2, appendA_U]
      refine FinV.mk (Nat.le_refl _) ?_
      unfold overI at hK
      rw [hn'] at hK
      exact hK

theorem Total_spec (t : List (List Int)) (ht : (t.length : Int) < 2 ^ 40) (hr : ∀ r, r ∈ t → (r.length : Int) < 2 ^ 40) (H : AHeap) (K : ARes → AHeap → Prop)
    (hK : K (.ret (if TableOk t then .tup [.lit (.int .i64 (overI (colsOf t).sum (colsOf t))), .lit (.int .i64 0)] else .tup [.lit (.int .i64 0), .lit (.int .i64 300)])) H) : ACall Tryd.prog G0 14 [vecV t] H K := by
  refine ACall.of_body (n := 19) (rs := [.tmp 2, .tmp 3]) Tryd.func14 rfl rfl rfl (by decide) (by kernel_rfl) (by simp) ?_
  simp (config := { maxSteps := 1000000 }) only [go_sem, Int.reduceToNat, Int.reduceLE, Int.reduceLT, Int.reduceAdd, Int.reduceSub, Int.reduceMul, Int.reduceEq, Int.reduceNe, Nat.reduceEqDiff, Nat.reducePow, Nat.reduceDiv, Nat.reduceMod, Nat.reduceAdd, Nat.reduceMul, Nat.reduceSub, Nat.reduceLT, Nat.reduceLeDiff, reduceIte, reduceCtorEq, vecV, appendA_U]
  refine AApply.clo (check_spec t ht hr H _ ⟨trivial, ?_⟩)
  by_cases hok : TableOk t
  · rw [if_pos hok] at hK ⊢
    simp (config := { maxSteps := 1000000 }) only [go_sem, Int.reduceToNat, Int.reduceLE, Int.reduceLT, Int.reduceAdd, Int.reduceSub, Int.reduceMul, Int.reduceEq, Int.reduceNe, Nat.reduceEqDiff, Nat.reducePow, Nat.reduceDiv, Nat.reduceMod, Nat.reduceAdd, Nat.reduceMul, Nat.reduceSub, Nat.reduceLT, Nat.reduceLeDiff, reduceIte, reduceCtorEq, appendA_U]
    refine AApply.clo (margins_spec t hok H _ ⟨trivial, ?_⟩)
    simp (config := { maxSteps := 1000000 }) only [go_sem, Int.reduceToNat, Int.reduceLE, Int.reduceLT, Int.reduceAdd, Int.reduceSub, Int.reduceMul, Int.reduceEq, Int.reduceNe, Nat.reduceEqDiff, Nat.reducePow, Nat.reduceDiv, Nat.reduceMod, Nat.reduceAdd, Nat.reduceMul, Nat.reduceSub, Nat.reduceLT, Nat.reduceLeDiff, reduceIte, reduceCtorEq, appendA_U]
    obtain ⟨h1, h2, h3⟩ := cols_ok hok
    refine AApply.clo (total_spec (colsOf t) h1 h2 h3 H _ ⟨trivial, ?_⟩)
    simp (config := { maxSteps := 1000000 }) only [go_sem, Int.reduceToNat, Int.reduceLE, Int.reduceLT, Int.reduceAdd, Int.reduceSub, Int.reduceMul, Int.reduceEq, Int.reduceNe, Nat.reduceEqDiff, Nat.reducePow, Nat.reduceDiv, Nat.reduceMod, Nat.reduceAdd, Nat.reduceMul, Nat.reduceSub, Nat.reduceLT, Nat.reduceLeDiff, reduceIte, reduceCtorEq, appendA_U]
    exact FinV.mk (Nat.le_refl _) hK
  · rw [if_neg hok] at hK ⊢
    simp (config := { maxSteps := 1000000 }) only [go_sem, Int.reduceToNat, Int.reduceLE, Int.reduceLT, Int.reduceAdd, Int.reduceSub, Int.reduceMul, Int.reduceEq, Int.reduceNe, Nat.reduceEqDiff, Nat.reducePow, Nat.reduceDiv, Nat.reduceMod, Nat.reduceAdd, Nat.reduceMul, Nat.reduceSub, Nat.reduceLT, Nat.reduceLeDiff, reduceIte, reduceCtorEq, appendA_U]
    exact FinV.mk (Nat.le_refl _) hK
end Go.Proofs
set_option linter.unusedSimpArgs false
namespace Go.Proofs
open Go.Hx

/-- The cells of a table's grid. -/
def grid9 (t : List (List Int)) : List Int := (List.range 9).map fun p => (t.getD (p / 3) []).getD (p % 3) 0

theorem grid9_len (t : List (List Int)) : (grid9 t).length = 9 := by simp [grid9]
theorem grid9_get {t : List (List Int)} {p : Nat} (h : p < 9) : (grid9 t)[p]? = some ((t.getD (p / 3) []).getD (p % 3) 0) := by
  simp [grid9, List.getElem?_range h]
theorem grid9_step {t : List (List Int)} {k : Nat} {r : List Int} (hk : k < 3) (hr : t[k]? = some r) (hl : r.length ≤ 3) :
    setAt (ints (grid9 (t.take k))) (k * 3) ((ints r).take (min r.length 3)) = ints (grid9 (t.take (k + 1))) := by
  have hm : min r.length 3 = (ints r).length := by simp [ints]; omega
  rw [hm, List.take_length]
  have hlen : (ints r).length = r.length := by simp [ints]
  refine List.ext_getElem? fun p => ?_
  have htk : (t.take k).length = k := by
    have : k < t.length := by
      rcases Nat.lt_or_ge k t.length with h | h
      · exact h
      · rw [List.getElem?_eq_none h] at hr; cases hr
    simp; omega
  by_cases hp : p < 9
  · rw [ints_get, grid9_get hp]
    unfold setAt
    have e1 : ((ints (grid9 (t.take k))).take (k * 3)).length = k * 3 := by simp [ints, grid9_len]; omega
    rcases Nat.lt_or_ge p (k * 3) with h | h
    · rw [List.append_assoc, List.getElem?_append_left (by omega), List.getElem?_take_of_lt h, ints_get, grid9_get hp]
      have : p / 3 < k := by omega
      rw [take_succ_of hr]
      simp only [List.getD_eq_getElem?_getD, List.getElem?_append_left (show p / 3 < (t.take k).length by omega)]
    · rw [List.append_assoc, List.getElem?_append_right (by omega), e1]
      rcases Nat.lt_or_ge p (k * 3 + r.length) with h2 | h2
      · have e3 : p / 3 = k := by omega
        have e4 : p % 3 = p - k * 3 := by omega
        rw [List.getElem?_append_left (by omega), ints_get, e3, e4, take_succ_of hr]
        simp only [List.getD_eq_getElem?_getD, List.getElem?_append_right (show (t.take k).length ≤ k by omega), htk, Nat.sub_self, List.getElem?_cons_zero, Option.getD_some]
        rw [List.getElem?_eq_getElem (show p - k * 3 < r.length by omega)]
        simp
      · rw [List.getElem?_append_right (by omega), hlen, List.getElem?_drop, ints_get]
        have e5 : k * 3 + r.length + (p - k * 3 - r.length) = p := by omega
        rw [e5, grid9_get hp]
        congr 2
        rcases Nat.lt_or_ge p (k * 3 + 3) with h3 | h3
        · have e3 : p / 3 = k := by omega
          have e4 : p % 3 = p - k * 3 := by omega
          rw [e3, e4, take_succ_of hr]
          simp only [List.getD_eq_getElem?_getD, List.getElem?_append_right (show (t.take k).length ≤ k by omega), htk, Nat.sub_self, List.getElem?_cons_zero, Option.getD_some]
          rw [List.getElem?_eq_none (show r.length ≤ p - k * 3 by omega), List.getElem?_eq_none (show (t.take k).length ≤ k by omega)]
          rfl
        · have e3 : k + 1 ≤ p / 3 := by omega
          simp only [List.getD_eq_getElem?_getD]
          rw [List.getElem?_eq_none (show (t.take k).length ≤ p / 3 by omega), List.getElem?_eq_none (show (t.take (k + 1)).length ≤ p / 3 by simp; omega)]
  · have e1 : (ints (grid9 (t.take (k + 1)))).length = 9 := by simp [ints, grid9_len]
    have e2 : (setAt (ints (grid9 (t.take k))) (k * 3) (ints r)).length = 9 := by
      rw [length_setAt (by simp [ints, grid9_len]; omega)]; simp [ints, grid9_len]
    rw [List.getElem?_eq_none (by omega), List.getElem?_eq_none (by omega)]

theorem fill_spec (t : List (List Int)) (ht : TableOk t) (H : AHeap) (K : ARes → AHeap → Prop) (hK : K (.ret (.agg (ints (grid9 t)))) H) : ACall Tryd.prog G0 44 [vecV t] H K := by
  refine ACall.clo ⟨_, Tryd.func44, rfl, rfl⟩ fun hcl => ?_
  have hrok := rows_ok ht
  have h3 := ht.2.1
  refine ACall.of_body (n := 20) (rs := [.cell 2 76]) Tryd.func44 rfl rfl rfl (by decide) (by kernel_rfl) (by simp) ?_
  simp (config := { maxSteps := 1000000 }) only [go_sem, Int.reduceToNat, Int.reduceLE, Int.reduceLT, Int.reduceAdd, Int.reduceSub, Int.reduceMul, Int.reduceEq, Int.reduceNe, Nat.reduceEqDiff, Nat.reducePow, Nat.reduceDiv, Nat.reduceMod, Nat.reduceAdd, Nat.reduceMul, Nat.reduceSub, Nat.reduceLT, Nat.reduceLeDiff, reduceIte, reduceCtorEq, vecV, appendA_U]
  refine W.loop0 524080 (by rfl) (fun ρ H' => ∃ k : Nat, H' = ext H [.arr 0 76 (ints (List.replicate 9 0)), .arr 0 76 (ints (grid9 (t.take k)))] ∧ ρ 8 = lin k ∧ k ≤ t.length) (fun ρ H => t.length - (iv (ρ 8)).toNat) ?_ ?_
  · simp (config := { maxSteps := 1000000 }) only [go_sem, Int.reduceToNat, Int.reduceLE, Int.reduceLT, Int.reduceAdd, Int.reduceSub, Int.reduceMul, Int.reduceEq, Int.reduceNe, Nat.reduceEqDiff, Nat.reducePow, Nat.reduceDiv, Nat.reduceMod, Nat.reduceAdd, Nat.reduceMul, Nat.reduceSub, Nat.reduceLT, Nat.reduceLeDiff, reduceIte, reduceCtorEq, appendA_U]
    exact ⟨0, rfl, rfl, by omega⟩
  rintro ρ H' ⟨k, rfl, h8, hk⟩
  refine vc_sound _ _ _ (by rfl) ?_
  by_cases hb : (k : Int) < t.length
  · obtain ⟨r, hrk⟩ : ∃ r, t[k]? = some r := ⟨_, List.getElem?_eq_getElem (by omega)⟩
    have hne : ¬ t = [] := by rintro rfl; simp at hb; omega
    have hkc : (k : Int) < 3 := by omega
    simp (config := { maxSteps := 1000000 }) only [go_sem, Int.reduceToNat, Int.reduceLE, Int.reduceLT, Int.reduceAdd, Int.reduceSub, Int.reduceMul, Int.reduceEq, Int.reduceNe, Nat.reduceEqDiff, Nat.reducePow, Nat.reduceDiv, Nat.reduceMod, Nat.reduceAdd, Nat.reduceMul, Nat.reduceSub, Nat.reduceLT, Nat.reduceLeDiff, reduceIte, reduceCtorEq, h8, hb, hrk, hne, hkc, appendA_U]
    have hrl := (hrok r (List.mem_of_getElem? hrk)).2.2.1
    rw [IntWalk.i64_in ((k : Int) + 1) (by omega), grid9_step (by omega) hrk hrl]
    have h9 := grid9_len (t.take k)
    exact ⟨by omega, ⟨by omega, all_one_ints r⟩, ⟨k + 1, rfl, by simp, by omega⟩, by omega⟩
  · have hke : t.take k = t := List.take_of_length_le (by omega)
    rw [hke]
    simp (config := { maxSteps := 1000000 }) only [go_sem, Int.reduceToNat, Int.reduceLE, Int.reduceLT, Int.reduceAdd, Int.reduceSub, Int.reduceMul, Int.reduceEq, Int.reduceNe, Nat.reduceEqDiff, Nat.reducePow, Nat.reduceDiv, Nat.reduceMod, Nat.reduceAdd, Nat.reduceMul, Nat.reduceSub, Nat.reduceLT, Nat.reduceLeDiff, reduceIte, reduceCtorEq, h8, hb, appendA_U]
    have h9 : (ints (grid9 t)).length = 9 := by simp [ints, grid9_len]
    have e1 : (ints (grid9 t)).take 9 = ints (grid9 t) := List.take_of_length_le (by omega)
    have e2 : (ints (grid9 t)).drop 9 = [] := List.drop_of_length_le (by omega)
    have e3 : (ints (List.replicate 9 0)).drop 9 = [] := List.drop_of_length_le (by simp [ints])
    rw [e1, h9, e3, List.append_nil, e1]
    refine ⟨by simp [grid9_len], ⟨rfl, all_one_ints _, by simp⟩, by simp, ?_⟩
    refine FinV.drop (v' := .agg (ints (grid9 t))) G0_ok hcl (.agg rfl fun i hi _ => ?_) hK
    simp only [ints, List.getElem_map]
    exact .lit _
end Go.Proofs
set_option linter.unusedSimpArgs false
namespace Go.Proofs
open Go.Hx

def waysP (rows g : List Int) (w : Nat) : Nat → Int
  | 0 => 1
  | k + 1 => waysP rows g w k * quoF (fact (rows.getD k 0).toNat) ((g.drop (k * 3)).take w)
theorem fact_mul (a b : Nat) : fact a * fact b ≤ fact (a + b) := by
  induction b with
  | zero => simp [fact]
  | succ b ih =>
    have h1 : fact (b + 1) = fact b * ((b + 1 : Nat) : Int) := rfl
    have h2 : fact (a + (b + 1)) = fact (a + b) * ((a + b + 1 : Nat) : Int) := rfl
    rw [h1, h2, ← Int.mul_assoc]
    have h3 : fact a * fact b * ((b + 1 : Nat) : Int) ≤ fact (a + b) * ((b + 1 : Nat) : Int) := Int.mul_le_mul_of_nonneg_right ih (by omega)
    have h4 : fact (a + b) * ((b + 1 : Nat) : Int) ≤ fact (a + b) * ((a + b + 1 : Nat) : Int) := Int.mul_le_mul_of_nonneg_left (by omega) (Int.le_of_lt (fact_pos _))
    exact Int.le_trans h3 h4
theorem waysP_bound {rows g : List Int} {w : Nat} (hn : ∀ c, c ∈ rows → 0 ≤ c) : ∀ k, k ≤ rows.length → 0 ≤ waysP rows g w k ∧ waysP rows g w k ≤ fact (rows.take k).sum.toNat := by
  intro k
  induction k with
  | zero => intro _; simp [waysP, fact]
  | succ k ih =>
    intro hk
    have h1 := ih (by omega)
    obtain ⟨c, hc⟩ : ∃ c, rows[k]? = some c := ⟨_, List.getElem?_eq_getElem (by omega)⟩
    have hc0 := hn c (List.mem_of_getElem? hc)
    have hs := (take_sum_le hn k).1
    have q := quoF_bound (l := (g.drop (k * 3)).take w) (Int.le_of_lt (fact_pos c.toNat))
    simp only [waysP, getD_some hc]
    rw [take_sum_succ hc]
    have e : ((rows.take k).sum + c).toNat = (rows.take k).sum.toNat + c.toNat := by omega
    rw [e]
    refine ⟨Int.mul_nonneg h1.1 q.1, Int.le_trans ?_ (fact_mul _ _)⟩
    exact Int.mul_le_mul h1.2 q.2 q.1 (Int.le_of_lt (fact_pos _))

theorem ways_spec (g rows : List Int) (w : Nat) (hg : g.length = 9) (hgn : ∀ c, c ∈ g → 0 ≤ c ∧ c ≤ 20) (hr3 : rows.length ≤ 3) (hn : ∀ c, c ∈ rows → 0 ≤ c) (hs : rows.sum ≤ 20) (hw : w ≤ 3)
    (H : AHeap) (K : ARes → AHeap → Prop) (hK : K (.ret (.lit (.int .i64 (waysP rows g w rows.length)))) H) : ACall Tryd.prog G0 45 [.vptr (ints g) 0, vecI rows, .lit (.int .i64 w)] H K := by
  have f20 := fact_20
  refine ACall.of_body (n := 45) (rs := [.tmp 6]) Tryd.func45 rfl rfl rfl (by decide) (by kernel_rfl) (by simp) ?_
  simp (config := { maxSteps := 1000000 }) only [go_sem, Int.reduceToNat, Int.reduceLE, Int.reduceLT, Int.reduceAdd, Int.reduceSub, Int.reduceMul, Int.reduceEq, Int.reduceNe, Nat.reduceEqDiff, Nat.reducePow, Nat.reduceDiv, Nat.reduceMod, Nat.reduceAdd, Nat.reduceMul, Nat.reduceSub, Nat.reduceLT, Nat.reduceLeDiff, reduceIte, reduceCtorEq, appendA_U]
  refine W.loop0 17592186017664 (by rfl) (fun ρ H' => H' = H ∧ ∃ k : Nat, ρ 15 = lin k ∧ k ≤ rows.length ∧ ρ 7 = lin (waysP rows g w k)) (fun ρ H => rows.length - (iv (ρ 15)).toNat) ?_ ?_
  · simp (config := { maxSteps := 1000000 }) only [go_sem, Int.reduceToNat, Int.reduceLE, Int.reduceLT, Int.reduceAdd, Int.reduceSub, Int.reduceMul, Int.reduceEq, Int.reduceNe, Nat.reduceEqDiff, Nat.reducePow, Nat.reduceDiv, Nat.reduceMod, Nat.reduceAdd, Nat.reduceMul, Nat.reduceSub, Nat.reduceLT, Nat.reduceLeDiff, reduceIte, reduceCtorEq, appendA_U]
    exact ⟨0, rfl, by omega, rfl⟩
  rintro ρ H' ⟨rfl, k, h15, hk, h7⟩
  refine vc_sound _ _ _ (by rfl) ?_
  by_cases hb : (k : Int) < rows.length
  · obtain ⟨c, hc⟩ : ∃ c, rows[k]? = some c := ⟨_, List.getElem?_eq_getElem (by omega)⟩
    have hne : ¬ rows = [] := by rintro rfl; simp at hb; omega
    have b2 := le_sum hn c (List.mem_of_getElem? hc)
    have b3 := hn c (List.mem_of_getElem? hc)
    obtain ⟨n, rfl⟩ : ∃ n : Nat, c = n := ⟨c.toNat, by omega⟩
    have hfn : factL[n]? = some (fact n) := factL_get (by omega)
    have hgne : ¬ g = [] := by rintro rfl; simp at hg
    have hwl : ((w : Int)) ≤ 3 := by omega
    have hk3 : (k : Int) < 3 := by omega
    simp (config := { maxSteps := 1000000 }) only [go_sem, Int.reduceToNat, Int.reduceLE, Int.reduceLT, Int.reduceAdd, Int.reduceSub, Int.reduceMul, Int.reduceEq, Int.reduceNe, Nat.reduceEqDiff, Nat.reducePow, Nat.reduceDiv, Nat.reduceMod, Nat.reduceAdd, Nat.reduceMul, Nat.reduceSub, Nat.reduceLT, Nat.reduceLeDiff, reduceIte, reduceCtorEq, h15, h7, hb, hc, hne, hfn, evA_g0, hwl, hk3, hg, hgne, ints_take, ints_drop, appendA_U]
    repeat (refine And.intro (by first | omega | (simp; done) | (simp; omega) | (intros; omega) | exact ⟨rfl, by omega, by omega, all_one_ints _⟩) ?_)
    obtain ⟨r, hr⟩ : ∃ r, (g.drop (k * 3)).take w = r := ⟨_, rfl⟩
    have hrl : r.length = w := by rw [← hr]; simp; omega
    have hrn : ∀ c, c ∈ r → 0 ≤ c ∧ c ≤ 20 := fun c hc => hgn c (by rw [← hr] at hc; exact List.mem_of_mem_drop (List.mem_of_mem_take hc))
    rw [hr]
    refine W.loop0 1098437891072 (by rfl) (fun ρ' H2 => H2 = H' ∧ ∃ j : Nat, ρ' 30 = lin j ∧ j ≤ w ∧ ρ' 10 = lin (quoF (fact n) (r.take j))) (fun ρ' H => w - (iv (ρ' 30)).toNat) ?_ ?_
    · simp (config := { maxSteps := 1000000 }) only [go_sem, Int.reduceToNat, Int.reduceLE, Int.reduceLT, Int.reduceAdd, Int.reduceSub, Int.reduceMul, Int.reduceEq, Int.reduceNe, Nat.reduceEqDiff, Nat.reducePow, Nat.reduceDiv, Nat.reduceMod, Nat.reduceAdd, Nat.reduceMul, Nat.reduceSub, Nat.reduceLT, Nat.reduceLeDiff, reduceIte, reduceCtorEq, appendA_U]
      exact ⟨0, rfl, by omega, by simp [quoF]⟩
    rintro ρ' H2 ⟨rfl, j, h30, hj, h10⟩
    refine vc_sound _ _ _ (by rfl) ?_
    have q := quoF_bound (l := r.take j) (Int.le_of_lt (fact_pos n))
    have q3 := fact_mono (by omega : n ≤ 20)
    by_cases hb2 : (j : Int) < w
    · obtain ⟨c, hcc⟩ : ∃ c, r[j]? = some c := ⟨_, List.getElem?_eq_getElem (by omega)⟩
      have hrne : ¬ r = [] := by rintro rfl; simp at hcc
      have b4 := hrn c (List.mem_of_getElem? hcc)
      obtain ⟨m, rfl⟩ : ∃ m : Nat, c = m := ⟨c.toNat, by omega⟩
      have hfm : factL[m]? = some (fact m) := factL_get (by omega)
      have hfp := fact_pos m
      have hf0 : ¬ fact m = 0 := by omega
      have q2 := tdiv_bound q.1 hfp
      simp (config := { maxSteps := 1000000 }) only [go_sem, Int.reduceToNat, Int.reduceLE, Int.reduceLT, Int.reduceAdd, Int.reduceSub, Int.reduceMul, Int.reduceEq, Int.reduceNe, Nat.reduceEqDiff, Nat.reducePow, Nat.reduceDiv, Nat.reduceMod, Nat.reduceAdd, Nat.reduceMul, Nat.reduceSub, Nat.reduceLT, Nat.reduceLeDiff, reduceIte, reduceCtorEq, h30, h10, hb2, hcc, hrne, evA_g0, hfm, hf0, appendA_U]
      rw [IntWalk.i64_in ((j : Int) + 1) (by omega), IntWalk.i64_in (Int.tdiv _ _) (by omega)]
      exact ⟨by omega, ⟨j + 1, by simp, by omega, by rw [quoF_succ hcc]; rfl⟩, by omega⟩
    · have hje : r.take j = r := List.take_of_length_le (by omega)
      rw [hje] at h10 q
      simp (config := { maxSteps := 1000000 }) only [go_sem, Int.reduceToNat, Int.reduceLE, Int.reduceLT, Int.reduceAdd, Int.reduceSub, Int.reduceMul, Int.reduceEq, Int.reduceNe, Nat.reduceEqDiff, Nat.reducePow, Nat.reduceDiv, Nat.reduceMod, Nat.reduceAdd, Nat.reduceMul, Nat.reduceSub, Nat.reduceLT, Nat.reduceLeDiff, reduceIte, reduceCtorEq, h30, h10, hb2, h15, h7, appendA_U]
      have p1 := waysP_bound (g := g) (w := w) hn (k + 1) (by omega)
      have p2 := (take_sum_le hn (k + 1))
      have p3 := fact_mono (by omega : (rows.take (k + 1)).sum.toNat ≤ 20)
      have e : waysP rows g w (k + 1) = waysP rows g w k * quoF (fact n) r := by simp [waysP, hc, hr]
      rw [e] at p1
      rw [IntWalk.i64_in ((k : Int) + 1) (by omega), IntWalk.i64_in (_ * _) (by omega)]
      exact ⟨⟨k + 1, by simp, by omega, by rw [e]⟩, by omega⟩
  · simp (config := { maxSteps := 1000000 }) only [go_sem, Int.reduceToNat, Int.reduceLE, Int.reduceLT, Int.reduceAdd, Int.reduceSub, Int.reduceMul, Int.reduceEq, Int.reduceNe, Nat.reduceEqDiff, Nat.reducePow, Nat.reduceDiv, Nat.reduceMod, Nat.reduceAdd, Nat.reduceMul, Nat.reduceSub, Nat.reduceLT, Nat.reduceLeDiff, reduceIte, reduceCtorEq, h15, h7, hb, appendA_U]
    have hke : k = rows.length := by omega
    subst hke
    exact FinV.mk (Nat.le_refl _) hK

/-- The same, the grid in a block of the caller's. -/
theorem ways_ptr (g rows : List Int) (w : Nat) (hg : g.length = 9) (hgn : ∀ c, c ∈ g → 0 ≤ c ∧ c ≤ 20) (hr3 : rows.length ≤ 3) (hn : ∀ c, c ∈ rows → 0 ≤ c) (hs : rows.sum ≤ 20) (hw : w ≤ 3)
    (H : AHeap) (id gen : Nat) (e : TypeId) (hid : H.get id = some (.arr gen e (ints g))) : ACall Tryd.prog G0 45 [.ptr id gen 0, vecI rows, .lit (.int .i64 w)] H fun r H' => r = .ret (.lit (.int .i64 (waysP rows g w rows.length))) ∧ H' = H := by
  refine ACall.frame (args' := [.vptr (ints g) 0, vecI rows, .lit (.int .i64 w)]) G0_ok rfl (fun i h _ => ?_) (ways_spec g rows w hg hgn hr3 hn hs hw noH _ ⟨_, rfl, .lit _⟩)
  match i, h with
  | 0, _ => exact .pfrz trivial hid (by intro h0; rw [ints_nil] at h0; rw [h0] at hg; simp at hg) rfl fun i h _ => by simp only [ints, List.getElem_map]; exact .lit _
  | 1, _ => exact .vec rfl fun i h _ => by simp only [ints, List.getElem_map]; exact .lit _
  | 2, _ => exact .lit _

def waysI (t : List (List Int)) : Int := waysP (rowsOf t) (grid9 t) (t.headD []).length t.length

theorem rows_le {t : List (List Int)} (h : TableOk t) : (rowsOf t).length ≤ 3 ∧ (∀ c, c ∈ rowsOf t → 0 ≤ c) ∧ (rowsOf t).sum ≤ 20 := by
  refine ⟨by simpa [rowsOf] using h.2.1, fun c hc => ?_, h.2.2.2.2⟩
  obtain ⟨r, hr, rfl⟩ := List.mem_map.1 hc
  exact sum_nonneg fun c hc => ((rows_ok h r hr).2.2.2 c hc).1
theorem grid9_ok {t : List (List Int)} (h : TableOk t) : ∀ c, c ∈ grid9 t → 0 ≤ c ∧ c ≤ 20 := by
  intro c hc
  obtain ⟨p, _, rfl⟩ := List.mem_map.1 hc
  simp only [List.getD_eq_getElem?_getD]
  cases h1 : t[p / 3]? with
  | none => simp
  | some r =>
    simp only [Option.getD_some]
    cases h2 : r[p % 3]? with
    | none => simp
    | some c => exact (rows_ok h r (List.mem_of_getElem? h1)).2.2.2 c (List.mem_of_getElem? h2)
theorem Ways_spec (t : List (List Int)) (ht : (t.length : Int) < 2 ^ 40) (hr : ∀ r, r ∈ t → (r.length : Int) < 2 ^ 40) (H : AHeap) (K : ARes → AHeap → Prop)
    (hK : K (.ret (if TableOk t then .tup [.lit (.int .i64 (waysI t)), .lit (.int .i64 0)] else .tup [.lit (.int .i64 0), .lit (.int .i64 300)])) H) : ACall Tryd.prog G0 17 [vecV t] H K := by
  refine ACall.clo ⟨_, Tryd.func17, rfl, rfl⟩ fun hcl => ?_
  refine ACall.of_body (n := 24) (rs := [.tmp 2, .tmp 3]) Tryd.func17 rfl rfl rfl (by decide) (by kernel_rfl) (by simp) ?_
  simp (config := { maxSteps := 1000000 }) only [go_sem, Int.reduceToNat, Int.reduceLE, Int.reduceLT, Int.reduceAdd, Int.reduceSub, Int.reduceMul, Int.reduceEq, Int.reduceNe, Nat.reduceEqDiff, Nat.reducePow, Nat.reduceDiv, Nat.reduceMod, Nat.reduceAdd, Nat.reduceMul, Nat.reduceSub, Nat.reduceLT, Nat.reduceLeDiff, reduceIte, reduceCtorEq, vecV, appendA_U]
  refine AApply.clo (check_spec t ht hr H _ ⟨trivial, ?_⟩)
  by_cases hok : TableOk t
  · rw [if_pos hok] at hK ⊢
    simp (config := { maxSteps := 1000000 }) only [go_sem, Int.reduceToNat, Int.reduceLE, Int.reduceLT, Int.reduceAdd, Int.reduceSub, Int.reduceMul, Int.reduceEq, Int.reduceNe, Nat.reduceEqDiff, Nat.reducePow, Nat.reduceDiv, Nat.reduceMod, Nat.reduceAdd, Nat.reduceMul, Nat.reduceSub, Nat.reduceLT, Nat.reduceLeDiff, reduceIte, reduceCtorEq, appendA_U]
    refine AApply.clo (margins_spec t hok H _ ⟨trivial, ?_⟩)
    simp (config := { maxSteps := 1000000 }) only [go_sem, Int.reduceToNat, Int.reduceLE, Int.reduceLT, Int.reduceAdd, Int.reduceSub, Int.reduceMul, Int.reduceEq, Int.reduceNe, Nat.reduceEqDiff, Nat.reducePow, Nat.reduceDiv, Nat.reduceMod, Nat.reduceAdd, Nat.reduceMul, Nat.reduceSub, Nat.reduceLT, Nat.reduceLeDiff, reduceIte, reduceCtorEq, appendA_U]
    refine AApply.clo (fill_spec t hok H _ ⟨trivial, ?_⟩)
    simp (config := { maxSteps := 1000000 }) only [go_sem, Int.reduceToNat, Int.reduceLE, Int.reduceLT, Int.reduceAdd, Int.reduceSub, Int.reduceMul, Int.reduceEq, Int.reduceNe, Nat.reduceEqDiff, Nat.reducePow, Nat.reduceDiv, Nat.reduceMod, Nat.reduceAdd, Nat.reduceMul, Nat.reduceSub, Nat.reduceLT, Nat.reduceLeDiff, reduceIte, reduceCtorEq, Tryd.underlying46, grid9_len, all_one_ints, appendA_U]
    obtain ⟨h1, h2, h3⟩ := rows_le hok
    have h4 := cols_ok hok
    refine AApply.clo ((ways_ptr (grid9 t) (rowsOf t) (colsOf t).length (grid9_len t) (grid9_ok hok) h1 h2 h3 h4.1 _ H.next 0 76 (get_ext0 ..)).mono ?_)
    rintro r H' ⟨rfl, rfl⟩
    refine ⟨trivial, ?_⟩
    simp (config := { maxSteps := 1000000 }) only [go_sem, Int.reduceToNat, Int.reduceLE, Int.reduceLT, Int.reduceAdd, Int.reduceSub, Int.reduceMul, Int.reduceEq, Int.reduceNe, Nat.reduceEqDiff, Nat.reducePow, Nat.reduceDiv, Nat.reduceMod, Nat.reduceAdd, Nat.reduceMul, Nat.reduceSub, Nat.reduceLT, Nat.reduceLeDiff, reduceIte, reduceCtorEq, appendA_U]
    have e : waysP (rowsOf t) (grid9 t) (colsOf t).length (rowsOf t).length = waysI t := by
      unfold waysI; congr 1
      · simp [colsOf]
      · simp [rowsOf]
    rw [e]
    refine FinV.drop (v' := .tup [.lit (.int .i64 (waysI t)), .lit (.int .i64 0)]) G0_ok hcl (.tup rfl fun i hi _ => ?_) hK
    match i, hi with
    | 0, _ => exact .lit _
    | 1, _ => exact .lit _
  · rw [if_neg hok] at hK ⊢
    simp (config := { maxSteps := 1000000 }) only [go_sem, Int.reduceToNat, Int.reduceLE, Int.reduceLT, Int.reduceAdd, Int.reduceSub, Int.reduceMul, Int.reduceEq, Int.reduceNe, Nat.reduceEqDiff, Nat.reducePow, Nat.reduceDiv, Nat.reduceMod, Nat.reduceAdd, Nat.reduceMul, Nat.reduceSub, Nat.reduceLT, Nat.reduceLeDiff, reduceIte, reduceCtorEq, appendA_U]
    exact FinV.mk (Nat.le_refl _) hK
end Go.Proofs
set_option linter.unusedSimpArgs false
namespace Go.Proofs
open Go.Hx

def SmallT (t : List (List Int)) : Prop := t.length ≤ 4 ∧ ∀ r, r ∈ t → r.length ≤ 4 ∧ ∀ c, c ∈ r → 0 ≤ c ∧ c ≤ 20

theorem Rows_spec (t : List (List Int)) (ht : SmallT t) (H : AHeap) (K : ARes → AHeap → Prop) (hK : K (.ret (vecI (rowsOf t))) H) : ACall Tryd.prog G0 25 [vecV t] H K := by
  refine ACall.clo ⟨_, Tryd.func25, rfl, rfl⟩ fun hcl => ?_
  have htl := ht.1
  refine ACall.of_body (n := 36) (rs := [.tmp 2]) Tryd.func25 rfl rfl rfl (by decide) (by kernel_rfl) (by simp) ?_
  simp (config := { maxSteps := 1000000 }) only [go_sem, Int.reduceToNat, Int.reduceLE, Int.reduceLT, Int.reduceAdd, Int.reduceSub, Int.reduceMul, Int.reduceEq, Int.reduceNe, Nat.reduceEqDiff, Nat.reducePow, Nat.reduceDiv, Nat.reduceMod, Nat.reduceAdd, Nat.reduceMul, Nat.reduceSub, Nat.reduceLT, Nat.reduceLeDiff, reduceIte, reduceCtorEq, vecV, appendA_U]
  refine W.loop0 34359738360 (by rfl) (fun ρ H' => ∃ (k : Nat) (L : List Blk), H' = ext H L ∧ ρ 4 = lin k ∧ k ≤ t.length ∧ OwnC H L 3 0 L.length (ρ 3) (ints ((rowsOf t).take k))) (fun ρ H => t.length - (iv (ρ 4)).toNat) ?_ ?_
  · simp (config := { maxSteps := 1000000 }) only [go_sem, Int.reduceToNat, Int.reduceLE, Int.reduceLT, Int.reduceAdd, Int.reduceSub, Int.reduceMul, Int.reduceEq, Int.reduceNe, Nat.reduceEqDiff, Nat.reducePow, Nat.reduceDiv, Nat.reduceMod, Nat.reduceAdd, Nat.reduceMul, Nat.reduceSub, Nat.reduceLT, Nat.reduceLeDiff, reduceIte, reduceCtorEq, appendA_U]
    exact ⟨0, [], (ext_nil H).symm, rfl, by omega, .nil⟩
  rintro ρ H' ⟨k, L, rfl, h4, hk, h3⟩
  refine vc_sound _ _ _ (by rfl) ?_
  by_cases hb : (k : Int) < t.length
  · obtain ⟨r, hrk⟩ : ∃ r, t[k]? = some r := ⟨_, List.getElem?_eq_getElem (by omega)⟩
    have hne : ¬ t = [] := by rintro rfl; simp at hb; omega
    obtain ⟨hrl, hrc⟩ := ht.2 r (List.mem_of_getElem? hrk)
    simp (config := { maxSteps := 1000000 }) only [go_sem, Int.reduceToNat, Int.reduceLE, Int.reduceLT, Int.reduceAdd, Int.reduceSub, Int.reduceMul, Int.reduceEq, Int.reduceNe, Nat.reduceEqDiff, Nat.reducePow, Nat.reduceDiv, Nat.reduceMod, Nat.reduceAdd, Nat.reduceMul, Nat.reduceSub, Nat.reduceLT, Nat.reduceLeDiff, reduceIte, reduceCtorEq, h4, hb, appendA_U]
    refine W.loop0 2147475552 (by rfl) (fun ρ' H2 => H2 = ext H L ∧ ∃ j : Nat, ρ' 6 = lin j ∧ j ≤ r.length ∧ ρ' 5 = lin (r.take j).sum) (fun ρ' H => r.length - (iv (ρ' 6)).toNat) ?_ ?_
    · simp (config := { maxSteps := 1000000 }) only [go_sem, Int.reduceToNat, Int.reduceLE, Int.reduceLT, Int.reduceAdd, Int.reduceSub, Int.reduceMul, Int.reduceEq, Int.reduceNe, Nat.reduceEqDiff, Nat.reducePow, Nat.reduceDiv, Nat.reduceMod, Nat.reduceAdd, Nat.reduceMul, Nat.reduceSub, Nat.reduceLT, Nat.reduceLeDiff, reduceIte, reduceCtorEq, appendA_U]
      exact ⟨0, rfl, by omega, by simp⟩
    rintro ρ' H2 ⟨rfl, j, h6, hj, h5⟩
    refine vc_sound _ _ _ (by rfl) ?_
    have b2 := sum_bound (l := r.take j) (n := 4) (fun c hc => hrc c (List.mem_of_mem_take hc)) (by simp; omega)
    by_cases hb2 : (j : Int) < r.length
    · obtain ⟨c, hc⟩ : ∃ c, r[j]? = some c := ⟨_, List.getElem?_eq_getElem (by omega)⟩
      have hrn : ¬ r = [] := by rintro rfl; simp at hb2; omega
      have hcb := hrc c (List.mem_of_getElem? hc)
      simp (config := { maxSteps := 1000000 }) only [go_sem, Int.reduceToNat, Int.reduceLE, Int.reduceLT, Int.reduceAdd, Int.reduceSub, Int.reduceMul, Int.reduceEq, Int.reduceNe, Nat.reduceEqDiff, Nat.reducePow, Nat.reduceDiv, Nat.reduceMod, Nat.reduceAdd, Nat.reduceMul, Nat.reduceSub, Nat.reduceLT, Nat.reduceLeDiff, reduceIte, reduceCtorEq, h6, h5, h4, hb, hb2, hc, hrk, hne, hrn, appendA_U]
      rw [IntWalk.i64_in ((j : Int) + 1) (by omega), IntWalk.i64_in (_ + c) (by omega)]
      exact ⟨⟨j + 1, by simp, by omega, by rw [take_sum_succ hc]⟩, by omega⟩
    · have hje : r.take j = r := List.take_of_length_le (by omega)
      rw [hje] at h5
      obtain ⟨v', L', hA, hO, hLL, _⟩ := app_one (H := H) (L := L) (t := 46) (x := lin r.sum) Tryd.underlying46 Tryd.cells3 Tryd.zero3 rfl (by rw [Tryd.bytes3]; simp [ints]; omega) h3 (by omega) (Nat.le_refl _)
      simp only [lin] at hA
      simp (config := { maxSteps := 1000000 }) only [go_sem, Int.reduceToNat, Int.reduceLE, Int.reduceLT, Int.reduceAdd, Int.reduceSub, Int.reduceMul, Int.reduceEq, Int.reduceNe, Nat.reduceEqDiff, Nat.reducePow, Nat.reduceDiv, Nat.reduceMod, Nat.reduceAdd, Nat.reduceMul, Nat.reduceSub, Nat.reduceLT, Nat.reduceLeDiff, reduceIte, reduceCtorEq, h6, h5, h4, hb, hb2, hrk, hne, hA]
      rw [IntWalk.i64_in ((k : Int) + 1) (by omega)]
      have e : ints ((rowsOf t).take (k + 1)) = ints ((rowsOf t).take k) ++ [lin r.sum] := by
        rw [take_succ_of (by simp [rowsOf, hrk] : (rowsOf t)[k]? = some r.sum)]; simp [ints]
      exact ⟨by omega, ⟨k + 1, L', rfl, by simp, by omega, e ▸ hO⟩, by omega⟩
  · simp (config := { maxSteps := 1000000 }) only [go_sem, Int.reduceToNat, Int.reduceLE, Int.reduceLT, Int.reduceAdd, Int.reduceSub, Int.reduceMul, Int.reduceEq, Int.reduceNe, Nat.reduceEqDiff, Nat.reducePow, Nat.reduceDiv, Nat.reduceMod, Nat.reduceAdd, Nat.reduceMul, Nat.reduceSub, Nat.reduceLT, Nat.reduceLeDiff, reduceIte, reduceCtorEq, h4, hb, appendA_U]
    have hke : (rowsOf t).take k = rowsOf t := List.take_of_length_le (by simp [rowsOf]; omega)
    rw [hke] at h3
    refine FinV.drop G0_ok hcl ?_ hK
    have := h3.fz (S := fun id => H.next ≤ id) (nx := H.next) (cs' := ints (rowsOf t)) (fun i => by omega) rfl fun i h _ => by simp only [ints, List.getElem_map]; exact .lit _
    rw [ints_length] at this
    exact this
end Go.Proofs
set_option linter.unusedSimpArgs false
namespace Go.Proofs
open Go.Hx

theorem fact_spec (m : Nat) (hm : m ≤ 20) (H : AHeap) (K : ARes → AHeap → Prop) (hK : K (.ret (.lit (.int .i64 (fact m)))) H) : ACall Tryd.prog G0 64 [.lit (.int .i64 m)] H K := by
  refine ACall.of_body (n := 14) (rs := [.tmp 2]) Tryd.func64 rfl rfl rfl (by decide) (by kernel_rfl) (by simp) ?_
  simp (config := { maxSteps := 1000000 }) only [go_sem, Int.reduceToNat, Int.reduceLE, Int.reduceLT, Int.reduceAdd, Int.reduceSub, Int.reduceMul, Int.reduceEq, Int.reduceNe, Nat.reduceEqDiff, Nat.reducePow, Nat.reduceDiv, Nat.reduceMod, Nat.reduceAdd, Nat.reduceMul, Nat.reduceSub, Nat.reduceLT, Nat.reduceLeDiff, reduceIte, reduceCtorEq, appendA_U]
  refine W.loop0 8184 (by rfl) (fun ρ H' => H' = H ∧ ∃ k : Nat, ρ 4 = .lit (.int .i64 k) ∧ ρ 3 = .lit (.int .i64 (fact (k - 1))) ∧ 2 ≤ k ∧ (k ≤ m + 1 ∨ k = 2)) (fun ρ H => (m + 2 - iv (ρ 4)).toNat) ?_ ?_
  · simp (config := { maxSteps := 1000000 }) only [go_sem, Int.reduceToNat, Int.reduceLE, Int.reduceLT, Int.reduceAdd, Int.reduceSub, Int.reduceMul, Int.reduceEq, Int.reduceNe, Nat.reduceEqDiff, Nat.reducePow, Nat.reduceDiv, Nat.reduceMod, Nat.reduceAdd, Nat.reduceMul, Nat.reduceSub, Nat.reduceLT, Nat.reduceLeDiff, reduceIte, reduceCtorEq, appendA_U]
    exact ⟨2, rfl, rfl, by omega, by omega⟩
  · rintro ρ H' ⟨rfl, k, h4, h3, hk1, hk2⟩
    refine vc_sound _ _ _ (by rfl) ?_
    simp (config := { maxSteps := 1000000 }) only [go_sem, Int.reduceToNat, Int.reduceLE, Int.reduceLT, Int.reduceAdd, Int.reduceSub, Int.reduceMul, Int.reduceEq, Int.reduceNe, Nat.reduceEqDiff, Nat.reducePow, Nat.reduceDiv, Nat.reduceMod, Nat.reduceAdd, Nat.reduceMul, Nat.reduceSub, Nat.reduceLT, Nat.reduceLeDiff, reduceIte, reduceCtorEq, h4, h3, appendA_U]
    refine Branch.mk (fun hb => ?_) (fun hb => ?_)
    · have hb : k ≤ m := by simpa using hb
      have hf : fact (k - 1) * (k : Int) = fact k := by
        obtain ⟨j, rfl⟩ : ∃ j, k = j + 1 := ⟨k - 1, by omega⟩
        rfl
      have h20 : fact k ≤ fact 20 := fact_mono (by omega)
      have h20' : fact 20 = 2432902008176640000 := by decide
      have hp := fact_pos k
      simp (config := { maxSteps := 1000000 }) only [go_sem, Int.reduceToNat, Int.reduceLE, Int.reduceLT, Int.reduceAdd, Int.reduceSub, Int.reduceMul, Int.reduceEq, Int.reduceNe, Nat.reduceEqDiff, Nat.reducePow, Nat.reduceDiv, Nat.reduceMod, Nat.reduceAdd, Nat.reduceMul, Nat.reduceSub, Nat.reduceLT, Nat.reduceLeDiff, reduceIte, reduceCtorEq, h4, h3, appendA_U]
      rw [hf, IntWalk.i64_in (fact k) (by omega), IntWalk.i64_in ((k : Int) + 1) (by omega)]
      exact ⟨⟨k + 1, rfl, rfl, by omega, by omega⟩, by simp; omega⟩
    · have hb : ¬ k ≤ m := by simpa using hb
      simp (config := { maxSteps := 1000000 }) only [go_sem, Int.reduceToNat, Int.reduceLE, Int.reduceLT, Int.reduceAdd, Int.reduceSub, Int.reduceMul, Int.reduceEq, Int.reduceNe, Nat.reduceEqDiff, Nat.reducePow, Nat.reduceDiv, Nat.reduceMod, Nat.reduceAdd, Nat.reduceMul, Nat.reduceSub, Nat.reduceLT, Nat.reduceLeDiff, reduceIte, reduceCtorEq, h4, h3, appendA_U]
      refine FinV.mk (Nat.le_refl _) ?_
      have : fact (k - 1) = fact m := by
        rcases hk2 with h | h
        · congr 1; omega
        · subst h
          match m, hb with
          | 0, _ => rfl
          | 1, _ => rfl
          | m + 2, hb => omega
      rw [this]
      exact hK

theorem over_spec (n : Nat) (l : List Int) (hn : n ≤ 20) (hl : l.length ≤ 4) (hc : ∀ c, c ∈ l → 0 ≤ c ∧ c ≤ 20) (H : AHeap) (K : ARes → AHeap → Prop) (hK : K (.ret (.lit (.int .i64 (overI n l)))) H) : ACall Tryd.prog G0 48 [.lit (.int .i64 n), vecI l] H K := by
  have f20 := fact_20
  refine ACall.of_body (n := 23) (rs := [.tmp 4]) Tryd.func48 rfl rfl rfl (by decide) (by kernel_rfl) (by simp) ?_
  simp (config := { maxSteps := 1000000 }) only [go_sem, Int.reduceToNat, Int.reduceLE, Int.reduceLT, Int.reduceAdd, Int.reduceSub, Int.reduceMul, Int.reduceEq, Int.reduceNe, Nat.reduceEqDiff, Nat.reducePow, Nat.reduceDiv, Nat.reduceMod, Nat.reduceAdd, Nat.reduceMul, Nat.reduceSub, Nat.reduceLT, Nat.reduceLeDiff, reduceIte, reduceCtorEq, appendA_U]
  refine AApply.clo (fact_spec n hn H _ ⟨trivial, ?_⟩)
  simp (config := { maxSteps := 1000000 }) only [go_sem, Int.reduceToNat, Int.reduceLE, Int.reduceLT, Int.reduceAdd, Int.reduceSub, Int.reduceMul, Int.reduceEq, Int.reduceNe, Nat.reduceEqDiff, Nat.reducePow, Nat.reduceDiv, Nat.reduceMod, Nat.reduceAdd, Nat.reduceMul, Nat.reduceSub, Nat.reduceLT, Nat.reduceLeDiff, reduceIte, reduceCtorEq, appendA_U]
  refine W.loop0 4193888 (by rfl) (fun ρ H' => H' = H ∧ ∃ k : Nat, ρ 6 = lin k ∧ k ≤ l.length ∧ ρ 5 = lin (quoF (fact n) (l.take k))) (fun ρ H => l.length - (iv (ρ 6)).toNat) ?_ ?_
  · simp (config := { maxSteps := 1000000 }) only [go_sem, Int.reduceToNat, Int.reduceLE, Int.reduceLT, Int.reduceAdd, Int.reduceSub, Int.reduceMul, Int.reduceEq, Int.reduceNe, Nat.reduceEqDiff, Nat.reducePow, Nat.reduceDiv, Nat.reduceMod, Nat.reduceAdd, Nat.reduceMul, Nat.reduceSub, Nat.reduceLT, Nat.reduceLeDiff, reduceIte, reduceCtorEq, appendA_U]
    exact ⟨0, rfl, by omega, by simp [quoF]⟩
  rintro ρ H' ⟨rfl, k, h6, hk, h5⟩
  refine vc_sound _ _ _ (by rfl) ?_
  have q := quoF_bound (l := l.take k) (Int.le_of_lt (fact_pos n))
  have q3 := fact_mono (by omega : n ≤ 20)
  by_cases hb : (k : Int) < l.length
  · obtain ⟨c, hcc⟩ : ∃ c, l[k]? = some c := ⟨_, List.getElem?_eq_getElem (by omega)⟩
    have hne : ¬ l = [] := by rintro rfl; simp at hcc
    have b4 := hc c (List.mem_of_getElem? hcc)
    obtain ⟨m, rfl⟩ : ∃ m : Nat, c = m := ⟨c.toNat, by omega⟩
    have hfp := fact_pos m
    have hf0 : ¬ fact m = 0 := by omega
    have q2 := tdiv_bound q.1 hfp
    simp (config := { maxSteps := 1000000 }) only [go_sem, Int.reduceToNat, Int.reduceLE, Int.reduceLT, Int.reduceAdd, Int.reduceSub, Int.reduceMul, Int.reduceEq, Int.reduceNe, Nat.reduceEqDiff, Nat.reducePow, Nat.reduceDiv, Nat.reduceMod, Nat.reduceAdd, Nat.reduceMul, Nat.reduceSub, Nat.reduceLT, Nat.reduceLeDiff, reduceIte, reduceCtorEq, h6, h5, hb, hcc, hne, appendA_U]
    refine AApply.clo (fact_spec m (by omega) _ _ ⟨trivial, ?_⟩)
    simp (config := { maxSteps := 1000000 }) only [go_sem, Int.reduceToNat, Int.reduceLE, Int.reduceLT, Int.reduceAdd, Int.reduceSub, Int.reduceMul, Int.reduceEq, Int.reduceNe, Nat.reduceEqDiff, Nat.reducePow, Nat.reduceDiv, Nat.reduceMod, Nat.reduceAdd, Nat.reduceMul, Nat.reduceSub, Nat.reduceLT, Nat.reduceLeDiff, reduceIte, reduceCtorEq, h6, h5, hb, hcc, hne, hf0, appendA_U]
    rw [IntWalk.i64_in ((k : Int) + 1) (by omega), IntWalk.i64_in (Int.tdiv _ _) (by omega)]
    exact ⟨⟨k + 1, by simp, by omega, by rw [quoF_succ hcc]; rfl⟩, by omega⟩
  · have hke : l.take k = l := List.take_of_length_le (by omega)
    rw [hke] at h5
    simp (config := { maxSteps := 1000000 }) only [go_sem, Int.reduceToNat, Int.reduceLE, Int.reduceLT, Int.reduceAdd, Int.reduceSub, Int.reduceMul, Int.reduceEq, Int.reduceNe, Nat.reduceEqDiff, Nat.reducePow, Nat.reduceDiv, Nat.reduceMod, Nat.reduceAdd, Nat.reduceMul, Nat.reduceSub, Nat.reduceLT, Nat.reduceLeDiff, reduceIte, reduceCtorEq, h6, h5, hb, appendA_U]
    exact FinV.mk (Nat.le_refl _) hK

/-- The ways of a table, as the reference has them. -/
def refWays (t : List (List Int)) : Nat → Int
  | 0 => 1
  | k + 1 => refWays t k * overI (t.getD k []).sum (t.getD k [])
theorem refWays_key {t : List (List Int)} (h : TableOk t) : ∀ k, k ≤ t.length → refWays t k = waysP (rowsOf t) (grid9 t) (t.headD []).length k := by
    intro k
    induction k with
    | zero => intro _; rfl
    | succ k ih =>
      intro hk
      obtain ⟨r, hr⟩ : ∃ r, t[k]? = some r := ⟨_, List.getElem?_eq_getElem (by omega)⟩
      have hrr := rows_ok h r (List.mem_of_getElem? hr)
      have h3 := h.2.1
      simp only [refWays, waysP, ih (by omega), getD_some hr, getD_some (by simp [rowsOf, hr] : (rowsOf t)[k]? = some r.sum)]
      have e : ((grid9 t).drop (k * 3)).take (t.headD []).length = r := by
        refine List.ext_getElem? fun i => ?_
        rw [List.getElem?_take]
        split
        · rename_i hi
          have h1 := hrr.1
          have h2 := hrr.2.2.1
          have e1 : (k * 3 + i) / 3 = k := by omega
          have e2 : (k * 3 + i) % 3 = i := by omega
          rw [List.getElem?_drop, grid9_get (by omega), e1, e2, getD_some hr, List.getD_eq_getElem?_getD, List.getElem?_eq_getElem (by omega : i < r.length)]
          rfl
        · have h1 := hrr.1
          rw [List.getElem?_eq_none (by omega)]
      rw [e]
      rfl
theorem refWays_eq {t : List (List Int)} (h : TableOk t) : refWays t t.length = waysI t := refWays_key h _ (Nat.le_refl _)

theorem small_of_ok {t : List (List Int)} (h : TableOk t) : SmallT t := ⟨by have := h.2.1; omega, fun r hr => by
  have := rows_ok h r hr
  exact ⟨by have := this.2.2.1; omega, this.2.2.2⟩⟩

theorem refWays_spec (t : List (List Int)) (ht : TableOk t) (H : AHeap) (K : ARes → AHeap → Prop) (hK : K (.ret (.lit (.int .i64 (waysI t)))) H) : ACall Tryd.prog G0 27 [vecV t] H K := by
  have f20 := fact_20
  have h3 := ht.2.1
  refine ACall.of_body (n := 26) (rs := [.tmp 2]) Tryd.func27 rfl rfl rfl (by decide) (by kernel_rfl) (by simp) ?_
  simp (config := { maxSteps := 1000000 }) only [go_sem, Int.reduceToNat, Int.reduceLE, Int.reduceLT, Int.reduceAdd, Int.reduceSub, Int.reduceMul, Int.reduceEq, Int.reduceNe, Nat.reduceEqDiff, Nat.reducePow, Nat.reduceDiv, Nat.reduceMod, Nat.reduceAdd, Nat.reduceMul, Nat.reduceSub, Nat.reduceLT, Nat.reduceLeDiff, reduceIte, reduceCtorEq, vecV, appendA_U]
  refine AApply.clo (Rows_spec t (small_of_ok ht) H _ ⟨trivial, ?_⟩)
  simp (config := { maxSteps := 1000000 }) only [go_sem, Int.reduceToNat, Int.reduceLE, Int.reduceLT, Int.reduceAdd, Int.reduceSub, Int.reduceMul, Int.reduceEq, Int.reduceNe, Nat.reduceEqDiff, Nat.reducePow, Nat.reduceDiv, Nat.reduceMod, Nat.reduceAdd, Nat.reduceMul, Nat.reduceSub, Nat.reduceLT, Nat.reduceLeDiff, reduceIte, reduceCtorEq, appendA_U]
  refine W.loop0 33554216 (by rfl) (fun ρ H' => H' = H ∧ ∃ k : Nat, ρ 5 = lin k ∧ k ≤ t.length ∧ ρ 3 = lin (refWays t k)) (fun ρ H => t.length - (iv (ρ 5)).toNat) ?_ ?_
  · simp (config := { maxSteps := 1000000 }) only [go_sem, Int.reduceToNat, Int.reduceLE, Int.reduceLT, Int.reduceAdd, Int.reduceSub, Int.reduceMul, Int.reduceEq, Int.reduceNe, Nat.reduceEqDiff, Nat.reducePow, Nat.reduceDiv, Nat.reduceMod, Nat.reduceAdd, Nat.reduceMul, Nat.reduceSub, Nat.reduceLT, Nat.reduceLeDiff, reduceIte, reduceCtorEq, appendA_U]
    exact ⟨0, rfl, by omega, rfl⟩
  rintro ρ H' ⟨rfl, k, h5, hk, h3'⟩
  refine vc_sound _ _ _ (by rfl) ?_
  by_cases hb : (k : Int) < t.length
  · obtain ⟨r, hrk⟩ : ∃ r, t[k]? = some r := ⟨_, List.getElem?_eq_getElem (by omega)⟩
    have hne : ¬ t = [] := by rintro rfl; simp at hrk
    have hrne : ¬ rowsOf t = [] := by simp [rowsOf, hne]
    obtain ⟨q1, q2⟩ := (small_of_ok ht).2 r (List.mem_of_getElem? hrk)
    have hs0 := sum_nonneg fun c hc => (q2 c hc).1
    have hrow : (rowsOf t)[k]? = some r.sum := by simp [rowsOf, hrk]
    have hs20 := le_sum (rows_le ht).2.1 r.sum (List.mem_of_getElem? hrow)
    have hs20' := (rows_le ht).2.2
    obtain ⟨n, hn⟩ : ∃ n : Nat, r.sum = n := ⟨r.sum.toNat, by omega⟩
    rw [hn] at hrow
    have hkr : (k : Int) < (rowsOf t).length := by simpa [rowsOf] using hb
    simp (config := { maxSteps := 1000000 }) only [go_sem, Int.reduceToNat, Int.reduceLE, Int.reduceLT, Int.reduceAdd, Int.reduceSub, Int.reduceMul, Int.reduceEq, Int.reduceNe, Nat.reduceEqDiff, Nat.reducePow, Nat.reduceDiv, Nat.reduceMod, Nat.reduceAdd, Nat.reduceMul, Nat.reduceSub, Nat.reduceLT, Nat.reduceLeDiff, reduceIte, reduceCtorEq, h5, h3', hb, appendA_U]
    refine W.draw 10 [0, 0, 0, 6, 14, 0, 0, 96, 224, 510] Tryd.mixed (by kernel_rfl) (by kernel_rfl) ?_
    simp (config := { maxSteps := 1000000 }) only [go_sem, Int.reduceToNat, Int.reduceLE, Int.reduceLT, Int.reduceAdd, Int.reduceSub, Int.reduceMul, Int.reduceEq, Int.reduceNe, Nat.reduceEqDiff, Nat.reducePow, Nat.reduceDiv, Nat.reduceMod, Nat.reduceAdd, Nat.reduceMul, Nat.reduceSub, Nat.reduceLT, Nat.reduceLeDiff, reduceIte, reduceCtorEq, h5, h3', hb, hrow, hrk, hne, hrne, hkr, appendA_U]
    refine ⟨_, [], PCall.mk (by simp) (fun H2 _ _ => over_spec n r (by omega) q1 q2 H2 _ ⟨rfl, rfl⟩), ?_⟩
    simp (config := { maxSteps := 1000000 }) only [go_sem, Int.reduceToNat, Int.reduceLE, Int.reduceLT, Int.reduceAdd, Int.reduceSub, Int.reduceMul, Int.reduceEq, Int.reduceNe, Nat.reduceEqDiff, Nat.reducePow, Nat.reduceDiv, Nat.reduceMod, Nat.reduceAdd, Nat.reduceMul, Nat.reduceSub, Nat.reduceLT, Nat.reduceLeDiff, reduceIte, reduceCtorEq, h5, h3', hb, hrow, hrk, hne, hrne, hkr, appendA_U]
    have p1 := waysP_bound (g := grid9 t) (w := (t.headD []).length) (rows_le ht).2.1 (k + 1) (by simp [rowsOf]; omega)
    rw [← refWays_key ht (k + 1) (by omega)] at p1
    have p2 := (take_sum_le (rows_le ht).2.1 (k + 1))
    have p3 := fact_mono (by omega : ((rowsOf t).take (k + 1)).sum.toNat ≤ 20)
    have e : refWays t (k + 1) = refWays t k * overI n r := by simp [refWays, hrk, hn]
    rw [e] at p1
    rw [IntWalk.i64_in ((k : Int) + 1) (by omega), IntWalk.i64_in (_ * _) (by omega)]
    exact ⟨⟨k + 1, by simp, by omega, by rw [e]⟩, by omega⟩
  · simp (config := { maxSteps := 1000000 }) only [go_sem, Int.reduceToNat, Int.reduceLE, Int.reduceLT, Int.reduceAdd, Int.reduceSub, Int.reduceMul, Int.reduceEq, Int.reduceNe, Nat.reduceEqDiff, Nat.reducePow, Nat.reduceDiv, Nat.reduceMod, Nat.reduceAdd, Nat.reduceMul, Nat.reduceSub, Nat.reduceLT, Nat.reduceLeDiff, reduceIte, reduceCtorEq, h5, h3', hb, appendA_U]
    refine FinV.mk (Nat.le_refl _) ?_
    rw [← refWays_eq ht] at hK
    have : k = t.length := by omega
    rw [this]
    exact hK
end Go.Proofs
set_option linter.unusedSimpArgs false
namespace Go.Proofs
open Go.Hx

/-- A slice of slices of whole numbers, of the call's own. -/
def OwnV (H : AHeap) (L : List Blk) (v : AVal) (rows : List (List Int)) : Prop :=
  ∃ cs : List AVal, OwnC H L 46 0 L.length v cs ∧ cs.length = rows.length ∧ ∀ (j : Nat) (r : List Int) (c : AVal), rows[j]? = some r → cs[j]? = some c → OwnC H L 3 0 L.length c (ints r)
theorem OwnV.nil {H : AHeap} {L : List Blk} : OwnV H L (.lit (.slice none 0 0)) [] := ⟨[], .nil, rfl, fun j r c h => by simp at h⟩
theorem OwnV.fz {S : Nat → Prop} {H : AHeap} {L : List Blk} {v : AVal} {rows : List (List Int)} {nx : Nat} (h : OwnV H L v rows) (hS : ∀ i, S (H.next + i)) : Fz S (ext H L) nx v (vecV rows) := by
  obtain ⟨cs, h1, h2, h3⟩ := h
  have := h1.fz (S := S) (nx := nx) (cs' := rows.map vecI) hS (by simp [h2]) fun i hi hi' => by
    simp only [List.getElem_map]
    have hi2 : i < rows.length := by omega
    have h4 := (h3 i rows[i] cs[i] (List.getElem?_eq_getElem hi2) (List.getElem?_eq_getElem hi)).fz (S := S) (nx := nx) (cs' := ints rows[i]) hS rfl fun j hj _ => by simp only [ints, List.getElem_map]; exact .lit _
    rw [ints_length] at h4
    exact h4
  rw [List.length_map] at this
  exact this
/-- A row appended. -/
theorem OwnV.app {P : Program} {H : AHeap} {L : List Blk} {v x : AVal} {rows : List (List Int)} {r : List Int} {t : TypeId} {z : List AVal} (ht : P.underlying t = some (.slice 46)) (hz : P.cellsOf 46 = 1) (hzero : zeroA P 46 = some z) (hby : P.bytesOf 46 = 24)
    (hb : rows.length < 2 ^ 40) (h : OwnV H L v rows) (hx : OwnC H L 3 0 L.length x (ints r)) :
    ∃ v' L', appendA P (ext H (L ++ [.arr 0 46 [x]])) (H.next + (L.length + 1)) t t v (.own (H.next + L.length) 0 0 1 1) = some (v', ext H L') ∧ OwnV H L' v' (rows ++ [r]) ∧ L.length ≤ L'.length := by
  obtain ⟨cs, h1, h2, h3⟩ := h
  obtain ⟨v', L', hA, hO, hL, hp⟩ := app_one (t := t) ht hz hzero hx.one (by rw [hby, h2]; omega) h1 (Nat.zero_le _) (Nat.le_refl _)
  refine ⟨v', L', hA, ⟨cs ++ [x], hO, by simp [h2], fun j r' c hr hc => ?_⟩, hL⟩
  have key : ∀ u l, OwnC H L 3 0 L.length u l → OwnC H L' 3 0 L'.length u l := fun u l hu => (h1.other hu (by decide) (Nat.le_refl _) hp).keep (Nat.le_refl _) hL fun _ _ _ _ _ => rfl
  rcases Nat.lt_or_ge j rows.length with hj | hj
  · rw [List.getElem?_append_left hj] at hr
    rw [List.getElem?_append_left (by omega)] at hc
    exact key _ _ (h3 j r' c hr hc)
  · rw [List.getElem?_append_right hj] at hr
    rw [List.getElem?_append_right (by omega)] at hc
    have hj0 : j - rows.length = 0 := by
      rcases Nat.eq_zero_or_pos (j - rows.length) with h | h
      · exact h
      · rw [List.getElem?_eq_none (by simp; omega)] at hr; cases hr
    have hj1 : j - cs.length = 0 := by omega
    rw [hj0] at hr
    rw [hj1] at hc
    cases hr
    cases hc
    exact key _ _ hx

def turned (t : List (List Int)) : List (List Int) := (List.range (t.headD []).length).map fun j => t.map fun r => r.getD j 0

theorem Turned_spec (t : List (List Int)) (ht : SmallT t) (h0 : 0 < t.length) (hw : ∀ r, r ∈ t → r.length = (t.headD []).length) (H : AHeap) (K : ARes → AHeap → Prop) (hK : K (.ret (vecV (turned t))) H) : ACall Tryd.prog G0 35 [vecV t] H K := by
  refine ACall.clo ⟨_, Tryd.func35, rfl, rfl⟩ fun hcl => ?_
  obtain ⟨r0, hr0⟩ : ∃ r, t[0]? = some r := ⟨_, List.getElem?_eq_getElem h0⟩
  have hr0d : t.headD [] = r0 := by
    cases t with
    | nil => simp at h0
    | cons a t => simpa using hr0
  have hne : ¬ t = [] := by rintro rfl; simp at h0
  have ht0 : (0 : Int) < t.length := by omega
  have hr04 := (ht.2 r0 (List.mem_of_getElem? hr0)).1
  have ht4 := ht.1
  rw [hr0d] at hw
  have htl : (turned t).length = r0.length := by unfold turned; rw [hr0d]; simp
  refine ACall.of_body (n := 36) (rs := [.tmp 2]) Tryd.func35 rfl rfl rfl (by decide) (by kernel_rfl) (by simp) ?_
  simp (config := { maxSteps := 1000000 }) only [go_sem, Int.reduceToNat, Int.reduceLE, Int.reduceLT, Int.reduceAdd, Int.reduceSub, Int.reduceMul, Int.reduceEq, Int.reduceNe, Nat.reduceEqDiff, Nat.reducePow, Nat.reduceDiv, Nat.reduceMod, Nat.reduceAdd, Nat.reduceMul, Nat.reduceSub, Nat.reduceLT, Nat.reduceLeDiff, reduceIte, reduceCtorEq, vecV, appendA_U]
  refine W.loop0 34359738360 (by rfl) (fun ρ H' => ∃ (k : Nat) (L : List Blk), H' = ext H L ∧ ρ 4 = lin k ∧ k ≤ r0.length ∧ OwnV H L (ρ 3) ((turned t).take k)) (fun ρ H => r0.length - (iv (ρ 4)).toNat) ?_ ?_
  · simp (config := { maxSteps := 1000000 }) only [go_sem, Int.reduceToNat, Int.reduceLE, Int.reduceLT, Int.reduceAdd, Int.reduceSub, Int.reduceMul, Int.reduceEq, Int.reduceNe, Nat.reduceEqDiff, Nat.reducePow, Nat.reduceDiv, Nat.reduceMod, Nat.reduceAdd, Nat.reduceMul, Nat.reduceSub, Nat.reduceLT, Nat.reduceLeDiff, reduceIte, reduceCtorEq, appendA_U]
    exact ⟨0, [], (ext_nil H).symm, rfl, by omega, .nil⟩
  rintro ρ H' ⟨k, L, rfl, h4, hk, h3⟩
  refine vc_sound _ _ _ (by rfl) ?_
  by_cases hb : (k : Int) < r0.length
  · simp (config := { maxSteps := 1000000 }) only [go_sem, Int.reduceToNat, Int.reduceLE, Int.reduceLT, Int.reduceAdd, Int.reduceSub, Int.reduceMul, Int.reduceEq, Int.reduceNe, Nat.reduceEqDiff, Nat.reducePow, Nat.reduceDiv, Nat.reduceMod, Nat.reduceAdd, Nat.reduceMul, Nat.reduceSub, Nat.reduceLT, Nat.reduceLeDiff, reduceIte, reduceCtorEq, h4, hb, hr0, hne, ht0, appendA_U]
    refine W.loop0 2147450976 (by rfl) (fun ρ' H2 => ∃ (j : Nat) (L2 : List Blk), H2 = ext H L2 ∧ ρ' 6 = lin j ∧ j ≤ t.length ∧ OwnC H L2 3 L.length L2.length (ρ' 5) (ints ((t.take j).map fun r => r.getD k 0)) ∧ L.length ≤ L2.length ∧ ∀ i, i < L.length → L2[i]? = L[i]?) (fun ρ' H => t.length - (iv (ρ' 6)).toNat) ?_ ?_
    · simp (config := { maxSteps := 1000000 }) only [go_sem, Int.reduceToNat, Int.reduceLE, Int.reduceLT, Int.reduceAdd, Int.reduceSub, Int.reduceMul, Int.reduceEq, Int.reduceNe, Nat.reduceEqDiff, Nat.reducePow, Nat.reduceDiv, Nat.reduceMod, Nat.reduceAdd, Nat.reduceMul, Nat.reduceSub, Nat.reduceLT, Nat.reduceLeDiff, reduceIte, reduceCtorEq, appendA_U]
      exact ⟨0, L, rfl, rfl, by omega, .nil, Nat.le_refl _, fun _ _ => rfl⟩
    rintro ρ' H2 ⟨j, L2, rfl, h6, hj, h5, hLL, hLk⟩
    refine vc_sound _ _ _ (by rfl) ?_
    by_cases hb2 : (j : Int) < t.length
    · obtain ⟨r, hrj⟩ : ∃ r, t[j]? = some r := ⟨_, List.getElem?_eq_getElem (by omega)⟩
      have hrw := hw r (List.mem_of_getElem? hrj)
      obtain ⟨c, hc⟩ : ∃ c, r[k]? = some c := ⟨_, List.getElem?_eq_getElem (by omega)⟩
      have hrn : ¬ r = [] := by rintro rfl; simp at hc
      have hkr : (k : Int) < r.length := by omega
      obtain ⟨v', L', hA, hO, hL3, hp⟩ := app_one (H := H) (L := L2) (t := 46) (x := lin c) Tryd.underlying46 Tryd.cells3 Tryd.zero3 rfl (by rw [Tryd.bytes3]; simp [ints]; omega) h5 hLL (Nat.le_refl _)
      simp only [lin] at hA
      simp (config := { maxSteps := 1000000 }) only [go_sem, Int.reduceToNat, Int.reduceLE, Int.reduceLT, Int.reduceAdd, Int.reduceSub, Int.reduceMul, Int.reduceEq, Int.reduceNe, Nat.reduceEqDiff, Nat.reducePow, Nat.reduceDiv, Nat.reduceMod, Nat.reduceAdd, Nat.reduceMul, Nat.reduceSub, Nat.reduceLT, Nat.reduceLeDiff, reduceIte, reduceCtorEq, h6, h4, hb, hb2, hrj, hc, hne, hrn, hkr, hA]
      rw [IntWalk.i64_in ((j : Int) + 1) (by omega)]
      refine ⟨by omega, ⟨j + 1, L', rfl, by simp, by omega, ?_, by omega, fun i hi => ?_⟩, by omega⟩
      · have e : ints ((t.take (j + 1)).map fun r => r.getD k 0) = ints ((t.take j).map fun r => r.getD k 0) ++ [lin c] := by
          rw [take_succ_of hrj]; simp [ints, hc]
        rw [e]
        exact hO
      · rw [hp i (by omega) fun g n he => ?_, hLk i hi]
        rcases h5 with ⟨h5, _⟩ | ⟨i2, g2, h1, _, h5, _⟩
        · rw [h5] at he; cases he
        · rw [h5] at he
          have := AVal.own.inj he
          omega
    · have hje : t.take j = t := List.take_of_length_le (by omega)
      rw [hje] at h5
      have hcell := h5.cells
      have hone := h5.one
      have h3' : OwnV H L2 (ρ 3) ((turned t).take k) := by
        obtain ⟨cs, c1, c2, c3⟩ := h3
        exact ⟨cs, c1.keep (Nat.le_refl _) hLL fun i _ _ hi _ => hLk i hi, c2, fun j r c hr hc => (c3 j r c hr hc).keep (Nat.le_refl _) hLL fun i _ _ hi _ => hLk i hi⟩
      obtain ⟨v', L', hA, hO, hL3⟩ := h3'.app (t := 26) Tryd.underlying26 Tryd.cells46 Tryd.zero46 Tryd.bytes46 (by simp; omega) (h5.keep (Nat.zero_le _) (Nat.le_refl _) fun _ _ _ _ _ => rfl)
      simp (config := { maxSteps := 1000000 }) only [go_sem, Int.reduceToNat, Int.reduceLE, Int.reduceLT, Int.reduceAdd, Int.reduceSub, Int.reduceMul, Int.reduceEq, Int.reduceNe, Nat.reduceEqDiff, Nat.reducePow, Nat.reduceDiv, Nat.reduceMod, Nat.reduceAdd, Nat.reduceMul, Nat.reduceSub, Nat.reduceLT, Nat.reduceLeDiff, reduceIte, reduceCtorEq, h6, h4, hb, hb2, hcell, hone, hA]
      rw [IntWalk.i64_in ((k : Int) + 1) (by omega)]
      have e : (turned t).take (k + 1) = (turned t).take k ++ [t.map fun r => r.getD k 0] := by
        rw [take_succ_of]
        unfold turned
        rw [hr0d, List.getElem?_map, List.getElem?_range (by omega)]
        rfl
      exact ⟨by omega, ⟨k + 1, L', rfl, by simp, by omega, e ▸ hO⟩, by omega⟩
  · simp (config := { maxSteps := 1000000 }) only [go_sem, Int.reduceToNat, Int.reduceLE, Int.reduceLT, Int.reduceAdd, Int.reduceSub, Int.reduceMul, Int.reduceEq, Int.reduceNe, Nat.reduceEqDiff, Nat.reducePow, Nat.reduceDiv, Nat.reduceMod, Nat.reduceAdd, Nat.reduceMul, Nat.reduceSub, Nat.reduceLT, Nat.reduceLeDiff, reduceIte, reduceCtorEq, h4, hb, hr0, hne, ht0, appendA_U]
    have hke : (turned t).take k = turned t := List.take_of_length_le (by omega)
    rw [hke] at h3
    exact FinV.drop G0_ok hcl (h3.fz fun i => by omega) hK
end Go.Proofs
set_option linter.unusedSimpArgs false
namespace Go.Proofs
open Go.Hx

theorem rows_turned (t : List (List Int)) : rowsOf (turned t) = colsOf t := by
  unfold rowsOf turned colsOf
  rw [List.map_map]
  rfl
theorem turned_small {t : List (List Int)} (ht : TableOk t) : SmallT (turned t) := by
  have hr := rows_ok ht
  have h0 : 0 < t.length := by have := ht.1; omega
  have h3 := ht.2.1
  have hw : (t.headD []).length ≤ 3 := by
    have := hr t[0] (List.getElem_mem h0)
    have h1 := this.1
    have h2 := this.2.2.1
    omega
  refine ⟨by unfold turned; rw [List.length_map, List.length_range]; omega, fun r hm => ?_⟩
  unfold turned at hm
  obtain ⟨j, _, rfl⟩ := List.mem_map.1 hm
  refine ⟨by simp; omega, fun c hc => ?_⟩
  obtain ⟨r, hrm, rfl⟩ := List.mem_map.1 hc
  rw [List.getD_eq_getElem?_getD]
  cases h : r[j]? with
  | none => simp
  | some c => exact (hr r hrm).2.2.2 c (List.mem_of_getElem? h)

theorem Columns_spec (t : List (List Int)) (ht : TableOk t) (H : AHeap) (K : ARes → AHeap → Prop) (hK : K (.ret (vecI (colsOf t))) H) : ACall Tryd.prog G0 26 [vecV t] H K := by
  refine ACall.of_body (n := 6) (rs := [.tmp 2]) Tryd.func26 rfl rfl rfl (by decide) (by kernel_rfl) (by simp) ?_
  simp (config := { maxSteps := 1000000 }) only [go_sem, Int.reduceToNat, Int.reduceLE, Int.reduceLT, Int.reduceAdd, Int.reduceSub, Int.reduceMul, Int.reduceEq, Int.reduceNe, Nat.reduceEqDiff, Nat.reducePow, Nat.reduceDiv, Nat.reduceMod, Nat.reduceAdd, Nat.reduceMul, Nat.reduceSub, Nat.reduceLT, Nat.reduceLeDiff, reduceIte, reduceCtorEq, vecV, appendA_U]
  refine AApply.clo (Turned_spec t (small_of_ok ht) (by have := ht.1; omega) (fun r hr => (rows_ok ht r hr).1) H _ ⟨trivial, ?_⟩)
  simp (config := { maxSteps := 1000000 }) only [go_sem, Int.reduceToNat, Int.reduceLE, Int.reduceLT, Int.reduceAdd, Int.reduceSub, Int.reduceMul, Int.reduceEq, Int.reduceNe, Nat.reduceEqDiff, Nat.reducePow, Nat.reduceDiv, Nat.reduceMod, Nat.reduceAdd, Nat.reduceMul, Nat.reduceSub, Nat.reduceLT, Nat.reduceLeDiff, reduceIte, reduceCtorEq, vecV, appendA_U]
  refine AApply.clo (Rows_spec (turned t) (turned_small ht) H _ ⟨trivial, ?_⟩)
  simp (config := { maxSteps := 1000000 }) only [go_sem, Int.reduceToNat, Int.reduceLE, Int.reduceLT, Int.reduceAdd, Int.reduceSub, Int.reduceMul, Int.reduceEq, Int.reduceNe, Nat.reduceEqDiff, Nat.reducePow, Nat.reduceDiv, Nat.reduceMod, Nat.reduceAdd, Nat.reduceMul, Nat.reduceSub, Nat.reduceLT, Nat.reduceLeDiff, reduceIte, reduceCtorEq, appendA_U]
  rw [rows_turned]
  exact FinV.mk (Nat.le_refl _) hK

theorem refTotal_spec (t : List (List Int)) (ht : TableOk t) (H : AHeap) (K : ARes → AHeap → Prop) (hK : K (.ret (.lit (.int .i64 (overI (colsOf t).sum (colsOf t))))) H) : ACall Tryd.prog G0 28 [vecV t] H K := by
  obtain ⟨h1, h2, h3⟩ := rows_le ht
  obtain ⟨c1, c2, c3⟩ := cols_ok ht
  have hsum : (colsOf t).sum = (rowsOf t).sum := by unfold colsOf; rw [colSum fun r hm => (rows_ok ht r hm).1]; rfl
  have hs0 := sum_nonneg h2
  refine ACall.of_body (n := 24) (rs := [.tmp 2]) Tryd.func28 rfl rfl rfl (by decide) (by kernel_rfl) (by simp) ?_
  simp (config := { maxSteps := 1000000 }) only [go_sem, Int.reduceToNat, Int.reduceLE, Int.reduceLT, Int.reduceAdd, Int.reduceSub, Int.reduceMul, Int.reduceEq, Int.reduceNe, Nat.reduceEqDiff, Nat.reducePow, Nat.reduceDiv, Nat.reduceMod, Nat.reduceAdd, Nat.reduceMul, Nat.reduceSub, Nat.reduceLT, Nat.reduceLeDiff, reduceIte, reduceCtorEq, vecV, appendA_U]
  refine AApply.clo (Rows_spec t (small_of_ok ht) H _ ⟨trivial, ?_⟩)
  simp (config := { maxSteps := 1000000 }) only [go_sem, Int.reduceToNat, Int.reduceLE, Int.reduceLT, Int.reduceAdd, Int.reduceSub, Int.reduceMul, Int.reduceEq, Int.reduceNe, Nat.reduceEqDiff, Nat.reducePow, Nat.reduceDiv, Nat.reduceMod, Nat.reduceAdd, Nat.reduceMul, Nat.reduceSub, Nat.reduceLT, Nat.reduceLeDiff, reduceIte, reduceCtorEq, appendA_U]
  refine W.loop0 1048360 (by rfl) (fun ρ H' => H' = H ∧ ∃ k : Nat, ρ 5 = lin k ∧ k ≤ (rowsOf t).length ∧ ρ 3 = lin ((rowsOf t).take k).sum) (fun ρ H => (rowsOf t).length - (iv (ρ 5)).toNat) ?_ ?_
  · simp (config := { maxSteps := 1000000 }) only [go_sem, Int.reduceToNat, Int.reduceLE, Int.reduceLT, Int.reduceAdd, Int.reduceSub, Int.reduceMul, Int.reduceEq, Int.reduceNe, Nat.reduceEqDiff, Nat.reducePow, Nat.reduceDiv, Nat.reduceMod, Nat.reduceAdd, Nat.reduceMul, Nat.reduceSub, Nat.reduceLT, Nat.reduceLeDiff, reduceIte, reduceCtorEq, appendA_U]
    exact ⟨0, rfl, by omega, by simp⟩
  rintro ρ H' ⟨rfl, k, h5, hk, h3'⟩
  refine vc_sound _ _ _ (by rfl) ?_
  have b1 := take_sum_le h2 k
  by_cases hb : (k : Int) < (rowsOf t).length
  · obtain ⟨c, hc⟩ : ∃ c, (rowsOf t)[k]? = some c := ⟨_, List.getElem?_eq_getElem (by omega)⟩
    have hne : ¬ rowsOf t = [] := by intro h; rw [h] at hc; simp at hc
    have b2 := le_sum h2 c (List.mem_of_getElem? hc)
    have b3 := h2 c (List.mem_of_getElem? hc)
    simp (config := { maxSteps := 1000000 }) only [go_sem, Int.reduceToNat, Int.reduceLE, Int.reduceLT, Int.reduceAdd, Int.reduceSub, Int.reduceMul, Int.reduceEq, Int.reduceNe, Nat.reduceEqDiff, Nat.reducePow, Nat.reduceDiv, Nat.reduceMod, Nat.reduceAdd, Nat.reduceMul, Nat.reduceSub, Nat.reduceLT, Nat.reduceLeDiff, reduceIte, reduceCtorEq, h5, h3', hb, hc, hne, appendA_U]
    rw [IntWalk.i64_in ((k : Int) + 1) (by omega), IntWalk.i64_in (_ + c) (by omega)]
    exact ⟨⟨k + 1, by simp, by omega, by rw [take_sum_succ hc]⟩, by omega⟩
  · have hke : (rowsOf t).take k = rowsOf t := List.take_of_length_le (by omega)
    rw [hke] at h3'
    simp (config := { maxSteps := 1000000 }) only [go_sem, Int.reduceToNat, Int.reduceLE, Int.reduceLT, Int.reduceAdd, Int.reduceSub, Int.reduceMul, Int.reduceEq, Int.reduceNe, Nat.reduceEqDiff, Nat.reducePow, Nat.reduceDiv, Nat.reduceMod, Nat.reduceAdd, Nat.reduceMul, Nat.reduceSub, Nat.reduceLT, Nat.reduceLeDiff, reduceIte, reduceCtorEq, h5, h3', hb, appendA_U]
    refine AApply.clo (Columns_spec t ht _ _ ⟨trivial, ?_⟩)
    simp (config := { maxSteps := 1000000 }) only [go_sem, Int.reduceToNat, Int.reduceLE, Int.reduceLT, Int.reduceAdd, Int.reduceSub, Int.reduceMul, Int.reduceEq, Int.reduceNe, Nat.reduceEqDiff, Nat.reducePow, Nat.reduceDiv, Nat.reduceMod, Nat.reduceAdd, Nat.reduceMul, Nat.reduceSub, Nat.reduceLT, Nat.reduceLeDiff, reduceIte, reduceCtorEq, h5, h3', hb, appendA_U]
    obtain ⟨n, hn⟩ : ∃ n : Nat, (rowsOf t).sum = n := ⟨(rowsOf t).sum.toNat, by omega⟩
    rw [hn]
    refine AApply.clo (over_spec n (colsOf t) (by omega) (by omega) (fun c hc => ⟨c2 c hc, by have := le_sum c2 c hc; omega⟩) _ _ ⟨trivial, ?_⟩)
    simp (config := { maxSteps := 1000000 }) only [go_sem, Int.reduceToNat, Int.reduceLE, Int.reduceLT, Int.reduceAdd, Int.reduceSub, Int.reduceMul, Int.reduceEq, Int.reduceNe, Nat.reduceEqDiff, Nat.reducePow, Nat.reduceDiv, Nat.reduceMod, Nat.reduceAdd, Nat.reduceMul, Nat.reduceSub, Nat.reduceLT, Nat.reduceLeDiff, reduceIte, reduceCtorEq, appendA_U]
    refine FinV.mk (Nat.le_refl _) ?_
    rw [hsum, hn] at hK
    exact hK
end Go.Proofs
set_option linter.unusedSimpArgs false
namespace Go.Proofs
open Go.Hx

theorem Right_spec (t : List (List Int)) (ht : (t.length : Int) < 2 ^ 40) (hr : ∀ r, r ∈ t → (r.length : Int) < 2 ^ 40) (H : AHeap) (K : ARes → AHeap → Prop) (hK : K (.ret (.lit (.bool (decide (TableOk t))))) H) : ACall Tryd.prog G0 23 [vecV t] H K := by
  have no : ¬ TableOk t → FinV Tryd.prog G0 H K (.lit (.bool false)) H := fun h => FinV.mk (Nat.le_refl _) (by rw [decide_eq_false h] at hK; exact hK)
  refine ACall.of_body (n := 86) (rs := [.tmp 2]) Tryd.func23 rfl rfl rfl (by decide) (by kernel_rfl) (by simp) ?_
  simp (config := { maxSteps := 1000000 }) only [go_sem, Int.reduceToNat, Int.reduceLE, Int.reduceLT, Int.reduceAdd, Int.reduceSub, Int.reduceMul, Int.reduceEq, Int.reduceNe, Nat.reduceEqDiff, Nat.reducePow, Nat.reduceDiv, Nat.reduceMod, Nat.reduceAdd, Nat.reduceMul, Nat.reduceSub, Nat.reduceLT, Nat.reduceLeDiff, reduceIte, reduceCtorEq, vecV, appendA_U]
  by_cases h1 : (t.length : Int) < 2
  · simp (config := { maxSteps := 1000000 }) only [go_sem, Int.reduceToNat, Int.reduceLE, Int.reduceLT, Int.reduceAdd, Int.reduceSub, Int.reduceMul, Int.reduceEq, Int.reduceNe, Nat.reduceEqDiff, Nat.reducePow, Nat.reduceDiv, Nat.reduceMod, Nat.reduceAdd, Nat.reduceMul, Nat.reduceSub, Nat.reduceLT, Nat.reduceLeDiff, reduceIte, reduceCtorEq, h1, appendA_U]
    exact no fun h => by have := h.1; omega
  by_cases h2 : (t.length : Int) > 3
  · simp (config := { maxSteps := 1000000 }) only [go_sem, Int.reduceToNat, Int.reduceLE, Int.reduceLT, Int.reduceAdd, Int.reduceSub, Int.reduceMul, Int.reduceEq, Int.reduceNe, Nat.reduceEqDiff, Nat.reducePow, Nat.reduceDiv, Nat.reduceMod, Nat.reduceAdd, Nat.reduceMul, Nat.reduceSub, Nat.reduceLT, Nat.reduceLeDiff, reduceIte, reduceCtorEq, h1, h2, appendA_U]
    exact no fun h => by have := h.2.1; omega
  have h0 : 0 < t.length := by omega
  obtain ⟨r0, hr0⟩ : ∃ r, t[0]? = some r := ⟨_, List.getElem?_eq_getElem h0⟩
  have hne : ¬ t = [] := by rintro rfl; simp at h0
  have ht0 : (0 : Int) < t.length := by omega
  have hr0d : t.headD [] = r0 := by
    cases t with
    | nil => simp at h0
    | cons a t => simpa using hr0
  have h0m : r0 ∈ t := List.mem_of_getElem? hr0
  by_cases e2 : (r0.length : Int) < 2
  · simp (config := { maxSteps := 1000000 }) only [go_sem, Int.reduceToNat, Int.reduceLE, Int.reduceLT, Int.reduceAdd, Int.reduceSub, Int.reduceMul, Int.reduceEq, Int.reduceNe, Nat.reduceEqDiff, Nat.reducePow, Nat.reduceDiv, Nat.reduceMod, Nat.reduceAdd, Nat.reduceMul, Nat.reduceSub, Nat.reduceLT, Nat.reduceLeDiff, reduceIte, reduceCtorEq, h1, h2, hr0, hne, ht0, e2, appendA_U]
    exact no fun h => by have := (h.2.2.1 r0 h0m).2.1; omega
  by_cases e3 : (r0.length : Int) > 3
  · simp (config := { maxSteps := 1000000 }) only [go_sem, Int.reduceToNat, Int.reduceLE, Int.reduceLT, Int.reduceAdd, Int.reduceSub, Int.reduceMul, Int.reduceEq, Int.reduceNe, Nat.reduceEqDiff, Nat.reducePow, Nat.reduceDiv, Nat.reduceMod, Nat.reduceAdd, Nat.reduceMul, Nat.reduceSub, Nat.reduceLT, Nat.reduceLeDiff, reduceIte, reduceCtorEq, h1, h2, hr0, hne, ht0, e2, e3, appendA_U]
    exact no fun h => by have := (h.2.2.1 r0 h0m).2.2.1; omega
  simp (config := { maxSteps := 1000000 }) only [go_sem, Int.reduceToNat, Int.reduceLE, Int.reduceLT, Int.reduceAdd, Int.reduceSub, Int.reduceMul, Int.reduceEq, Int.reduceNe, Nat.reduceEqDiff, Nat.reducePow, Nat.reduceDiv, Nat.reduceMod, Nat.reduceAdd, Nat.reduceMul, Nat.reduceSub, Nat.reduceLT, Nat.reduceLeDiff, reduceIte, reduceCtorEq, h1, h2, hr0, hne, ht0, e2, e3, appendA_U]
  refine W.loop0 1208925819614628906270780 (by rfl) (fun ρ H' => H' = H ∧ ∃ k : Nat, ρ 4 = lin k ∧ k ≤ t.length ∧ ρ 3 = lin (total2 (t.take k)) ∧ ∀ r, r ∈ t.take k → rowOk (t.headD []).length r) (fun ρ H => t.length - (iv (ρ 4)).toNat) ?_ ?_
  · simp (config := { maxSteps := 1000000 }) only [go_sem, Int.reduceToNat, Int.reduceLE, Int.reduceLT, Int.reduceAdd, Int.reduceSub, Int.reduceMul, Int.reduceEq, Int.reduceNe, Nat.reduceEqDiff, Nat.reducePow, Nat.reduceDiv, Nat.reduceMod, Nat.reduceAdd, Nat.reduceMul, Nat.reduceSub, Nat.reduceLT, Nat.reduceLeDiff, reduceIte, reduceCtorEq, appendA_U]
    exact ⟨0, rfl, by omega, rfl, by simp⟩
  rintro ρ H' ⟨rfl, k, h18, hk, h3, hrs⟩
  refine vc_sound _ _ _ (by rfl) ?_
  by_cases hb : (k : Int) < t.length
  · obtain ⟨r, hrk⟩ : ∃ r, t[k]? = some r := ⟨_, List.getElem?_eq_getElem (by omega)⟩
    have hmem : r ∈ t := List.mem_of_getElem? hrk
    have nope : ¬ rowOk (t.headD []).length r → FinV Tryd.prog G0 H' K (.lit (.bool false)) H' := fun h => no fun ht => h (ht.2.2.1 r hmem)
    rw [hr0d] at nope hrs
    simp (config := { maxSteps := 1000000 }) only [go_sem, Int.reduceToNat, Int.reduceLE, Int.reduceLT, Int.reduceAdd, Int.reduceSub, Int.reduceMul, Int.reduceEq, Int.reduceNe, Nat.reduceEqDiff, Nat.reducePow, Nat.reduceDiv, Nat.reduceMod, Nat.reduceAdd, Nat.reduceMul, Nat.reduceSub, Nat.reduceLT, Nat.reduceLeDiff, reduceIte, reduceCtorEq, h18, hb, appendA_U]
    refine W.draw 9 [0, 0, 3, 7, 15, 0, 32, 96, 224] Tryd.mixed (by kernel_rfl) (by kernel_rfl) ?_
    by_cases e1 : (r.length : Int) = r0.length
    rotate_left
    · simp (config := { maxSteps := 1000000 }) only [go_sem, Int.reduceToNat, Int.reduceLE, Int.reduceLT, Int.reduceAdd, Int.reduceSub, Int.reduceMul, Int.reduceEq, Int.reduceNe, Nat.reduceEqDiff, Nat.reducePow, Nat.reduceDiv, Nat.reduceMod, Nat.reduceAdd, Nat.reduceMul, Nat.reduceSub, Nat.reduceLT, Nat.reduceLeDiff, reduceIte, reduceCtorEq, h18, h3, hb, hrk, hr0, hne, ht0, e1, appendA_U]
      exact nope fun h => e1 (by rw [h.1])
    simp (config := { maxSteps := 1000000 }) only [go_sem, Int.reduceToNat, Int.reduceLE, Int.reduceLT, Int.reduceAdd, Int.reduceSub, Int.reduceMul, Int.reduceEq, Int.reduceNe, Nat.reduceEqDiff, Nat.reducePow, Nat.reduceDiv, Nat.reduceMod, Nat.reduceAdd, Nat.reduceMul, Nat.reduceSub, Nat.reduceLT, Nat.reduceLeDiff, reduceIte, reduceCtorEq, h18, h3, hb, hrk, hr0, hne, ht0, e1, appendA_U]
    refine W.loop0 1208925819597036988661804 (by rfl) (fun ρ' H2 => H2 = H' ∧ ∃ j : Nat, ρ' 5 = lin j ∧ j ≤ r.length ∧ ρ' 3 = lin (total2 (t.take k) + (r.take j).sum) ∧ ∀ c, c ∈ r.take j → 0 ≤ c ∧ c ≤ 20) (fun ρ' H2 => r.length - (iv (ρ' 5)).toNat) ?_ ?_
    · simp (config := { maxSteps := 1000000 }) only [go_sem, Int.reduceToNat, Int.reduceLE, Int.reduceLT, Int.reduceAdd, Int.reduceSub, Int.reduceMul, Int.reduceEq, Int.reduceNe, Nat.reduceEqDiff, Nat.reducePow, Nat.reduceDiv, Nat.reduceMod, Nat.reduceAdd, Nat.reduceMul, Nat.reduceSub, Nat.reduceLT, Nat.reduceLeDiff, reduceIte, reduceCtorEq, h3, appendA_U]
      exact ⟨0, rfl, by omega, by simp, by simp⟩
    rintro ρ' H2 ⟨rfl, j, h41, hj, h3', hcs⟩
    refine vc_sound _ _ _ (by rfl) ?_
    have hrl : r.length ≤ 3 := by omega
    have hkl : k ≤ 3 := by omega
    have b1 := total2_bound hrs hkl
    have b2 := sum_bound hcs (by simp; omega : (r.take j).length ≤ 3)
    by_cases hb2 : (j : Int) < r.length <;> have hb2' := hb2 <;> rw [e1] at hb2'
    · obtain ⟨c, hc⟩ : ∃ c, r[j]? = some c := ⟨_, List.getElem?_eq_getElem (by omega)⟩
      have hrn : ¬ r = [] := by rintro rfl; simp at hb2; omega
      have hcm : c ∈ r := List.mem_of_getElem? hc
      by_cases c1 : c < 0
      · simp (config := { maxSteps := 1000000 }) only [go_sem, Int.reduceToNat, Int.reduceLE, Int.reduceLT, Int.reduceAdd, Int.reduceSub, Int.reduceMul, Int.reduceEq, Int.reduceNe, Nat.reduceEqDiff, Nat.reducePow, Nat.reduceDiv, Nat.reduceMod, Nat.reduceAdd, Nat.reduceMul, Nat.reduceSub, Nat.reduceLT, Nat.reduceLeDiff, reduceIte, reduceCtorEq, h41, h3', hb2, hb2', hc, hrn, c1, h18, hb, hrk, hne, appendA_U]
        exact nope fun h => by have := (h.2.2.2 c hcm).1; omega
      by_cases c2 : c > 20
      · simp (config := { maxSteps := 1000000 }) only [go_sem, Int.reduceToNat, Int.reduceLE, Int.reduceLT, Int.reduceAdd, Int.reduceSub, Int.reduceMul, Int.reduceEq, Int.reduceNe, Nat.reduceEqDiff, Nat.reducePow, Nat.reduceDiv, Nat.reduceMod, Nat.reduceAdd, Nat.reduceMul, Nat.reduceSub, Nat.reduceLT, Nat.reduceLeDiff, reduceIte, reduceCtorEq, h41, h3', hb2, hb2', hc, hrn, c1, c2, h18, hb, hrk, hne, appendA_U]
        exact nope fun h => by have := (h.2.2.2 c hcm).2; omega
      simp (config := { maxSteps := 1000000 }) only [go_sem, Int.reduceToNat, Int.reduceLE, Int.reduceLT, Int.reduceAdd, Int.reduceSub, Int.reduceMul, Int.reduceEq, Int.reduceNe, Nat.reduceEqDiff, Nat.reducePow, Nat.reduceDiv, Nat.reduceMod, Nat.reduceAdd, Nat.reduceMul, Nat.reduceSub, Nat.reduceLT, Nat.reduceLeDiff, reduceIte, reduceCtorEq, h41, h3', hb2, hb2', hc, hrn, c1, c2, h18, hb, hrk, hne, appendA_U]
      rw [IntWalk.i64_in ((j : Int) + 1) (by omega), IntWalk.i64_in (_ + c) (by omega)]
      refine ⟨⟨j + 1, by simp, by omega, ?_, ?_⟩, by omega⟩
      · rw [take_succ_of hc]; simp [Int.add_assoc]
      · rw [take_succ_of hc]
        intro d hd
        rcases List.mem_append.1 hd with hd | hd
        · exact hcs d hd
        · obtain rfl := List.mem_singleton.1 hd; omega
    · simp (config := { maxSteps := 1000000 }) only [go_sem, Int.reduceToNat, Int.reduceLE, Int.reduceLT, Int.reduceAdd, Int.reduceSub, Int.reduceMul, Int.reduceEq, Int.reduceNe, Nat.reduceEqDiff, Nat.reducePow, Nat.reduceDiv, Nat.reduceMod, Nat.reduceAdd, Nat.reduceMul, Nat.reduceSub, Nat.reduceLT, Nat.reduceLeDiff, reduceIte, reduceCtorEq, h41, h3', hb2, hb2', h18, hb, hrk, hne, appendA_U]
      rw [IntWalk.i64_in ((k : Int) + 1) (by omega)]
      have hjr : r.take j = r := List.take_of_length_le (by omega)
      rw [hjr] at hcs h3' ⊢
      refine ⟨⟨k + 1, by simp, by omega, ?_, ?_⟩, by omega⟩
      · rw [take_succ_of hrk]; simp [total2]
      · rw [take_succ_of hrk, hr0d]
        intro d hd
        rcases List.mem_append.1 hd with hd | hd
        · exact hrs d hd
        · obtain rfl := List.mem_singleton.1 hd; exact ⟨by omega, by omega, by omega, hcs⟩
  · have hkt : t.take k = t := List.take_of_length_le (by omega)
    rw [hkt] at h3 hrs
    by_cases s1 : total2 t ≥ 1
    · by_cases s2 : total2 t ≤ 20
      · simp (config := { maxSteps := 1000000 }) only [go_sem, Int.reduceToNat, Int.reduceLE, Int.reduceLT, Int.reduceAdd, Int.reduceSub, Int.reduceMul, Int.reduceEq, Int.reduceNe, Nat.reduceEqDiff, Nat.reducePow, Nat.reduceDiv, Nat.reduceMod, Nat.reduceAdd, Nat.reduceMul, Nat.reduceSub, Nat.reduceLT, Nat.reduceLeDiff, reduceIte, reduceCtorEq, h18, h3, hb, s1, s2, appendA_U]
        refine FinV.mk (Nat.le_refl _) ?_
        have hok : TableOk t := ⟨by omega, by omega, hrs, by omega, by omega⟩
        rw [decide_eq_true hok] at hK
        exact hK
      · simp (config := { maxSteps := 1000000 }) only [go_sem, Int.reduceToNat, Int.reduceLE, Int.reduceLT, Int.reduceAdd, Int.reduceSub, Int.reduceMul, Int.reduceEq, Int.reduceNe, Nat.reduceEqDiff, Nat.reducePow, Nat.reduceDiv, Nat.reduceMod, Nat.reduceAdd, Nat.reduceMul, Nat.reduceSub, Nat.reduceLT, Nat.reduceLeDiff, reduceIte, reduceCtorEq, h18, h3, hb, s1, s2, appendA_U]
        exact no fun h => by have := h.2.2.2.2; omega
    · simp (config := { maxSteps := 1000000 }) only [go_sem, Int.reduceToNat, Int.reduceLE, Int.reduceLT, Int.reduceAdd, Int.reduceSub, Int.reduceMul, Int.reduceEq, Int.reduceNe, Nat.reduceEqDiff, Nat.reducePow, Nat.reduceDiv, Nat.reduceMod, Nat.reduceAdd, Nat.reduceMul, Nat.reduceSub, Nat.reduceLT, Nat.reduceLeDiff, reduceIte, reduceCtorEq, h18, h3, hb, s1, appendA_U]
      exact no fun h => by have := h.2.2.2.1; omega
end Go.Proofs
set_option linter.unusedSimpArgs false
namespace Go.Proofs
open Go.Hx

theorem eq_spec (x y : List Int) (hx : (x.length : Int) < 2 ^ 62) (H : AHeap) (K : ARes → AHeap → Prop) (hK : K (.ret (.lit (.bool (decide (x = y))))) H) : ACall Tryd.prog G0 24 [vecI x, vecI y] H K := by
  have no : ¬ x = y → FinV Tryd.prog G0 H K (.lit (.bool false)) H := fun h => FinV.mk (Nat.le_refl _) (by rw [decide_eq_false h] at hK; exact hK)
  refine ACall.of_body (n := 26) (rs := [.tmp 4]) Tryd.func24 rfl rfl rfl (by decide) (by kernel_rfl) (by simp) ?_
  by_cases hl : (x.length : Int) = y.length
  rotate_left
  · simp (config := { maxSteps := 1000000 }) only [go_sem, Int.reduceToNat, Int.reduceLE, Int.reduceLT, Int.reduceAdd, Int.reduceSub, Int.reduceMul, Int.reduceEq, Int.reduceNe, Nat.reduceEqDiff, Nat.reducePow, Nat.reduceDiv, Nat.reduceMod, Nat.reduceAdd, Nat.reduceMul, Nat.reduceSub, Nat.reduceLT, Nat.reduceLeDiff, reduceIte, reduceCtorEq, hl, appendA_U]
    exact no fun h => hl (by rw [h])
  simp (config := { maxSteps := 1000000 }) only [go_sem, Int.reduceToNat, Int.reduceLE, Int.reduceLT, Int.reduceAdd, Int.reduceSub, Int.reduceMul, Int.reduceEq, Int.reduceNe, Nat.reduceEqDiff, Nat.reducePow, Nat.reduceDiv, Nat.reduceMod, Nat.reduceAdd, Nat.reduceMul, Nat.reduceSub, Nat.reduceLT, Nat.reduceLeDiff, reduceIte, reduceCtorEq, hl, appendA_U]
  refine W.loop0 67100720 (by rfl) (fun ρ H' => H' = H ∧ ∃ k : Nat, ρ 13 = lin k ∧ k ≤ x.length ∧ x.take k = y.take k) (fun ρ H => x.length - (iv (ρ 13)).toNat) ?_ ?_
  · simp (config := { maxSteps := 1000000 }) only [go_sem, Int.reduceToNat, Int.reduceLE, Int.reduceLT, Int.reduceAdd, Int.reduceSub, Int.reduceMul, Int.reduceEq, Int.reduceNe, Nat.reduceEqDiff, Nat.reducePow, Nat.reduceDiv, Nat.reduceMod, Nat.reduceAdd, Nat.reduceMul, Nat.reduceSub, Nat.reduceLT, Nat.reduceLeDiff, reduceIte, reduceCtorEq, appendA_U]
    exact ⟨0, rfl, by omega, rfl⟩
  rintro ρ H' ⟨rfl, k, h13, hk, ht⟩
  refine vc_sound _ _ _ (by rfl) ?_
  by_cases hb : (k : Int) < y.length
  · obtain ⟨a, ha⟩ : ∃ a, x[k]? = some a := ⟨_, List.getElem?_eq_getElem (by omega)⟩
    obtain ⟨b, hbk⟩ : ∃ b, y[k]? = some b := ⟨_, List.getElem?_eq_getElem (by omega)⟩
    have hxn : ¬ x = [] := by rintro rfl; simp at ha
    have hyn : ¬ y = [] := by rintro rfl; simp at hbk
    have hbx : (k : Int) < x.length := by omega
    simp (config := { maxSteps := 1000000 }) only [go_sem, Int.reduceToNat, Int.reduceLE, Int.reduceLT, Int.reduceAdd, Int.reduceSub, Int.reduceMul, Int.reduceEq, Int.reduceNe, Nat.reduceEqDiff, Nat.reducePow, Nat.reduceDiv, Nat.reduceMod, Nat.reduceAdd, Nat.reduceMul, Nat.reduceSub, Nat.reduceLT, Nat.reduceLeDiff, reduceIte, reduceCtorEq, h13, hb, hbx, hl, appendA_U]
    refine W.draw 8 [0, 0, 3, 7, 0, 0, 48, 112] Tryd.mixed (by kernel_rfl) (by kernel_rfl) ?_
    by_cases he : a = b
    · subst he
      simp (config := { maxSteps := 1000000 }) only [go_sem, Int.reduceToNat, Int.reduceLE, Int.reduceLT, Int.reduceAdd, Int.reduceSub, Int.reduceMul, Int.reduceEq, Int.reduceNe, Nat.reduceEqDiff, Nat.reducePow, Nat.reduceDiv, Nat.reduceMod, Nat.reduceAdd, Nat.reduceMul, Nat.reduceSub, Nat.reduceLT, Nat.reduceLeDiff, reduceIte, reduceCtorEq, h13, hb, hbx, ha, hbk, hxn, hyn, appendA_U]
      rw [IntWalk.i64_in ((k : Int) + 1) (by omega)]
      exact ⟨⟨k + 1, by simp, by omega, by rw [take_succ_of ha, take_succ_of hbk, ht]⟩, by omega⟩
    · simp (config := { maxSteps := 1000000 }) only [go_sem, Int.reduceToNat, Int.reduceLE, Int.reduceLT, Int.reduceAdd, Int.reduceSub, Int.reduceMul, Int.reduceEq, Int.reduceNe, Nat.reduceEqDiff, Nat.reducePow, Nat.reduceDiv, Nat.reduceMod, Nat.reduceAdd, Nat.reduceMul, Nat.reduceSub, Nat.reduceLT, Nat.reduceLeDiff, reduceIte, reduceCtorEq, h13, hb, hbx, ha, hbk, hxn, hyn, he, appendA_U]
      exact no fun h => he (by rw [h, hbk] at ha; exact (Option.some.inj ha).symm)
  · simp (config := { maxSteps := 1000000 }) only [go_sem, Int.reduceToNat, Int.reduceLE, Int.reduceLT, Int.reduceAdd, Int.reduceSub, Int.reduceMul, Int.reduceEq, Int.reduceNe, Nat.reduceEqDiff, Nat.reducePow, Nat.reduceDiv, Nat.reduceMod, Nat.reduceAdd, Nat.reduceMul, Nat.reduceSub, Nat.reduceLT, Nat.reduceLeDiff, reduceIte, reduceCtorEq, h13, hb, hl, appendA_U]
    refine FinV.mk (Nat.le_refl _) ?_
    have : x = y := by
      rw [List.take_of_length_le (by omega), List.take_of_length_le (by omega)] at ht
      exact ht
    rw [decide_eq_true this] at hK
    exact hK
end Go.Proofs
set_option linter.unusedSimpArgs false
namespace Go.Proofs
open Go.Hx

theorem clone_spec (x : List Int) (hx : (x.length : Int) < 2 ^ 40) (H : AHeap) (K : ARes → AHeap → Prop) (hK : K (.ret (vecI x)) H) : ACall Tryd.prog G0 47 [vecI x] H K := by
  refine ACall.clo ⟨_, Tryd.func47, rfl, rfl⟩ fun hc => ?_
  refine ACall.of_body (n := 8) (rs := [.tmp 2]) Tryd.func47 rfl rfl rfl (by decide) (by kernel_rfl) (by simp) ?_
  simp (config := { maxSteps := 1000000 }) only [go_sem, Int.reduceToNat, Int.reduceLE, Int.reduceLT, Int.reduceAdd, Int.reduceSub, Int.reduceMul, Int.reduceEq, Int.reduceNe, Nat.reduceEqDiff, Nat.reducePow, Nat.reduceDiv, Nat.reduceMod, Nat.reduceAdd, Nat.reduceMul, Nat.reduceSub, Nat.reduceLT, Nat.reduceLeDiff, reduceIte, reduceCtorEq, appendA_U]
  intro b hlen
  cases b with
  | true =>
    have hx0 : x = [] := List.eq_nil_of_length_eq_zero (by
      by_cases h : 0 < x.length
      · have := hlen (by simpa using h)
        cases this
      · omega)
    simp (config := { maxSteps := 1000000 }) only [go_sem, Int.reduceToNat, Int.reduceLE, Int.reduceLT, Int.reduceAdd, Int.reduceSub, Int.reduceMul, Int.reduceEq, Int.reduceNe, Nat.reduceEqDiff, Nat.reducePow, Nat.reduceDiv, Nat.reduceMod, Nat.reduceAdd, Nat.reduceMul, Nat.reduceSub, Nat.reduceLT, Nat.reduceLeDiff, reduceIte, reduceCtorEq, appendA_U]
    subst hx0
    exact FinV.drop0 G0_ok hc .ints_nil hK
  | false =>
    by_cases h0 : x.length = 0
    · have hx0 : x = [] := List.eq_nil_of_length_eq_zero h0
      subst hx0
      simp (config := { maxSteps := 1000000 }) only [go_sem, Int.reduceToNat, Int.reduceLE, Int.reduceLT, Int.reduceAdd, Int.reduceSub, Int.reduceMul, Int.reduceEq, Int.reduceNe, Nat.reduceEqDiff, Nat.reducePow, Nat.reduceDiv, Nat.reduceMod, Nat.reduceAdd, Nat.reduceMul, Nat.reduceSub, Nat.reduceLT, Nat.reduceLeDiff, reduceIte, reduceCtorEq, appendA_U]
      refine ⟨⟨rfl, rfl⟩, FinV.drop (v' := vecI []) G0_ok hc ?_ hK⟩
      exact .ints (Nat.le_refl _) (get_ext0 ..) rfl fun i hi => absurd hi (Nat.not_lt_zero _)
    · simp (config := { maxSteps := 1000000 }) only [go_sem, Int.reduceToNat, Int.reduceLE, Int.reduceLT, Int.reduceAdd, Int.reduceSub, Int.reduceMul, Int.reduceEq, Int.reduceNe, Nat.reduceEqDiff, Nat.reducePow, Nat.reduceDiv, Nat.reduceMod, Nat.reduceAdd, Nat.reduceMul, Nat.reduceSub, Nat.reduceLT, Nat.reduceLeDiff, reduceIte, reduceCtorEq, h0, appendA_U]
      refine ⟨⟨rfl, by omega, by omega, all_one_ints x⟩, FinV.drop G0_ok hc ?_ hK⟩
      exact .ints (Nat.le_refl _) (get_ext0 ..) rfl fun i hi => by simp [ints_get, hi]
end Go.Proofs
set_option linter.unusedSimpArgs false
namespace Go.Proofs
open Go.Hx

def u8L (l : List Int) : List AVal := l.map fun n => .lit (.int .u8 n)
theorem total2_app (t : List (List Int)) (r : List Int) : total2 (t ++ [r]) = total2 t + r.sum := by simp [total2]
/-- A slice of slices, each of which has a block of its own. -/
def OwnVD (H : AHeap) (L : List Blk) (v : AVal) (rows : List (List Int)) : Prop :=
  ∃ cs : List AVal, OwnC H L 46 0 L.length v cs ∧ cs.length = rows.length ∧ (∀ (j : Nat) (r : List Int) (c : AVal), rows[j]? = some r → cs[j]? = some c → OwnC H L 3 0 L.length c (ints r)) ∧
    ∀ j j' i g g' n n' : Nat, cs[j]? = some (AVal.own i g 0 n 1) → cs[j']? = some (AVal.own i g' 0 n' 1) → j = j'
theorem OwnVD.nil {H : AHeap} {L : List Blk} : OwnVD H L (.lit (.slice none 0 0)) [] := ⟨[], .nil, rfl, fun j r c h => by simp at h, fun j j' i g g' n n' h => by simp at h⟩
theorem OwnVD.toV {H : AHeap} {L : List Blk} {v : AVal} {rows : List (List Int)} (h : OwnVD H L v rows) : OwnV H L v rows := let ⟨cs, h1, h2, h3, _⟩ := h; ⟨cs, h1, h2, h3⟩
theorem OwnVD.app {P : Program} {H : AHeap} {L0 L : List Blk} {v x : AVal} {rows : List (List Int)} {r : List Int} {t : TypeId} {z : List AVal} (ht : P.underlying t = some (.slice 46)) (hz : P.cellsOf 46 = 1) (hzero : zeroA P 46 = some z) (hby : P.bytesOf 46 = 24)
    (hb : rows.length < 2 ^ 40) (h : OwnVD H L0 v rows) (hL0 : L0.length ≤ L.length) (hk : ∀ i, i < L0.length → L[i]? = L0[i]?) (hx : OwnC H L 3 L0.length L.length x (ints r)) :
    ∃ v' L', appendA P (ext H (L ++ [.arr 0 46 [x]])) (H.next + (L.length + 1)) t t v (.own (H.next + L.length) 0 0 1 1) = some (v', ext H L') ∧ OwnVD H L' v' (rows ++ [r]) ∧ L.length ≤ L'.length := by
  obtain ⟨cs, h1, h2, h3, h4⟩ := h
  have h1 := h1.keep (L' := L) (Nat.le_refl _) hL0 fun i _ _ hi _ => hk i hi
  have h3' : ∀ (j : Nat) (r : List Int) (c : AVal), rows[j]? = some r → cs[j]? = some c → OwnC H L 3 0 L.length c (ints r) := fun j r c hr hc => (h3 j r c hr hc).keep (Nat.le_refl _) hL0 fun i _ _ hi _ => hk i hi
  obtain ⟨v', L', hA, hO, hL, hp⟩ := app_one (t := t) ht hz hzero hx.one (by rw [hby, h2]; omega) h1 (Nat.zero_le _) (Nat.le_refl _)
  have one0 : ∀ (j : Nat) (a : List AVal) (y : AVal), j ≥ a.length → ∀ c, (a ++ [y])[j]? = some c → j = a.length ∧ c = y := by
    intro j a y hj c hc
    rw [List.getElem?_append_right hj] at hc
    rcases Nat.eq_zero_or_pos (j - a.length) with h | h
    · rw [h] at hc; cases hc; exact ⟨by omega, rfl⟩
    · rw [List.getElem?_eq_none (by simp; omega)] at hc; cases hc
  have key : ∀ u l, OwnC H L 3 0 L.length u l → OwnC H L' 3 0 L'.length u l := fun u l hu => (h1.other hu (by decide) (Nat.le_refl _) hp).keep (Nat.le_refl _) hL fun _ _ _ _ _ => rfl
  -- the old rows lie below, the new one above
  have low : ∀ (j i g n : Nat), cs[j]? = some (.own i g 0 n 1) → i < H.next + L0.length := by
    intro j i g n hj
    have hjl : j < rows.length := by
      rw [← h2]
      rcases Nat.lt_or_ge j cs.length with h | h
      · exact h
      · rw [List.getElem?_eq_none h] at hj; cases hj
    rcases h3 j rows[j] _ (List.getElem?_eq_getElem hjl) hj with ⟨e, _⟩ | ⟨i2, g2, _, b2, e, _⟩
    · cases e
    · have := AVal.own.inj e; omega
  have high : ∀ (i g n : Nat), x = .own i g 0 n 1 → H.next + L0.length ≤ i := by
    intro i g n hi
    rcases hx with ⟨e, _⟩ | ⟨i2, g2, b1, _, e, _⟩
    · rw [e] at hi; cases hi
    · rw [e] at hi; have := AVal.own.inj hi; omega
  refine ⟨v', L', hA, ⟨cs ++ [x], hO, by simp [h2], fun j r' c hr hc => ?_, fun j j' i g g' n n' hj hj' => ?_⟩, hL⟩
  · rcases Nat.lt_or_ge j rows.length with hj | hj
    · rw [List.getElem?_append_left hj] at hr
      rw [List.getElem?_append_left (by omega)] at hc
      exact key _ _ (h3' j r' c hr hc)
    · obtain ⟨hj2, rfl⟩ := one0 j cs x (by omega) c hc
      rw [List.getElem?_append_right hj] at hr
      have : j - rows.length = 0 := by omega
      rw [this] at hr; cases hr
      exact key _ _ (hx.keep (Nat.zero_le _) (Nat.le_refl _) fun _ _ _ _ _ => rfl)
  · rcases Nat.lt_or_ge j cs.length with hl | hl <;> rcases Nat.lt_or_ge j' cs.length with hl' | hl'
    · rw [List.getElem?_append_left hl] at hj
      rw [List.getElem?_append_left hl'] at hj'
      exact h4 _ _ _ _ _ _ _ hj hj'
    · obtain ⟨_, e⟩ := one0 j' cs x hl' _ hj'
      rw [List.getElem?_append_left hl] at hj
      have a := low _ _ _ _ hj
      have b := high _ _ _ e.symm
      omega
    · obtain ⟨_, e⟩ := one0 j cs x hl _ hj
      rw [List.getElem?_append_left hl'] at hj'
      have a := low _ _ _ _ hj'
      have b := high _ _ _ e.symm
      omega
    · have a := (one0 j cs x hl _ hj).1
      have b := (one0 j' cs x hl' _ hj').1
      omega
/-- A count of the table set. -/
theorem OwnVD.set {H : AHeap} {L : List Blk} {v : AVal} {rows : List (List Int)} {p q : Nat} {r : List Int} (n : Int) (h : OwnVD H L v rows) (hp : rows[p]? = some r) (hq : q < r.length) :
    ∃ (i g i0 g0 : Nat) (cs : List AVal), v = .own (H.next + i) g 0 rows.length 1 ∧ i < L.length ∧ L[i]? = some (.arr g 46 cs) ∧ cs[p]? = some (.own (H.next + i0) g0 0 r.length 1) ∧ i0 < L.length ∧ L[i0]? = some (.arr g0 3 (ints r)) ∧
      OwnVD H (L.set i0 (.arr g0 3 (ints (r.set q n)))) v (rows.set p (r.set q n)) := by
  obtain ⟨cs, h1, h2, h3, h4⟩ := h
  have hpl : p < rows.length := by
    rcases Nat.lt_or_ge p rows.length with h | h
    · exact h
    · rw [List.getElem?_eq_none h] at hp; cases hp
  have hc : cs[p]? = some cs[p] := List.getElem?_eq_getElem (by omega)
  rcases h3 p r cs[p] hp hc with ⟨_, e⟩ | ⟨i0, g0, _, a2, a3, a4⟩
  · exfalso
    have : (ints r).length = 0 := by rw [e]; rfl
    rw [ints_length] at this; omega
  rcases h1 with ⟨_, e⟩ | ⟨i, g, _, b2, b3, b4⟩
  · exfalso; rw [e] at h2; simp at h2; omega
  have hne : i ≠ i0 := by
    rintro rfl
    rw [a4] at b4; cases b4
  rw [ints_length] at a3
  refine ⟨i, g, i0, g0, cs, by rw [b3, h2], b2, b4, by rw [hc, a3], a2, a4, cs, .inr ⟨i, g, Nat.zero_le _, by simpa using b2, b3, by rw [List.getElem?_set_ne (by omega)]; exact b4⟩, by simpa using h2, fun j r' c hr hc' => ?_, h4⟩
  by_cases hj : j = p
  · subst hj
    rw [List.getElem?_set_self hpl] at hr
    cases hr
    rw [hc] at hc'; cases hc'
    exact .inr ⟨i0, g0, Nat.zero_le _, by simpa using a2, by rw [a3]; simp [ints_length], by rw [List.getElem?_set_self (by omega)]⟩
  · rw [List.getElem?_set_ne (by omega)] at hr
    rcases h3 j r' c hr hc' with ⟨e1, e2⟩ | ⟨i2, g2, _, c2, c3, c4⟩
    · exact .inl ⟨e1, e2⟩
    · have : i2 ≠ i0 := by
        rintro rfl
        rw [ints_length] at c3
        rw [c3] at hc'
        have hc2 : cs[p]? = some (AVal.own (H.next + i2) g0 0 r.length 1) := by rw [hc, a3]
        exact hj (h4 _ _ _ _ _ _ _ hc' hc2)
      exact .inr ⟨i2, g2, Nat.zero_le _, by simpa using c2, c3, by rw [List.getElem?_set_ne (by omega)]; exact c4⟩
theorem Table_spec (hi wi mo : Int) (ns : List Int) (hn : ns.length = 9) (hh : 0 ≤ hi ∧ hi ≤ 255) (hw : 0 ≤ wi ∧ wi ≤ 255) (hm : 0 ≤ mo ∧ mo ≤ 255) (hns : ∀ c, c ∈ ns → 0 ≤ c ∧ c ≤ 255) (H : AHeap) (K : ARes → AHeap → Prop)
    (hK : ∀ t, TableOk t → K (.ret (vecV t)) H) : ACall Tryd.prog G0 11 [.agg (u8L (hi :: wi :: (ns ++ [mo])))] H K := by
  refine ACall.clo ⟨_, Tryd.func11, rfl, rfl⟩ fun hcl => ?_
  refine ACall.of_body (n := 66) (rs := [.tmp 2]) Tryd.func11 rfl rfl rfl (by decide) (by kernel_rfl) (by simp) ?_
  have e1 : hi.tmod 2 = hi % 2 := Int.tmod_eq_emod_of_nonneg hh.1
  have e2 : wi.tmod 2 = wi % 2 := Int.tmod_eq_emod_of_nonneg hw.1
  have e3 : mo.tmod 10 = mo % 10 := Int.tmod_eq_emod_of_nonneg hm.1
  obtain ⟨D, hD⟩ : ∃ D, D = u8L (hi :: wi :: (ns ++ [mo])) := ⟨_, rfl⟩
  have d0 : D[0]? = some (.lit (.int .u8 hi)) := by rw [hD]; rfl
  have d1 : D[1]? = some (.lit (.int .u8 wi)) := by rw [hD]; rfl
  have d11 : D[11]? = some (.lit (.int .u8 mo)) := by rw [hD]; simp [u8L, hn]
  have d2 : ∀ p, p < 9 → ∃ c, D[2 + p]? = some (.lit (.int .u8 c)) ∧ 0 ≤ c ∧ c ≤ 255 := by
    intro p hp
    refine ⟨ns[p], ?_, hns _ (List.getElem_mem _)⟩
    rw [hD, Nat.add_comm]
    simp only [u8L, List.map_cons, List.map_append, List.getElem?_cons_succ]
    rw [List.getElem?_append_left (by simp; omega)]
    simp [List.getElem?_eq_getElem (show p < ns.length by omega)]
  have dl : D.length = 12 := by rw [hD]; simp [u8L, hn]
  rw [← hD]
  simp (config := { maxSteps := 1000000 }) only [go_sem, Int.reduceToNat, Int.reduceLE, Int.reduceLT, Int.reduceAdd, Int.reduceSub, Int.reduceMul, Int.reduceEq, Int.reduceNe, Nat.reduceEqDiff, Nat.reducePow, Nat.reduceDiv, Nat.reduceMod, Nat.reduceAdd, Nat.reduceMul, Nat.reduceSub, Nat.reduceLT, Nat.reduceLeDiff, reduceIte, reduceCtorEq, appendA_U]
  refine W.draw 11 [0, 1, 3, 7, 15, 0, 32, 96, 224, 480, 31] Tryd.mixed (by kernel_rfl) (by kernel_rfl) ?_
  have u1 := IntWalk.i64_in (hi % 2) (by omega)
  have u2 := IntWalk.i64_in (2 + hi % 2) (by omega)
  have u3 := IntWalk.i64_in (wi % 2) (by omega)
  have u4 := IntWalk.i64_in (2 + wi % 2) (by omega)
  simp (config := { maxSteps := 1000000 }) only [go_sem, Int.reduceToNat, Int.reduceLE, Int.reduceLT, Int.reduceAdd, Int.reduceSub, Int.reduceMul, Int.reduceEq, Int.reduceNe, Nat.reduceEqDiff, Nat.reducePow, Nat.reduceDiv, Nat.reduceMod, Nat.reduceAdd, Nat.reduceMul, Nat.reduceSub, Nat.reduceLT, Nat.reduceLeDiff, reduceIte, reduceCtorEq, d0, d1, e1, e2, e3, u1, u2, u3, u4, appendA_U]
  obtain ⟨H1, hH1⟩ : ∃ H1, H1 = ext H [.arr 0 24 D] := ⟨_, rfl⟩
  rw [← hH1]
  have hlv : ∀ L, (ext H1 L).live H.next 0 = some (24, D) := fun L => by rw [hH1, ext_ext]; exact live_ext0 ..
  refine W.loop0 576460752301328352 (by rfl) (fun ρ H' => ∃ (k : Nat) (L : List Blk) (rows : List (List Int)), H' = ext H1 L ∧ ρ 7 = lin k ∧ (k : Int) ≤ 2 + hi % 2 ∧ OwnVD H1 L (ρ 6) rows ∧ rows.length = k ∧ ρ 5 = lin (20 - total2 rows) ∧ 0 ≤ total2 rows ∧ total2 rows ≤ 20 ∧
    (∀ r, r ∈ rows → (r.length : Int) = 2 + wi % 2 ∧ ∀ c, c ∈ r → 0 ≤ c ∧ c ≤ 20)) (fun ρ H => 3 - (iv (ρ 7)).toNat) ?_ ?_
  · simp (config := { maxSteps := 1000000 }) only [go_sem, Int.reduceToNat, Int.reduceLE, Int.reduceLT, Int.reduceAdd, Int.reduceSub, Int.reduceMul, Int.reduceEq, Int.reduceNe, Nat.reduceEqDiff, Nat.reducePow, Nat.reduceDiv, Nat.reduceMod, Nat.reduceAdd, Nat.reduceMul, Nat.reduceSub, Nat.reduceLT, Nat.reduceLeDiff, reduceIte, reduceCtorEq, appendA_U]
    exact ⟨0, [], [], (ext_nil _).symm, rfl, by omega, .nil, rfl, rfl, by decide, by decide, fun r hr => by cases hr⟩
  rintro ρ H' ⟨k, L, rows, rfl, h7, hk, h6, hrl, h5, ht0, ht20, hrows⟩
  refine vc_sound _ _ _ (by rfl) ?_
  by_cases hb : (k : Int) < 2 + hi % 2
  · simp (config := { maxSteps := 1000000 }) only [go_sem, Int.reduceToNat, Int.reduceLE, Int.reduceLT, Int.reduceAdd, Int.reduceSub, Int.reduceMul, Int.reduceEq, Int.reduceNe, Nat.reduceEqDiff, Nat.reducePow, Nat.reduceDiv, Nat.reduceMod, Nat.reduceAdd, Nat.reduceMul, Nat.reduceSub, Nat.reduceLT, Nat.reduceLeDiff, reduceIte, reduceCtorEq, h7, hb, h5, appendA_U]
    refine W.loop0 36028796951856928 (by rfl) (fun ρ' H2 => ∃ (j : Nat) (L2 : List Blk) (r : List Int), H2 = ext H1 L2 ∧ ρ' 9 = lin j ∧ (j : Int) ≤ 2 + wi % 2 ∧ OwnC H1 L2 3 L.length L2.length (ρ' 8) (ints r) ∧ r.length = j ∧ ρ' 5 = lin (20 - total2 rows - r.sum) ∧ 0 ≤ r.sum ∧ total2 rows + r.sum ≤ 20 ∧
      (∀ c, c ∈ r → 0 ≤ c ∧ c ≤ 20) ∧ L.length ≤ L2.length ∧ ∀ i, i < L.length → L2[i]? = L[i]?) (fun ρ' H => 3 - (iv (ρ' 9)).toNat) ?_ ?_
    · simp (config := { maxSteps := 1000000 }) only [go_sem, Int.reduceToNat, Int.reduceLE, Int.reduceLT, Int.reduceAdd, Int.reduceSub, Int.reduceMul, Int.reduceEq, Int.reduceNe, Nat.reduceEqDiff, Nat.reducePow, Nat.reduceDiv, Nat.reduceMod, Nat.reduceAdd, Nat.reduceMul, Nat.reduceSub, Nat.reduceLT, Nat.reduceLeDiff, reduceIte, reduceCtorEq, h7, h5, appendA_U]
      exact ⟨0, L, [], rfl, rfl, by omega, .nil, rfl, by simp, by simp, by simpa using ht20, fun c hc => (by cases hc), Nat.le_refl _, fun _ _ => rfl⟩
    rintro ρ' H2 ⟨j, L2, r, rfl, h9, hj, h8, hrj, h5', hs0, hs20, hr, hLL, hLk⟩
    refine vc_sound _ _ _ (by rfl) ?_
    by_cases hb2 : (j : Int) < 2 + wi % 2
    · simp (config := { maxSteps := 1000000 }) only [go_sem, Int.reduceToNat, Int.reduceLE, Int.reduceLT, Int.reduceAdd, Int.reduceSub, Int.reduceMul, Int.reduceEq, Int.reduceNe, Nat.reduceEqDiff, Nat.reducePow, Nat.reduceDiv, Nat.reduceMod, Nat.reduceAdd, Nat.reduceMul, Nat.reduceSub, Nat.reduceLT, Nat.reduceLeDiff, reduceIte, reduceCtorEq, h7, hb, hb2, h9, appendA_U]
      refine W.draw 13 [0, 1, 0, 7, 0, 31, 63, 127, 0, 256, 768, 1792, 3840] Tryd.mixed (by kernel_rfl) (by kernel_rfl) ?_
      obtain ⟨c, hc, hc0⟩ := d2 (3 * k + j) (by omega)
      have hp : (2 + mo % 10) ≠ 0 := by omega
      have w1 := IntWalk.i64_in (3 * (k : Int)) (by omega)
      have w2 := IntWalk.i64_in (3 * (k : Int) + j) (by omega)
      have w3 := IntWalk.i64_in c (by omega)
      have w4 := IntWalk.i64_in (mo % 10) (by omega)
      have w5 := IntWalk.i64_in (2 + mo % 10) (by omega)
      have hkj : 0 ≤ 3 * (k : Int) + j ∧ 3 * (k : Int) + j < 9 := by omega
      have hkn : (3 * (k : Int) + j).toNat = 3 * k + j := by omega
      have hc1 : 0 ≤ c.tmod (2 + mo % 10) := Int.tmod_nonneg _ hc0.1
      obtain ⟨m, hmm⟩ : ∃ m, (if 20 - total2 rows - r.sum < c.tmod (2 + mo % 10) then 20 - total2 rows - r.sum else c.tmod (2 + mo % 10)) = m := ⟨_, rfl⟩
      have hm0 : 0 ≤ m ∧ m ≤ 20 - total2 rows - r.sum := by rw [← hmm]; split <;> omega
      have w6 := IntWalk.i64_in (20 - total2 rows - r.sum - m) (by omega)
      have w7 := IntWalk.i64_in ((j : Int) + 1) (by omega)
      obtain ⟨v', L', hA, hO, hL3, hp3⟩ := app_one (H := H1) (L := L2) (t := 46) (x := lin m) Tryd.underlying46 Tryd.cells3 Tryd.zero3 rfl (by rw [Tryd.bytes3]; simp [ints]; omega) h8 hLL (Nat.le_refl _)
      simp only [lin] at hA
      simp (config := { maxSteps := 1000000 }) only [go_sem, Int.reduceToNat, Int.reduceLE, Int.reduceLT, Int.reduceAdd, Int.reduceSub, Int.reduceMul, Int.reduceEq, Int.reduceNe, Nat.reduceEqDiff, Nat.reducePow, Nat.reduceDiv, Nat.reduceMod, Nat.reduceAdd, Nat.reduceMul, Nat.reduceSub, Nat.reduceLT, Nat.reduceLeDiff, reduceIte, reduceCtorEq, h7, h9, h5', hlv, d11, e3, w1, w2, w3, w4, w5, dl, hc, hp, hkj, hkn, hmm, w6, w7, hA]
      refine ⟨by omega, ⟨j + 1, L', r ++ [m], rfl, by simp, by omega, ?_, by simp [hrj], ?_, ?_, ?_, ?_, by omega, fun i hi => ?_⟩, by omega⟩
      · have e : ints (r ++ [m]) = ints r ++ [lin m] := by simp [ints]
        rw [e]
        exact hO
      · simp [lin]; omega
      · simp; omega
      · simp; omega
      · intro c hc
        rcases List.mem_append.1 hc with h | h
        · exact hr c h
        · obtain rfl := List.mem_singleton.1 h; omega
      · rw [hp3 i (by omega) fun g n he => ?_, hLk i hi]
        rcases h8 with ⟨h8, _⟩ | ⟨i2, g2, h1, _, h8, _⟩
        · rw [h8] at he; cases he
        · rw [h8] at he
          have := AVal.own.inj he
          omega
    · have hcell := h8.cells
      have hone := h8.one
      obtain ⟨v', L', hA, hO, hL3⟩ := h6.app (t := 26) Tryd.underlying26 Tryd.cells46 Tryd.zero46 Tryd.bytes46 (by omega) hLL hLk h8
      have w7 := IntWalk.i64_in ((k : Int) + 1) (by omega)
      simp (config := { maxSteps := 1000000 }) only [go_sem, Int.reduceToNat, Int.reduceLE, Int.reduceLT, Int.reduceAdd, Int.reduceSub, Int.reduceMul, Int.reduceEq, Int.reduceNe, Nat.reduceEqDiff, Nat.reducePow, Nat.reduceDiv, Nat.reduceMod, Nat.reduceAdd, Nat.reduceMul, Nat.reduceSub, Nat.reduceLT, Nat.reduceLeDiff, reduceIte, reduceCtorEq, h7, h9, hb, hb2, h5', hcell, hone, hA, w7]
      refine ⟨by omega, ⟨k + 1, L', rows ++ [r], rfl, by simp, by omega, hO, by simp [hrl], ?_, ?_, ?_, ?_⟩, by omega⟩
      · rw [total2_app]; simp [lin]; omega
      · rw [total2_app]; omega
      · rw [total2_app]; omega
      · intro q hq
        rcases List.mem_append.1 hq with h | h
        · exact hrows q h
        · obtain rfl := List.mem_singleton.1 h; exact ⟨by omega, hr⟩
  · obtain ⟨r0, rs, hrs⟩ : ∃ r0 rs, rows = r0 :: rs := by
      cases rows with
      | nil => simp at hrl; omega
      | cons a l => exact ⟨a, l, rfl⟩
    by_cases hz : total2 rows = 0
    · have hr0 := hrows r0 (by simp [hrs])
      have hr0n : r0 ≠ [] := by rintro rfl; have := hr0.1; simp at this; omega
      obtain ⟨i, g, i0, g0, cs, a1, a2, a3, a4, a5, a6, a7⟩ := h6.set (p := 0) (q := 0) (r := r0) 1 (by rw [hrs]; rfl) (List.length_pos_iff.2 hr0n)
      have hcs : cs ≠ [] := by rintro rfl; simp at a4
      have l1 := live_extL (H := H1) a3
      have l2 := live_extL (H := H1) a6
      have hz' : (20 - total2 rows = 20) := by omega
      have hrl' : rows.length ≠ 0 := by omega
      have hr0l : r0.length ≠ 0 := by have := hr0.1; omega
      rw [a1] at h6 a7
      simp (config := { maxSteps := 1000000 }) only [go_sem, Int.reduceToNat, Int.reduceLE, Int.reduceLT, Int.reduceAdd, Int.reduceSub, Int.reduceMul, Int.reduceEq, Int.reduceNe, Nat.reduceEqDiff, Nat.reducePow, Nat.reduceDiv, Nat.reduceMod, Nat.reduceAdd, Nat.reduceMul, Nat.reduceSub, Nat.reduceLT, Nat.reduceLeDiff, reduceIte, reduceCtorEq, h7, hb, h5, hz', a1, l1, l2, a4, hcs, hr0n, appendA_U]
      refine ⟨by omega, by omega, by omega, ?_⟩
      have e0 : AVal.lit (Value.int IntKind.i64 1) :: List.drop 1 (ints r0) = ints (r0.set 0 1) := by
        cases r0 with
        | nil => exact absurd rfl hr0n
        | cons a l => simp [ints, lin]
      rw [e0, upd_ext H1 L i0 _ a5, hH1, ext_ext]
      have hsum0 : ∀ c, c ∈ r0 → c = 0 := by
        have hs : (rs.map List.sum).sum + r0.sum = 0 := by
          rw [hrs] at hz; simp only [total2, List.map_cons, List.sum_cons] at hz; omega
        have h1 : 0 ≤ r0.sum := sum_nonneg fun c hc => (hr0.2 c hc).1
        have h2 : 0 ≤ (rs.map List.sum).sum := sum_nonneg fun c hc => by
          obtain ⟨r, hr, rfl⟩ := List.mem_map.1 hc
          exact sum_nonneg fun c hc => ((hrows r (by simp [hrs, hr])).2 c hc).1
        intro c hc
        have := le_sum (fun c hc => (hr0.2 c hc).1) c hc
        have := (hr0.2 c hc).1
        omega
      have hset : rows.set 0 (r0.set 0 1) = r0.set 0 1 :: rs := by rw [hrs]; rfl
      have ht1 : total2 (r0.set 0 1 :: rs) = total2 rows + 1 := by
        cases r0 with
        | nil => exact absurd rfl hr0n
        | cons a l =>
          have := hsum0 a (by simp)
          rw [hrs]
          simp only [total2, List.set_cons_zero, List.map_cons, List.sum_cons]
          omega
      rw [hset] at a7
      refine FinV.drop G0_ok hcl ?_ (hK (r0.set 0 1 :: rs) ⟨by rw [hrs] at hrl; simp at hrl ⊢; omega, by rw [hrs] at hrl; simp at hrl ⊢; omega, fun r hr => ?_, by omega, by omega⟩)
      · rw [← ext_ext, ← hH1]
        exact a7.toV.fz fun i => by rw [hH1]; simp [ext_next]; omega
      · simp only [List.headD_cons, List.length_set]
        rcases List.mem_cons.1 hr with rfl | hr
        · refine ⟨by simp, by simp; omega, by simp; omega, fun c hc => ?_⟩
          rcases List.mem_or_eq_of_mem_set hc with h | rfl
          · exact hr0.2 c h
          · omega
        · have h1 := hrows r (by rw [hrs]; simp [hr])
          exact ⟨by omega, by omega, by omega, h1.2⟩
    · have hz' : ¬ (20 - total2 rows = 20) := by omega
      simp (config := { maxSteps := 1000000 }) only [go_sem, Int.reduceToNat, Int.reduceLE, Int.reduceLT, Int.reduceAdd, Int.reduceSub, Int.reduceMul, Int.reduceEq, Int.reduceNe, Nat.reduceEqDiff, Nat.reducePow, Nat.reduceDiv, Nat.reduceMod, Nat.reduceAdd, Nat.reduceMul, Nat.reduceSub, Nat.reduceLT, Nat.reduceLeDiff, reduceIte, reduceCtorEq, h7, hb, h5, hz', appendA_U]
      rw [hH1, ext_ext]
      have hr0 := hrows r0 (by simp [hrs])
      refine FinV.drop G0_ok hcl ?_ (hK rows ⟨by omega, by omega, fun r hr => ?_, by omega, by omega⟩)
      · rw [← ext_ext, ← hH1]
        exact h6.toV.fz fun i => by rw [hH1]; simp [ext_next]; omega
      · have h1 := hrows r hr
        refine ⟨?_, by omega, by omega, h1.2⟩
        simp only [hrs, List.headD_cons]; omega
end Go.Proofs
set_option linter.unusedSimpArgs false
namespace Go.Proofs
open Go.Hx

theorem clone_own (x : List Int) (hx : (x.length : Int) < 2 ^ 40) (H : AHeap) (K : ARes → AHeap → Prop) (hK : ∀ v L, OwnC H L 3 0 L.length v (ints x) → K (.ret v) (ext H L)) : ACall Tryd.prog G0 47 [vecI x] H K := by
  refine ACall.of_body (n := 8) (rs := [.tmp 2]) Tryd.func47 rfl rfl rfl (by decide) (by kernel_rfl) (by simp) ?_
  simp (config := { maxSteps := 1000000 }) only [go_sem, Int.reduceToNat, Int.reduceLE, Int.reduceLT, Int.reduceAdd, Int.reduceSub, Int.reduceMul, Int.reduceEq, Int.reduceNe, Nat.reduceEqDiff, Nat.reducePow, Nat.reduceDiv, Nat.reduceMod, Nat.reduceAdd, Nat.reduceMul, Nat.reduceSub, Nat.reduceLT, Nat.reduceLeDiff, reduceIte, reduceCtorEq, appendA_U]
  intro b hlen
  cases b with
  | true =>
    have hx0 : x = [] := List.eq_nil_of_length_eq_zero (by
      by_cases h : 0 < x.length
      · have := hlen (by simpa using h)
        cases this
      · omega)
    simp (config := { maxSteps := 1000000 }) only [go_sem, Int.reduceToNat, Int.reduceLE, Int.reduceLT, Int.reduceAdd, Int.reduceSub, Int.reduceMul, Int.reduceEq, Int.reduceNe, Nat.reduceEqDiff, Nat.reducePow, Nat.reduceDiv, Nat.reduceMod, Nat.reduceAdd, Nat.reduceMul, Nat.reduceSub, Nat.reduceLT, Nat.reduceLeDiff, reduceIte, reduceCtorEq, appendA_U]
    subst hx0
    exact FinV.mk (Nat.le_refl _) (ext_nil H ▸ hK _ [] .nil)
  | false =>
    by_cases h0 : x.length = 0
    · have hx0 : x = [] := List.eq_nil_of_length_eq_zero h0
      subst hx0
      simp (config := { maxSteps := 1000000 }) only [go_sem, Int.reduceToNat, Int.reduceLE, Int.reduceLT, Int.reduceAdd, Int.reduceSub, Int.reduceMul, Int.reduceEq, Int.reduceNe, Nat.reduceEqDiff, Nat.reducePow, Nat.reduceDiv, Nat.reduceMod, Nat.reduceAdd, Nat.reduceMul, Nat.reduceSub, Nat.reduceLT, Nat.reduceLeDiff, reduceIte, reduceCtorEq, appendA_U]
      refine ⟨⟨rfl, rfl⟩, FinV.mk (by simp [ext_next]) ?_⟩
      exact hK _ [.arr 0 3 []] (.inr ⟨0, 0, by simp, by simp, rfl, rfl⟩)
    · simp (config := { maxSteps := 1000000 }) only [go_sem, Int.reduceToNat, Int.reduceLE, Int.reduceLT, Int.reduceAdd, Int.reduceSub, Int.reduceMul, Int.reduceEq, Int.reduceNe, Nat.reduceEqDiff, Nat.reducePow, Nat.reduceDiv, Nat.reduceMod, Nat.reduceAdd, Nat.reduceMul, Nat.reduceSub, Nat.reduceLT, Nat.reduceLeDiff, reduceIte, reduceCtorEq, h0, appendA_U]
      refine ⟨⟨rfl, by omega, by omega, all_one_ints x⟩, FinV.mk (by simp [ext_next]) ?_⟩
      exact hK _ _ (.inr ⟨0, _, by simp, by simp, by rw [ints_length]; rfl, rfl⟩)

def few (t : List (List Int)) : List (List Int) := (t.take 4).map fun r => r.take 4
theorem few_spec (t : List (List Int)) (H : AHeap) (K : ARes → AHeap → Prop) (hK : ∀ v L, OwnVD H L v (few t) → K (.ret v) (ext H L)) : ACall Tryd.prog G0 21 [vecV t] H K := by
  refine ACall.clo ⟨_, Tryd.func21, rfl, rfl⟩ fun hcl => ?_
  obtain ⟨n, hn⟩ : ∃ n : Nat, n = min t.length 4 := ⟨_, rfl⟩
  have hmin : (if (4 : Int) < t.length then (4 : Int) else t.length) = n := by split <;> omega
  have hfl : (few t).length = n := by simp [few]; omega
  refine ACall.of_body (n := 27) (rs := [.tmp 2]) Tryd.func21 rfl rfl rfl (by decide) (by kernel_rfl) (by simp) ?_
  simp (config := { maxSteps := 1000000 }) only [go_sem, Int.reduceToNat, Int.reduceLE, Int.reduceLT, Int.reduceAdd, Int.reduceSub, Int.reduceMul, Int.reduceEq, Int.reduceNe, Nat.reduceEqDiff, Nat.reducePow, Nat.reduceDiv, Nat.reduceMod, Nat.reduceAdd, Nat.reduceMul, Nat.reduceSub, Nat.reduceLT, Nat.reduceLeDiff, reduceIte, reduceCtorEq, vecV, hmin, appendA_U]
  refine ⟨by simp, by omega, ?_⟩
  refine W.loop0 67104808 (by rfl) (fun ρ H' => ∃ (k : Nat) (L : List Blk), H' = ext H L ∧ ρ 12 = lin k ∧ k ≤ n ∧ OwnVD H L (ρ 3) ((few t).take k)) (fun ρ H => n - (iv (ρ 12)).toNat) ?_ ?_
  · simp (config := { maxSteps := 1000000 }) only [go_sem, Int.reduceToNat, Int.reduceLE, Int.reduceLT, Int.reduceAdd, Int.reduceSub, Int.reduceMul, Int.reduceEq, Int.reduceNe, Nat.reduceEqDiff, Nat.reducePow, Nat.reduceDiv, Nat.reduceMod, Nat.reduceAdd, Nat.reduceMul, Nat.reduceSub, Nat.reduceLT, Nat.reduceLeDiff, reduceIte, reduceCtorEq, appendA_U]
    exact ⟨0, [], (ext_nil _).symm, rfl, by omega, .nil⟩
  rintro ρ H' ⟨k, L, rfl, h12, hk, h3⟩
  refine vc_sound _ _ _ (by rfl) ?_
  by_cases hb : (k : Int) < n
  · obtain ⟨r, hrk⟩ : ∃ r, t[k]? = some r := ⟨_, List.getElem?_eq_getElem (by omega)⟩
    obtain ⟨m, hm⟩ : ∃ m : Nat, m = min r.length 4 := ⟨_, rfl⟩
    have hmin2 : (if (4 : Int) < r.length then (4 : Int) else r.length) = m := by split <;> omega
    have htk : (List.take n (List.map vecI t))[k]? = some (vecI r) := by
      rw [List.getElem?_take_of_lt (by omega), List.getElem?_map, hrk]; rfl
    have htn : ¬ List.take n (List.map vecI t) = [] := by intro h0; rw [h0] at htk; cases htk
    simp (config := { maxSteps := 1000000 }) only [go_sem, Int.reduceToNat, Int.reduceLE, Int.reduceLT, Int.reduceAdd, Int.reduceSub, Int.reduceMul, Int.reduceEq, Int.reduceNe, Nat.reduceEqDiff, Nat.reducePow, Nat.reduceDiv, Nat.reduceMod, Nat.reduceAdd, Nat.reduceMul, Nat.reduceSub, Nat.reduceLT, Nat.reduceLeDiff, reduceIte, reduceCtorEq, h12, hb, htk, htn, hmin2, ints_take, appendA_U]
    repeat (refine And.intro (by first | omega | (simp; done) | (simp; omega) | (intros; omega) | exact ⟨rfl, by omega, by omega, all_one_ints _⟩) ?_)
    have hv : AVal.vec m (ints (r.take m)) = vecI (r.take m) := by
      simp only [vecI, List.length_take]; congr 1; omega
    rw [hv]
    refine AApply.clo (clone_own (r.take m) (by simp; omega) _ _ fun v L' hv => ⟨trivial, ?_⟩)
    have hv2 := hv.shift
    have hcell := hv2.cells
    have hone := hv2.one
    obtain ⟨LL, hLL⟩ : ∃ LL, LL = L ++ L' := ⟨_, rfl⟩
    obtain ⟨v', L3, hA, hO, hL3⟩ := h3.app (L := LL) (t := 26) Tryd.underlying26 Tryd.cells46 Tryd.zero46 Tryd.bytes46 (by simp; omega) (by simp [hLL]) (fun i hi => by rw [hLL]; exact List.getElem?_append_left hi) (by rw [hLL]; exact hv2.keep (Nat.le_refl _) (by simp) fun _ _ _ _ _ => rfl)
    rw [ext_ext, ← hLL]
    have w7 := IntWalk.i64_in ((k : Int) + 1) (by omega)
    simp (config := { maxSteps := 1000000 }) only [go_sem, Int.reduceToNat, Int.reduceLE, Int.reduceLT, Int.reduceAdd, Int.reduceSub, Int.reduceMul, Int.reduceEq, Int.reduceNe, Nat.reduceEqDiff, Nat.reducePow, Nat.reduceDiv, Nat.reduceMod, Nat.reduceAdd, Nat.reduceMul, Nat.reduceSub, Nat.reduceLT, Nat.reduceLeDiff, reduceIte, reduceCtorEq, h12, hb, hcell, hone, hA, w7, ext_ext]
    have e : (few t).take (k + 1) = (few t).take k ++ [r.take m] := by
      rw [take_succ_of]
      unfold few
      rw [List.getElem?_map, List.getElem?_take_of_lt (by omega), hrk]
      simp only [Option.map_some, Option.some.injEq]
      exact List.take_eq_take_iff.2 (by omega)
    exact ⟨by omega, ⟨k + 1, L3, rfl, by simp, by omega, e ▸ hO⟩, by omega⟩
  · simp (config := { maxSteps := 1000000 }) only [go_sem, Int.reduceToNat, Int.reduceLE, Int.reduceLT, Int.reduceAdd, Int.reduceSub, Int.reduceMul, Int.reduceEq, Int.reduceNe, Nat.reduceEqDiff, Nat.reducePow, Nat.reduceDiv, Nat.reduceMod, Nat.reduceAdd, Nat.reduceMul, Nat.reduceSub, Nat.reduceLT, Nat.reduceLeDiff, reduceIte, reduceCtorEq, h12, hb, appendA_U]
    have hke : (few t).take k = few t := List.take_of_length_le (by omega)
    rw [hke] at h3
    exact FinV.mk (by simp [ext_next]) (hK _ _ h3)
end Go.Proofs
set_option linter.unusedSimpArgs false
namespace Go.Proofs
open Go.Hx

theorem OwnVD.open {H : AHeap} {L : List Blk} {v : AVal} {rows : List (List Int)} (h : OwnVD H L v rows) (hne : rows ≠ []) :
    ∃ (i g : Nat) (cs : List AVal), v = .own (H.next + i) g 0 rows.length 1 ∧ i < L.length ∧ L[i]? = some (.arr g 46 cs) ∧ cs ≠ [] ∧
      ∀ (j : Nat) (r : List Int), rows[j]? = some r → r ≠ [] → ∃ i0 g0, cs[j]? = some (.own (H.next + i0) g0 0 r.length 1) ∧ i0 < L.length ∧ L[i0]? = some (.arr g0 3 (ints r)) ∧
        ∀ q n, q < r.length → OwnVD H (L.set i0 (.arr g0 3 (ints (r.set q n)))) v (rows.set j (r.set q n)) := by
  obtain ⟨r, hr⟩ : ∃ r, rows[0]? = some r := ⟨_, List.getElem?_eq_getElem (List.length_pos_iff.2 hne)⟩
  have h' := h
  obtain ⟨cs, h1, h2, h3, h4⟩ := h'
  rcases h1 with ⟨_, e⟩ | ⟨i, g, _, b2, b3, b4⟩
  · exfalso; rw [e] at h2; exact hne (List.eq_nil_of_length_eq_zero h2.symm)
  have hcn : cs ≠ [] := by rintro rfl; exact hne (List.eq_nil_of_length_eq_zero h2.symm)
  refine ⟨i, g, cs, by rw [b3, h2], b2, b4, hcn, fun j r hr hrn => ?_⟩
  obtain ⟨i', g', i0, g0, cs', c1, c2, c3, c4, c5, c6, _⟩ := h.set (q := 0) 0 hr (List.length_pos_iff.2 hrn)
  have e := AVal.own.inj (b3.symm.trans c1)
  obtain rfl : i = i' := by omega
  obtain rfl : g = g' := e.2.1
  rw [b4] at c3; cases c3
  refine ⟨i0, g0, c4, c5, c6, fun q n hq => ?_⟩
  obtain ⟨i2, g2, i3, g3, cs2, d1, d2, d3, d4, d5, d6, d7⟩ := h.set (q := q) n hr hq
  have e := AVal.own.inj (b3.symm.trans d1)
  obtain rfl : i = i2 := by omega
  obtain rfl : g = g2 := e.2.1
  rw [b4] at d3; cases d3
  rw [c4] at d4
  have e := AVal.own.inj (Option.some.inj d4)
  obtain rfl : i0 = i3 := by omega
  obtain rfl : g0 = g3 := e.2.1
  exact d7

theorem ne_of_len {α : Type} {r : List α} (h : 2 ≤ r.length) : r ≠ [] := by rintro rfl; simp at h
theorem few_ok {t : List (List Int)} (h : TableOk t) : few t = t := by
  unfold few
  rw [List.take_of_length_le (by have := h.2.1; omega)]
  conv => rhs; rw [← List.map_id t]
  refine List.map_congr_left fun r hr => ?_
  have := (h.2.2.1 r hr).2.2.1
  simp only [id]
  exact List.take_of_length_le (by omega)
set_option maxHeartbeats 2000000 in
theorem counts_spec (hi wi mo : Int) (ns : List Int) (hn : ns.length = 9) (hh : 0 ≤ hi ∧ hi ≤ 255) (hw : 0 ≤ wi ∧ wi ≤ 255) (hm : 0 ≤ mo ∧ mo ≤ 255) (hns : ∀ c, c ∈ ns → 0 ≤ c ∧ c ≤ 255) (at' n : Int) (ha : 0 ≤ at' ∧ at' ≤ 255) (raw : List (List Int)) (H : AHeap) (K : ARes → AHeap → Prop)
    (hK : K (.ret (.lit (.bool true))) H) : ACall Tryd.prog G0 5 [.agg (u8L (hi :: wi :: (ns ++ [mo]))), .lit (.int .u8 at'), .lit (.int .i64 n), vecV raw] H K := by
  refine ACall.argsBelow ⟨_, Tryd.func5, rfl, rfl⟩ fun hcl hbel => ?_
  obtain ⟨D, hD⟩ : ∃ D, D = u8L (hi :: wi :: (ns ++ [mo])) := ⟨_, rfl⟩
  have dl : D.length = 12 := by rw [hD]; simp [u8L, hn]
  refine ACall.of_body (n := 146) (rs := [.tmp 8]) Tryd.func5 rfl rfl rfl (by decide) (by kernel_rfl) (by simp) ?_
  have dt : D.take 12 = D := List.take_of_length_le (by omega)
  have hT : ∀ H K, (∀ t, TableOk t → K (.ret (vecV t)) H) → ACall Tryd.prog G0 11 [.agg D] H K := fun H K h => by rw [hD]; exact Table_spec hi wi mo ns hn hh hw hm hns H K h
  rw [← hD] at hbel ⊢
  simp (config := { maxSteps := 1000000 }) only [go_sem, Int.reduceToNat, Int.reduceLE, Int.reduceLT, Int.reduceAdd, Int.reduceSub, Int.reduceMul, Int.reduceEq, Int.reduceNe, Nat.reduceEqDiff, Nat.reducePow, Nat.reduceDiv, Nat.reduceMod, Nat.reduceAdd, Nat.reduceMul, Nat.reduceSub, Nat.reduceLT, Nat.reduceLeDiff, reduceIte, reduceCtorEq, dt, appendA_U]
  obtain ⟨H1, hH1⟩ : ∃ H1, H1 = ext H [.arr 0 24 D] := ⟨_, rfl⟩
  rw [← hH1]
  repeat (refine And.intro (by first | omega | (simp; done) | (simp; omega) | (intros; omega) | exact ⟨rfl, by omega, by omega, all_one_ints _⟩) ?_)
  refine AApply.clo (hT _ _ fun t ht => ⟨trivial, ?_⟩)
  simp (config := { maxSteps := 1000000 }) only [go_sem, Int.reduceToNat, Int.reduceLE, Int.reduceLT, Int.reduceAdd, Int.reduceSub, Int.reduceMul, Int.reduceEq, Int.reduceNe, Nat.reduceEqDiff, Nat.reducePow, Nat.reduceDiv, Nat.reduceMod, Nat.reduceAdd, Nat.reduceMul, Nat.reduceSub, Nat.reduceLT, Nat.reduceLeDiff, reduceIte, reduceCtorEq, appendA_U]
  refine AApply.clo (few_spec t _ _ fun v L hv => ⟨trivial, ?_⟩)
  rw [few_ok ht] at hv
  simp (config := { maxSteps := 1000000 }) only [go_sem, Int.reduceToNat, Int.reduceLE, Int.reduceLT, Int.reduceAdd, Int.reduceSub, Int.reduceMul, Int.reduceEq, Int.reduceNe, Nat.reduceEqDiff, Nat.reducePow, Nat.reduceDiv, Nat.reduceMod, Nat.reduceAdd, Nat.reduceMul, Nat.reduceSub, Nat.reduceLT, Nat.reduceLeDiff, reduceIte, reduceCtorEq, appendA_U]
  refine W.draw 17 [0, 0, 2, 0, 8, 30, 63, 127, 0, 256, 768, 0, 2048, 6144, 14336, 32512, 0] Tryd.mixed (by kernel_rfl) (by kernel_rfl) ?_
  obtain ⟨i, g, cs, rfl, v2, v3, v4, v5⟩ := hv.open (by rintro rfl; exact absurd ht.1 (by simp))
  have q1 := ht.1
  have q2 := ht.2.1
  obtain ⟨r0, hr0⟩ : ∃ r, t[0]? = some r := ⟨_, List.getElem?_eq_getElem (by omega)⟩
  have k0 := (ht.2.2.1 r0 (List.mem_of_getElem? hr0))
  have hr0d : t.headD [] = r0 := by
    cases t with
    | nil => simp at q1
    | cons a t => simpa using hr0
  rw [hr0d] at k0
  obtain ⟨p, hp⟩ : ∃ p : Nat, (p : Int) = at'.tmod t.length := ⟨(at'.tmod t.length).toNat, Int.toNat_of_nonneg (Int.tmod_nonneg _ ha.1)⟩
  have hpl : (p : Int) < t.length := by rw [hp]; exact Int.tmod_lt_of_pos _ (by omega)
  obtain ⟨r, hr⟩ : ∃ r, t[p]? = some r := ⟨_, List.getElem?_eq_getElem (by omega)⟩
  have k1 := (ht.2.2.1 r (List.mem_of_getElem? hr))
  rw [hr0d] at k1
  have a4 : 0 ≤ at'.tdiv 4 ∧ at'.tdiv 4 ≤ 255 := by rw [Int.tdiv_eq_ediv_of_nonneg ha.1]; omega
  obtain ⟨q, hq⟩ : ∃ q : Nat, (q : Int) = (at'.tdiv 4).tmod r0.length := ⟨((at'.tdiv 4).tmod r0.length).toNat, Int.toNat_of_nonneg (Int.tmod_nonneg _ a4.1)⟩
  have hql : (q : Int) < r0.length := by rw [hq]; exact Int.tmod_lt_of_pos _ (by have := k0.2.1; omega)
  have hql2 : (q : Int) < r.length := by have := k1.1; omega
  obtain ⟨i0, g0, b1, b2, b3, _⟩ := v5 0 r0 hr0 (ne_of_len k0.2.1)
  obtain ⟨i1, g1, c1, c2, c3, c4⟩ := v5 p r hr (ne_of_len k1.2.1)
  have hv1 := c4 q n (by omega)
  have l0 := live_extL (H := H1) v3
  have l1 := live_extL (H := H1) b3
  have l2 := live_extL (H := H1) c3
  have w1 := IntWalk.i64_in at' (by omega)
  have w2 := IntWalk.u8_in (at'.tdiv 4) (by omega)
  have w3 := IntWalk.i64_in (at'.tdiv 4) (by omega)
  have z1 : ¬ (t.length : Int) = 0 := by omega
  have z2 : ¬ (r0.length : Int) = 0 := by omega
  have z3 : (0 : Int) < t.length := by omega
  have z4 : 0 < (r0.length : Int) := by omega
  have z5 : ¬ r = [] := ne_of_len k1.2.1
  simp (config := { maxSteps := 1000000 }) only [go_sem, Int.reduceToNat, Int.reduceLE, Int.reduceLT, Int.reduceAdd, Int.reduceSub, Int.reduceMul, Int.reduceEq, Int.reduceNe, Nat.reduceEqDiff, Nat.reducePow, Nat.reduceDiv, Nat.reduceMod, Nat.reduceAdd, Nat.reduceMul, Nat.reduceSub, Nat.reduceLT, Nat.reduceLeDiff, reduceIte, reduceCtorEq, w1, w2, w3, l0, l1, l2, b1, c1, v4, z1, z2, z3, z4, ← hp, ← hq, hpl, hql2, z5, appendA_U]
  repeat (refine And.intro (by first | omega | (simp; done) | (simp; omega) | (intros; omega) | exact ⟨rfl, by omega, by omega, all_one_ints _⟩) ?_)
  rw [setAt_ints _ (by omega), upd_ext H1 L i1 _ c2]
  obtain ⟨L1, hL1⟩ : ∃ L1, L1 = L.set i1 (.arr g1 3 (ints (r.set q n))) := ⟨_, rfl⟩
  rw [← hL1] at hv1 ⊢
  refine AApply.clo (few_spec raw _ _ fun vr L2 hvr => ⟨trivial, ?_⟩)
  have m1 := hvr.toV
  obtain ⟨crs, hcr, _⟩ := hvr
  have hcell := hcr.cellsE
  have hone := hcr.oneE
  simp (config := { maxSteps := 1000000 }) only [go_sem, Int.reduceToNat, Int.reduceLE, Int.reduceLT, Int.reduceAdd, Int.reduceSub, Int.reduceMul, Int.reduceEq, Int.reduceNe, Nat.reduceEqDiff, Nat.reducePow, Nat.reduceDiv, Nat.reduceMod, Nat.reduceAdd, Nat.reduceMul, Nat.reduceSub, Nat.reduceLT, Nat.reduceLeDiff, reduceIte, reduceCtorEq, hcell, hone, vecV_cells, vecV_one, appendA_U]
  obtain ⟨Z, hZ⟩ : ∃ Z, Z = ext (ext H1 L1) L2 := ⟨_, rfl⟩
  have n1 : H1.next = H.next + 1 := by rw [hH1]; rfl
  have n2 : L1.length = L.length := by rw [hL1]; simp
  have nz : Z.next = H.next + 1 + L.length + L2.length := by rw [hZ]; simp [ext_next, n1, n2]
  have hov : Over H Z := by rw [hZ, hH1]; exact ((Over.ext _ _).trans (Over.ext _ _)).trans (Over.ext _ _)
  have hagg : Fz (fun id => H.next ≤ id) Z Z.next (.agg [vecV t, .own (H1.next + i) g 0 t.length 1, vr]) (.agg [vecV t, vecV (t.set p (r.set q n)), vecV (few raw)]) := by
    refine .agg rfl fun j hj _ => ?_
    match j, hj with
    | 0, _ => exact .vecV _
    | 1, _ =>
      have h1 := (hv1.toV).fz (S := fun id => H.next ≤ id) (nx := Z.next) fun i => by simp only [n1]; omega
      rw [hZ, ext_ext]
      refine OwnV.fz (L := L1 ++ L2) ?_ fun i => by simp only [n1]; omega
      obtain ⟨cs, c1, c2, c3⟩ := hv1.toV
      refine ⟨cs, c1.keep (Nat.le_refl _) (by simp) fun i _ _ hi _ => List.getElem?_append_left hi, c2, fun j r c hr hc => (c3 j r c hr hc).keep (Nat.le_refl _) (by simp) fun i _ _ hi _ => List.getElem?_append_left hi⟩
    | 2, _ =>
      rw [hZ]
      exact m1.fz fun i => by simp only [ext_next, n1]; omega
  have hvr : Fz (fun id => H.next ≤ id) Z Z.next vr (vecV (few raw)) := by
    rw [hZ]
    exact m1.fz fun i => by simp only [ext_next, n1]; omega
  have hDz : Fz (fun id => H.next ≤ id) Z Z.next (.agg D) (.agg D) := .old (hbel _ (by simp)) (by omega)
  rw [← hZ]
  apply W.letGo (H := H) G0_ok hcl hov
  · repeat first | exact Fz.envOld hbel (by omega) | (apply Fz.put'; · first | exact .lit _ | assumption | exact .vecV _ | exact .keepInts _ | exact .deadOwn (by omega) (by show H.next ≤ _; omega) | exact .deadPtr (by omega) (by show H.next ≤ _; omega))
  · trivial
  obtain ⟨Hg, hHg⟩ : ∃ Hg, Hg = gap H (Z.next - H.next) := ⟨_, rfl⟩
  rw [← hHg]
  have hog : Over H Hg := by rw [hHg]; exact .gap _ _
  refine W.loop0 44601490397061246283071436545015248037343488 (by rfl) (fun ρ H' => H' = Hg ∧ ∃ k : Nat, ρ 48 = lin k ∧ k ≤ 3) (fun ρ H => 3 - (iv (ρ 48)).toNat) ?_ ?_
  · simp (config := { maxSteps := 1000000 }) only [go_sem, Int.reduceToNat, Int.reduceLE, Int.reduceLT, Int.reduceAdd, Int.reduceSub, Int.reduceMul, Int.reduceEq, Int.reduceNe, Nat.reduceEqDiff, Nat.reducePow, Nat.reduceDiv, Nat.reduceMod, Nat.reduceAdd, Nat.reduceMul, Nat.reduceSub, Nat.reduceLT, Nat.reduceLeDiff, reduceIte, reduceCtorEq, appendA_U]
    exact ⟨0, rfl, by omega⟩
  rintro ρ H' ⟨rfl, k, h48, hk⟩
  refine vc_sound _ _ _ (by rfl) ?_
  by_cases hb : (k : Int) < 3
  · obtain ⟨X, hX, hX1, hX2⟩ : ∃ X, ([vecV t, vecV (t.set p (r.set q n)), vecV (few raw)])[k]? = some (vecV X) ∧ X.length ≤ 4 ∧ ∀ r, r ∈ X → r.length ≤ 4 := by
      have few_le : ∀ t r, r ∈ few t → r.length ≤ 4 := fun t r hr => by
        obtain ⟨r', _, rfl⟩ := List.mem_map.1 hr
        simp only [List.length_take]; omega
      have few_len : ∀ t, (few t).length ≤ 4 := fun t => by simp only [few, List.length_map, List.length_take]; omega
      have ht4 : ∀ r, r ∈ t → r.length ≤ 4 := fun r hr => by have := (ht.2.2.1 r hr).2.2.1; omega
      match k, hb with
      | 0, _ => exact ⟨t, rfl, by omega, ht4⟩
      | 1, _ => exact ⟨_, rfl, by simp; omega, fun r' hr' => by
          rcases List.mem_or_eq_of_mem_set hr' with h | rfl
          · exact ht4 _ h
          · have := k1.2.2.1; simp; omega⟩
      | 2, _ => exact ⟨_, rfl, few_len _, few_le _⟩
    have w4 := IntWalk.i64_in ((k : Int) + 1) (by omega)
    have x1 : (X.length : Int) < 2 ^ 40 := by omega
    have x2 : ∀ r, r ∈ X → (r.length : Int) < 2 ^ 40 := fun r hr => by have := hX2 r hr; omega
    simp (config := { maxSteps := 1000000 }) only [go_sem, Int.reduceToNat, Int.reduceLE, Int.reduceLT, Int.reduceAdd, Int.reduceSub, Int.reduceMul, Int.reduceEq, Int.reduceNe, Nat.reduceEqDiff, Nat.reducePow, Nat.reduceDiv, Nat.reduceMod, Nat.reduceAdd, Nat.reduceMul, Nat.reduceSub, Nat.reduceLT, Nat.reduceLeDiff, reduceIte, reduceCtorEq, h48, hb, hX, appendA_U]
    repeat (refine And.intro (by first | omega | (simp; done) | (simp; omega) | (intros; omega) | exact ⟨rfl, by omega, by omega, all_one_ints _⟩) ?_)
    refine AApply.clo (check_spec X x1 x2 _ _ ⟨trivial, ?_⟩)
    simp (config := { maxSteps := 1000000 }) only [go_sem, Int.reduceToNat, Int.reduceLE, Int.reduceLT, Int.reduceAdd, Int.reduceSub, Int.reduceMul, Int.reduceEq, Int.reduceNe, Nat.reduceEqDiff, Nat.reducePow, Nat.reduceDiv, Nat.reduceMod, Nat.reduceAdd, Nat.reduceMul, Nat.reduceSub, Nat.reduceLT, Nat.reduceLeDiff, reduceIte, reduceCtorEq, appendA_U]
    refine AApply.clo (Margins_spec X x1 x2 _ _ ⟨trivial, ?_⟩)
    by_cases hok : TableOk X
    · rw [if_pos hok, if_pos hok]
      simp (config := { maxSteps := 1000000 }) only [go_sem, Int.reduceToNat, Int.reduceLE, Int.reduceLT, Int.reduceAdd, Int.reduceSub, Int.reduceMul, Int.reduceEq, Int.reduceNe, Nat.reduceEqDiff, Nat.reducePow, Nat.reduceDiv, Nat.reduceMod, Nat.reduceAdd, Nat.reduceMul, Nat.reduceSub, Nat.reduceLT, Nat.reduceLeDiff, reduceIte, reduceCtorEq, appendA_U]
      refine AApply.clo (Ways_spec X x1 x2 _ _ ⟨trivial, ?_⟩)
      rw [if_pos hok]
      simp (config := { maxSteps := 1000000 }) only [go_sem, Int.reduceToNat, Int.reduceLE, Int.reduceLT, Int.reduceAdd, Int.reduceSub, Int.reduceMul, Int.reduceEq, Int.reduceNe, Nat.reduceEqDiff, Nat.reducePow, Nat.reduceDiv, Nat.reduceMod, Nat.reduceAdd, Nat.reduceMul, Nat.reduceSub, Nat.reduceLT, Nat.reduceLeDiff, reduceIte, reduceCtorEq, appendA_U]
      refine AApply.clo (Total_spec X x1 x2 _ _ ⟨trivial, ?_⟩)
      rw [if_pos hok]
      simp (config := { maxSteps := 1000000 }) only [go_sem, Int.reduceToNat, Int.reduceLE, Int.reduceLT, Int.reduceAdd, Int.reduceSub, Int.reduceMul, Int.reduceEq, Int.reduceNe, Nat.reduceEqDiff, Nat.reducePow, Nat.reduceDiv, Nat.reduceMod, Nat.reduceAdd, Nat.reduceMul, Nat.reduceSub, Nat.reduceLT, Nat.reduceLeDiff, reduceIte, reduceCtorEq, appendA_U]
      refine AApply.clo (Right_spec X x1 x2 _ _ ⟨trivial, ?_⟩)
      rw [decide_eq_true hok]
      simp (config := { maxSteps := 1000000 }) only [go_sem, Int.reduceToNat, Int.reduceLE, Int.reduceLT, Int.reduceAdd, Int.reduceSub, Int.reduceMul, Int.reduceEq, Int.reduceNe, Nat.reduceEqDiff, Nat.reducePow, Nat.reduceDiv, Nat.reduceMod, Nat.reduceAdd, Nat.reduceMul, Nat.reduceSub, Nat.reduceLT, Nat.reduceLeDiff, reduceIte, reduceCtorEq, w4, appendA_U]
      have hs : SmallT X := ⟨hX1, fun r hr => ⟨hX2 r hr, fun c hc => (rows_ok hok r hr).2.2.2 c hc⟩⟩
      have hr1 := rows_le hok
      have hc1 := cols_ok hok
      refine AApply.clo (Rows_spec X hs _ _ ⟨trivial, ?_⟩)
      simp (config := { maxSteps := 1000000 }) only [go_sem, Int.reduceToNat, Int.reduceLE, Int.reduceLT, Int.reduceAdd, Int.reduceSub, Int.reduceMul, Int.reduceEq, Int.reduceNe, Nat.reduceEqDiff, Nat.reducePow, Nat.reduceDiv, Nat.reduceMod, Nat.reduceAdd, Nat.reduceMul, Nat.reduceSub, Nat.reduceLT, Nat.reduceLeDiff, reduceIte, reduceCtorEq, appendA_U]
      refine AApply.clo (eq_spec _ _ (by have := hr1.1; omega) _ _ ⟨trivial, ?_⟩)
      simp (config := { maxSteps := 1000000 }) only [go_sem, Int.reduceToNat, Int.reduceLE, Int.reduceLT, Int.reduceAdd, Int.reduceSub, Int.reduceMul, Int.reduceEq, Int.reduceNe, Nat.reduceEqDiff, Nat.reducePow, Nat.reduceDiv, Nat.reduceMod, Nat.reduceAdd, Nat.reduceMul, Nat.reduceSub, Nat.reduceLT, Nat.reduceLeDiff, reduceIte, reduceCtorEq, appendA_U]
      refine AApply.clo (Columns_spec X hok _ _ ⟨trivial, ?_⟩)
      simp (config := { maxSteps := 1000000 }) only [go_sem, Int.reduceToNat, Int.reduceLE, Int.reduceLT, Int.reduceAdd, Int.reduceSub, Int.reduceMul, Int.reduceEq, Int.reduceNe, Nat.reduceEqDiff, Nat.reducePow, Nat.reduceDiv, Nat.reduceMod, Nat.reduceAdd, Nat.reduceMul, Nat.reduceSub, Nat.reduceLT, Nat.reduceLeDiff, reduceIte, reduceCtorEq, appendA_U]
      refine AApply.clo (eq_spec _ _ (by have := hc1.2.1; omega) _ _ ⟨trivial, ?_⟩)
      simp (config := { maxSteps := 1000000 }) only [go_sem, Int.reduceToNat, Int.reduceLE, Int.reduceLT, Int.reduceAdd, Int.reduceSub, Int.reduceMul, Int.reduceEq, Int.reduceNe, Nat.reduceEqDiff, Nat.reducePow, Nat.reduceDiv, Nat.reduceMod, Nat.reduceAdd, Nat.reduceMul, Nat.reduceSub, Nat.reduceLT, Nat.reduceLeDiff, reduceIte, reduceCtorEq, appendA_U]
      refine AApply.clo (refWays_spec X hok _ _ ⟨trivial, ?_⟩)
      simp (config := { maxSteps := 1000000 }) only [go_sem, Int.reduceToNat, Int.reduceLE, Int.reduceLT, Int.reduceAdd, Int.reduceSub, Int.reduceMul, Int.reduceEq, Int.reduceNe, Nat.reduceEqDiff, Nat.reducePow, Nat.reduceDiv, Nat.reduceMod, Nat.reduceAdd, Nat.reduceMul, Nat.reduceSub, Nat.reduceLT, Nat.reduceLeDiff, reduceIte, reduceCtorEq, appendA_U]
      refine AApply.clo (refTotal_spec X hok _ _ ⟨trivial, ?_⟩)
      simp (config := { maxSteps := 1000000 }) only [go_sem, Int.reduceToNat, Int.reduceLE, Int.reduceLT, Int.reduceAdd, Int.reduceSub, Int.reduceMul, Int.reduceEq, Int.reduceNe, Nat.reduceEqDiff, Nat.reducePow, Nat.reduceDiv, Nat.reduceMod, Nat.reduceAdd, Nat.reduceMul, Nat.reduceSub, Nat.reduceLT, Nat.reduceLeDiff, reduceIte, reduceCtorEq, w4, h48, appendA_U]
      exact ⟨⟨k + 1, by simp, by omega⟩, by omega⟩
    · rw [if_neg hok, if_neg hok]
      simp (config := { maxSteps := 1000000 }) only [go_sem, Int.reduceToNat, Int.reduceLE, Int.reduceLT, Int.reduceAdd, Int.reduceSub, Int.reduceMul, Int.reduceEq, Int.reduceNe, Nat.reduceEqDiff, Nat.reducePow, Nat.reduceDiv, Nat.reduceMod, Nat.reduceAdd, Nat.reduceMul, Nat.reduceSub, Nat.reduceLT, Nat.reduceLeDiff, reduceIte, reduceCtorEq, appendA_U]
      refine AApply.clo (Ways_spec X x1 x2 _ _ ⟨trivial, ?_⟩)
      rw [if_neg hok]
      simp (config := { maxSteps := 1000000 }) only [go_sem, Int.reduceToNat, Int.reduceLE, Int.reduceLT, Int.reduceAdd, Int.reduceSub, Int.reduceMul, Int.reduceEq, Int.reduceNe, Nat.reduceEqDiff, Nat.reducePow, Nat.reduceDiv, Nat.reduceMod, Nat.reduceAdd, Nat.reduceMul, Nat.reduceSub, Nat.reduceLT, Nat.reduceLeDiff, reduceIte, reduceCtorEq, appendA_U]
      refine AApply.clo (Total_spec X x1 x2 _ _ ⟨trivial, ?_⟩)
      rw [if_neg hok]
      simp (config := { maxSteps := 1000000 }) only [go_sem, Int.reduceToNat, Int.reduceLE, Int.reduceLT, Int.reduceAdd, Int.reduceSub, Int.reduceMul, Int.reduceEq, Int.reduceNe, Nat.reduceEqDiff, Nat.reducePow, Nat.reduceDiv, Nat.reduceMod, Nat.reduceAdd, Nat.reduceMul, Nat.reduceSub, Nat.reduceLT, Nat.reduceLeDiff, reduceIte, reduceCtorEq, appendA_U]
      refine AApply.clo (Right_spec X x1 x2 _ _ ⟨trivial, ?_⟩)
      rw [decide_eq_false hok]
      simp (config := { maxSteps := 1000000 }) only [go_sem, Int.reduceToNat, Int.reduceLE, Int.reduceLT, Int.reduceAdd, Int.reduceSub, Int.reduceMul, Int.reduceEq, Int.reduceNe, Nat.reduceEqDiff, Nat.reducePow, Nat.reduceDiv, Nat.reduceMod, Nat.reduceAdd, Nat.reduceMul, Nat.reduceSub, Nat.reduceLT, Nat.reduceLeDiff, reduceIte, reduceCtorEq, w4, h48, appendA_U]
      exact ⟨⟨k + 1, by simp, by omega⟩, by omega⟩
  · simp (config := { maxSteps := 1000000 }) only [go_sem, Int.reduceToNat, Int.reduceLE, Int.reduceLT, Int.reduceAdd, Int.reduceSub, Int.reduceMul, Int.reduceEq, Int.reduceNe, Nat.reduceEqDiff, Nat.reducePow, Nat.reduceDiv, Nat.reduceMod, Nat.reduceAdd, Nat.reduceMul, Nat.reduceSub, Nat.reduceLT, Nat.reduceLeDiff, reduceIte, reduceCtorEq, h48, hb, appendA_U]
    refine AApply.clo (works_ok _ _ ⟨trivial, ?_⟩)
    simp (config := { maxSteps := 1000000 }) only [go_sem, Int.reduceToNat, Int.reduceLE, Int.reduceLT, Int.reduceAdd, Int.reduceSub, Int.reduceMul, Int.reduceEq, Int.reduceNe, Nat.reduceEqDiff, Nat.reducePow, Nat.reduceDiv, Nat.reduceMod, Nat.reduceAdd, Nat.reduceMul, Nat.reduceSub, Nat.reduceLT, Nat.reduceLeDiff, reduceIte, reduceCtorEq, appendA_U]
    exact FinV.dropO G0_ok hcl hog (.lit _) hK
end Go.Proofs
