/- Own work: contracts. -/
import Derived.Test.YthdoogcgeioahaaDoorConB
set_option linter.all false
set_option linter.unusedSimpArgs false
namespace Go.Proofs
open Go.Hx

/-! ### the lists of tables, as the reference makes them -/
def cnt (n : Int) : List Int := (List.range n.toNat).map fun (k : Nat) => (k : Int)
def subL (a b : List Int) : List Int := List.zipWith (· - ·) a b
def rowsL : Int → List Int → List (List Int)
  | s, [] => if s = 0 then [[]] else []
  | s, m :: ms => (cnt (min s m + 1)).flatMap fun c => (rowsL (s - c) ms).map (c :: ·)
def tablesL : List Int → List Int → List (List (List Int))
  | [], cols => if cols.all (· == 0) then [[]] else []
  | s :: ss, cols => (rowsL s cols).flatMap fun r => (tablesL ss (subL cols r)).map (r :: ·)
theorem cnt_len (n : Int) : (cnt n).length = n.toNat := by simp [cnt]
theorem mem_cnt {n c : Int} : c ∈ cnt n ↔ 0 ≤ c ∧ c < n := by
  simp only [cnt, List.mem_map, List.mem_range]
  constructor
  · rintro ⟨k, hk, rfl⟩; omega
  · rintro ⟨h1, h2⟩; exact ⟨c.toNat, by omega, by omega⟩
theorem cnt_succ {k : Nat} : cnt (k + 1 : Int) = cnt k ++ [(k : Int)] := by
  have h : ((k : Int) + 1).toNat = k + 1 := by omega
  simp [cnt, h, List.range_succ]
theorem mem_rowsL : ∀ {most : List Int} {s : Int} {r : List Int}, r ∈ rowsL s most → r.length = most.length ∧ r.sum = s ∧ (∀ c, c ∈ r → 0 ≤ c) ∧ ∀ i, i < most.length → r.getD i 0 ≤ most.getD i 0 := by
  intro most
  induction most with
  | nil =>
    intro s r h
    simp only [rowsL] at h
    split at h
    · obtain rfl := List.mem_singleton.1 h
      exact ⟨rfl, by simp; omega, fun c hc => (by cases hc), fun i hi => absurd hi (Nat.not_lt_zero _)⟩
    · cases h
  | cons m ms ih =>
    intro s r h
    simp only [rowsL, List.mem_flatMap, List.mem_map] at h
    obtain ⟨c, hc, r', hr', rfl⟩ := h
    have hc := mem_cnt.1 hc
    obtain ⟨h1, h2, h3, h4⟩ := ih hr'
    refine ⟨by simp [h1], by simp [h2]; omega, fun d hd => ?_, fun i hi => ?_⟩
    · rcases List.mem_cons.1 hd with rfl | hd
      · exact hc.1
      · exact h3 d hd
    · cases i with
      | zero => simp; omega
      | succ i => simpa using h4 i (by simpa using hi)
theorem rowsL_len : ∀ {most : List Int} {s : Int}, (∀ c, c ∈ most → c ≤ 20) → (rowsL s most).length ≤ 21 ^ most.length := by
  intro most
  induction most with
  | nil => intro s _; simp only [rowsL]; split <;> simp
  | cons m ms ih =>
    intro s h
    have hm := h m (by simp)
    have ih := fun s => ih (s := s) fun c hc => h c (by simp [hc])
    simp only [rowsL, List.length_flatMap, List.length_map]
    have : ∀ l : List Int, (l.map fun c => (rowsL (s - c) ms).length).sum ≤ l.length * 21 ^ ms.length := by
      intro l
      induction l with
      | nil => simp
      | cons a l ihl =>
        simp only [List.map_cons, List.sum_cons, List.length_cons, Nat.succ_mul]
        have := ih (s - a)
        omega
    have h2 := this (cnt (min s m + 1))
    rw [cnt_len] at h2
    have h3 : (min s m + 1).toNat ≤ 21 := by omega
    have h4 := Nat.mul_le_mul_right (21 ^ ms.length) h3
    have e : 21 ^ (ms.length + 1) = 21 * 21 ^ ms.length := by rw [Nat.pow_succ, Nat.mul_comm]
    simp only [List.length_cons]
    omega
theorem subL_len {a b : List Int} (h : b.length = a.length) : (subL a b).length = a.length := by simp [subL, h]
theorem subL_get {a b : List Int} (h : b.length = a.length) (i : Nat) : (subL a b).getD i 0 = a.getD i 0 - b.getD i 0 := by
  simp only [subL, List.getD_eq_getElem?_getD, List.getElem?_zipWith]
  by_cases hi : i < a.length
  · rw [List.getElem?_eq_getElem hi, List.getElem?_eq_getElem (by omega)]; rfl
  · rw [List.getElem?_eq_none (by omega), List.getElem?_eq_none (by omega)]; rfl
theorem subL_sum : ∀ {a b : List Int}, b.length = a.length → (subL a b).sum = a.sum - b.sum := by
  intro a
  induction a with
  | nil => intro b h; simp [List.eq_nil_of_length_eq_zero h, subL]
  | cons x a ih =>
    intro b h
    cases b with
    | nil => simp at h
    | cons y b =>
      have := ih (b := b) (by simpa using h)
      simp only [subL] at this
      simp only [subL, List.zipWith_cons_cons, List.sum_cons, this]; omega
/-- Numbers from 0 to 20. -/
def Cap (l : List Int) : Prop := ∀ c, c ∈ l → 0 ≤ c ∧ c ≤ 20
theorem getD_mem {l : List Int} {i : Nat} (h : i < l.length) : l.getD i 0 ∈ l := by
  rw [List.getD_eq_getElem?_getD, List.getElem?_eq_getElem h]; exact List.getElem_mem _
theorem Cap.sub {cols r : List Int} {s : Int} (h : Cap cols) (hr : r ∈ rowsL s cols) : Cap (subL cols r) := by
  obtain ⟨h1, _, h3, h4⟩ := mem_rowsL hr
  intro c hc
  obtain ⟨i, hi, rfl⟩ := List.mem_iff_getElem.1 hc
  have hi' : i < cols.length := by rwa [subL_len h1] at hi
  have e : (subL cols r)[i] = (subL cols r).getD i 0 := by rw [List.getD_eq_getElem?_getD, List.getElem?_eq_getElem hi]; rfl
  rw [e, subL_get h1]
  have a := h4 i hi'
  have b := h _ (getD_mem hi')
  have d := h3 _ (getD_mem (l := r) (i := i) (by omega))
  omega
theorem tablesL_len : ∀ {ss cols : List Int}, Cap cols → cols.length ≤ 3 → (tablesL ss cols).length ≤ 9261 ^ ss.length := by
  intro ss
  induction ss with
  | nil => intro cols _ _; simp only [tablesL]; split <;> simp
  | cons s ss ih =>
    intro cols hc hl
    simp only [tablesL, List.length_flatMap, List.length_map]
    have : ∀ l : List (List Int), (∀ r, r ∈ l → r ∈ rowsL s cols) → (l.map fun r => (tablesL ss (subL cols r)).length).sum ≤ l.length * 9261 ^ ss.length := by
      intro l
      induction l with
      | nil => intro _; simp
      | cons a l ihl =>
        intro h
        simp only [List.map_cons, List.sum_cons, List.length_cons, Nat.succ_mul]
        have h1 := ihl fun r hr => h r (by simp [hr])
        have h2 := ih (hc.sub (h a (by simp))) (by rw [subL_len (mem_rowsL (h a (by simp))).1]; exact hl)
        omega
    have h2 := this (rowsL s cols) fun _ h => h
    have h3 := rowsL_len (s := s) fun c h => (hc c h).2
    have h5 : 21 ^ cols.length ≤ 9261 := by
      have : (21 : Nat) ^ cols.length ≤ 21 ^ 3 := Nat.pow_le_pow_right (by decide) hl
      simpa using this
    have h4 := Nat.mul_le_mul_right (9261 ^ ss.length) (Nat.le_trans h3 h5)
    have e : 9261 ^ (ss.length + 1) = 9261 * 9261 ^ ss.length := by rw [Nat.pow_succ, Nat.mul_comm]
    simp only [List.length_cons]
    omega
end Go.Proofs
set_option linter.unusedSimpArgs false
namespace Go.Proofs
open Go.Hx

theorem same_spec (a b : List (List Int)) (ha : (a.length : Int) < 2 ^ 62) (hr : ∀ r, r ∈ a → (r.length : Int) < 2 ^ 62) (H : AHeap) (K : ARes → AHeap → Prop) (hK : K (.ret (.lit (.bool (decide (a = b))))) H) : ACall Tryd.prog G0 31 [vecV a, vecV b] H K := by
  have no : ¬ a = b → FinV Tryd.prog G0 H K (.lit (.bool false)) H := fun h => FinV.mk (Nat.le_refl _) (by rw [decide_eq_false h] at hK; exact hK)
  refine ACall.of_body (n := 53) (rs := [.tmp 4]) Tryd.func31 rfl rfl rfl (by decide) (by kernel_rfl) (by simp) ?_
  by_cases hl : (a.length : Int) = b.length
  rotate_left
  · simp (config := { maxSteps := 1000000 }) only [go_sem, Int.reduceToNat, Int.reduceLE, Int.reduceLT, Int.reduceAdd, Int.reduceSub, Int.reduceMul, Int.reduceEq, Int.reduceNe, Nat.reduceEqDiff, Nat.reducePow, Nat.reduceDiv, Nat.reduceMod, Nat.reduceAdd, Nat.reduceMul, Nat.reduceSub, Nat.reduceLT, Nat.reduceLeDiff, reduceIte, reduceCtorEq, vecV, hl, appendA_U]
    exact no fun h => hl (by rw [h])
  simp (config := { maxSteps := 1000000 }) only [go_sem, Int.reduceToNat, Int.reduceLE, Int.reduceLT, Int.reduceAdd, Int.reduceSub, Int.reduceMul, Int.reduceEq, Int.reduceNe, Nat.reduceEqDiff, Nat.reducePow, Nat.reduceDiv, Nat.reduceMod, Nat.reduceAdd, Nat.reduceMul, Nat.reduceSub, Nat.reduceLT, Nat.reduceLeDiff, reduceIte, reduceCtorEq, vecV, hl, appendA_U]
  refine W.loop0 9007199254737008 (by rfl) (fun ρ H' => H' = H ∧ ∃ k : Nat, ρ 5 = lin k ∧ k ≤ a.length ∧ a.take k = b.take k) (fun ρ H => a.length - (iv (ρ 5)).toNat) ?_ ?_
  · simp (config := { maxSteps := 1000000 }) only [go_sem, Int.reduceToNat, Int.reduceLE, Int.reduceLT, Int.reduceAdd, Int.reduceSub, Int.reduceMul, Int.reduceEq, Int.reduceNe, Nat.reduceEqDiff, Nat.reducePow, Nat.reduceDiv, Nat.reduceMod, Nat.reduceAdd, Nat.reduceMul, Nat.reduceSub, Nat.reduceLT, Nat.reduceLeDiff, reduceIte, reduceCtorEq, appendA_U]
    exact ⟨0, rfl, by omega, rfl⟩
  rintro ρ H' ⟨rfl, k, h5, hk, ht⟩
  refine vc_sound _ _ _ (by rfl) ?_
  by_cases hb : (k : Int) < a.length
  · obtain ⟨x, hx⟩ : ∃ x, a[k]? = some x := ⟨_, List.getElem?_eq_getElem (by omega)⟩
    obtain ⟨y, hy⟩ : ∃ y, b[k]? = some y := ⟨_, List.getElem?_eq_getElem (by omega)⟩
    have hxn : ¬ a = [] := by rintro rfl; simp at hx
    have hyn : ¬ b = [] := by rintro rfl; simp at hy
    have hbb : (k : Int) < b.length := by omega
    have hxl := hr x (List.mem_of_getElem? hx)
    have nxy : ¬ x = y → ¬ a = b := fun h e => h (by rw [e, hy] at hx; exact (Option.some.inj hx).symm)
    simp (config := { maxSteps := 1000000 }) only [go_sem, Int.reduceToNat, Int.reduceLE, Int.reduceLT, Int.reduceAdd, Int.reduceSub, Int.reduceMul, Int.reduceEq, Int.reduceNe, Nat.reduceEqDiff, Nat.reducePow, Nat.reduceDiv, Nat.reduceMod, Nat.reduceAdd, Nat.reduceMul, Nat.reduceSub, Nat.reduceLT, Nat.reduceLeDiff, reduceIte, reduceCtorEq, h5, hb, hbb, hl, appendA_U]
    refine W.draw 10 [0, 0, 3, 7, 15, 0, 0, 96, 224, 480] Tryd.mixed (by kernel_rfl) (by kernel_rfl) ?_
    by_cases hxy : (x.length : Int) = y.length
    rotate_left
    · simp (config := { maxSteps := 1000000 }) only [go_sem, Int.reduceToNat, Int.reduceLE, Int.reduceLT, Int.reduceAdd, Int.reduceSub, Int.reduceMul, Int.reduceEq, Int.reduceNe, Nat.reduceEqDiff, Nat.reducePow, Nat.reduceDiv, Nat.reduceMod, Nat.reduceAdd, Nat.reduceMul, Nat.reduceSub, Nat.reduceLT, Nat.reduceLeDiff, reduceIte, reduceCtorEq, h5, hb, hbb, hx, hy, hxn, hyn, hxy, appendA_U]
      exact no (nxy fun h => hxy (by rw [h]))
    simp (config := { maxSteps := 1000000 }) only [go_sem, Int.reduceToNat, Int.reduceLE, Int.reduceLT, Int.reduceAdd, Int.reduceSub, Int.reduceMul, Int.reduceEq, Int.reduceNe, Nat.reduceEqDiff, Nat.reducePow, Nat.reduceDiv, Nat.reduceMod, Nat.reduceAdd, Nat.reduceMul, Nat.reduceSub, Nat.reduceLT, Nat.reduceLeDiff, reduceIte, reduceCtorEq, h5, hb, hbb, hx, hy, hxn, hyn, hxy, appendA_U]
    refine W.loop0 9007198717870160 (by rfl) (fun ρ' H2 => H2 = H' ∧ ∃ j : Nat, ρ' 6 = lin j ∧ j ≤ x.length ∧ x.take j = y.take j) (fun ρ' H => x.length - (iv (ρ' 6)).toNat) ?_ ?_
    · simp (config := { maxSteps := 1000000 }) only [go_sem, Int.reduceToNat, Int.reduceLE, Int.reduceLT, Int.reduceAdd, Int.reduceSub, Int.reduceMul, Int.reduceEq, Int.reduceNe, Nat.reduceEqDiff, Nat.reducePow, Nat.reduceDiv, Nat.reduceMod, Nat.reduceAdd, Nat.reduceMul, Nat.reduceSub, Nat.reduceLT, Nat.reduceLeDiff, reduceIte, reduceCtorEq, appendA_U]
      exact ⟨0, rfl, by omega, rfl⟩
    rintro ρ' H2 ⟨rfl, j, h6, hj, ht2⟩
    refine vc_sound _ _ _ (by rfl) ?_
    by_cases hb2 : (j : Int) < x.length
    · obtain ⟨c, hc⟩ : ∃ c, x[j]? = some c := ⟨_, List.getElem?_eq_getElem (by omega)⟩
      obtain ⟨d, hd⟩ : ∃ d, y[j]? = some d := ⟨_, List.getElem?_eq_getElem (by omega)⟩
      have hcn : ¬ x = [] := by rintro rfl; simp at hc
      have hdn : ¬ y = [] := by rintro rfl; simp at hd
      have hb3 : (j : Int) < y.length := by omega
      simp (config := { maxSteps := 1000000 }) only [go_sem, Int.reduceToNat, Int.reduceLE, Int.reduceLT, Int.reduceAdd, Int.reduceSub, Int.reduceMul, Int.reduceEq, Int.reduceNe, Nat.reduceEqDiff, Nat.reducePow, Nat.reduceDiv, Nat.reduceMod, Nat.reduceAdd, Nat.reduceMul, Nat.reduceSub, Nat.reduceLT, Nat.reduceLeDiff, reduceIte, reduceCtorEq, h5, h6, hb, hbb, hb2, hx, hxn, appendA_U]
      refine W.draw 14 [0, 0, 3, 7, 0, 31, 63, 0, 0, 384, 896, 0, 3968, 8064] Tryd.mixed (by kernel_rfl) (by kernel_rfl) ?_
      by_cases hcd : c = d
      · subst hcd
        have w1 := IntWalk.i64_in ((j : Int) + 1) (by omega)
        simp (config := { maxSteps := 1000000 }) only [go_sem, Int.reduceToNat, Int.reduceLE, Int.reduceLT, Int.reduceAdd, Int.reduceSub, Int.reduceMul, Int.reduceEq, Int.reduceNe, Nat.reduceEqDiff, Nat.reducePow, Nat.reduceDiv, Nat.reduceMod, Nat.reduceAdd, Nat.reduceMul, Nat.reduceSub, Nat.reduceLT, Nat.reduceLeDiff, reduceIte, reduceCtorEq, h5, h6, hb, hbb, hb2, hb3, hx, hy, hxn, hyn, hc, hd, hcn, hdn, w1, appendA_U]
        exact ⟨⟨j + 1, by simp, by omega, by rw [take_succ_of hc, take_succ_of hd, ht2]⟩, by omega⟩
      · simp (config := { maxSteps := 1000000 }) only [go_sem, Int.reduceToNat, Int.reduceLE, Int.reduceLT, Int.reduceAdd, Int.reduceSub, Int.reduceMul, Int.reduceEq, Int.reduceNe, Nat.reduceEqDiff, Nat.reducePow, Nat.reduceDiv, Nat.reduceMod, Nat.reduceAdd, Nat.reduceMul, Nat.reduceSub, Nat.reduceLT, Nat.reduceLeDiff, reduceIte, reduceCtorEq, h5, h6, hb, hbb, hb2, hb3, hx, hy, hxn, hyn, hc, hd, hcn, hdn, hcd, appendA_U]
        exact no (nxy fun h => hcd (by rw [h, hd] at hc; exact (Option.some.inj hc).symm))
    · have exy : x = y := by
        rw [List.take_of_length_le (by omega), List.take_of_length_le (by omega)] at ht2
        exact ht2
      have w1 := IntWalk.i64_in ((k : Int) + 1) (by omega)
      simp (config := { maxSteps := 1000000 }) only [go_sem, Int.reduceToNat, Int.reduceLE, Int.reduceLT, Int.reduceAdd, Int.reduceSub, Int.reduceMul, Int.reduceEq, Int.reduceNe, Nat.reduceEqDiff, Nat.reducePow, Nat.reduceDiv, Nat.reduceMod, Nat.reduceAdd, Nat.reduceMul, Nat.reduceSub, Nat.reduceLT, Nat.reduceLeDiff, reduceIte, reduceCtorEq, h5, h6, hb, hbb, hb2, hx, hxn, w1, appendA_U]
      exact ⟨⟨k + 1, by simp, by omega, by rw [take_succ_of hx, take_succ_of hy, ht, exy]⟩, by omega⟩
  · have hbb : ¬ (k : Int) < b.length := by omega
    simp (config := { maxSteps := 1000000 }) only [go_sem, Int.reduceToNat, Int.reduceLE, Int.reduceLT, Int.reduceAdd, Int.reduceSub, Int.reduceMul, Int.reduceEq, Int.reduceNe, Nat.reduceEqDiff, Nat.reducePow, Nat.reduceDiv, Nat.reduceMod, Nat.reduceAdd, Nat.reduceMul, Nat.reduceSub, Nat.reduceLT, Nat.reduceLeDiff, reduceIte, reduceCtorEq, h5, hb, hbb, hl, appendA_U]
    refine FinV.mk (Nat.le_refl _) ?_
    have : a = b := by
      rw [List.take_of_length_le (by omega), List.take_of_length_le (by omega)] at ht
      exact ht
    rw [decide_eq_true this] at hK
    exact hK

def vecT (l : List (List (List Int))) : AVal := .vec l.length (l.map vecV)
theorem eqFunc_spec (a b : List (List (List Int))) (ha : (a.length : Int) < 2 ^ 62) (hr : ∀ t, t ∈ a → (t.length : Int) < 2 ^ 62 ∧ ∀ r, r ∈ t → (r.length : Int) < 2 ^ 62) (H : AHeap) (K : ARes → AHeap → Prop) (hK : K (.ret (.lit (.bool (decide (a = b))))) H) :
    ACall Tryd.prog G0 29 [vecT a, vecT b, .clo 31 [] []] H K := by
  have no : ¬ a = b → FinV Tryd.prog G0 H K (.lit (.bool false)) H := fun h => FinV.mk (Nat.le_refl _) (by rw [decide_eq_false h] at hK; exact hK)
  refine ACall.of_body (n := 32) (rs := [.tmp 6]) Tryd.func29 rfl rfl rfl (by decide) (by kernel_rfl) (by simp) ?_
  by_cases hl : (a.length : Int) = b.length
  rotate_left
  · simp (config := { maxSteps := 1000000 }) only [go_sem, Int.reduceToNat, Int.reduceLE, Int.reduceLT, Int.reduceAdd, Int.reduceSub, Int.reduceMul, Int.reduceEq, Int.reduceNe, Nat.reduceEqDiff, Nat.reducePow, Nat.reduceDiv, Nat.reduceMod, Nat.reduceAdd, Nat.reduceMul, Nat.reduceSub, Nat.reduceLT, Nat.reduceLeDiff, reduceIte, reduceCtorEq, vecT, hl, appendA_U]
    exact no fun h => hl (by rw [h])
  simp (config := { maxSteps := 1000000 }) only [go_sem, Int.reduceToNat, Int.reduceLE, Int.reduceLT, Int.reduceAdd, Int.reduceSub, Int.reduceMul, Int.reduceEq, Int.reduceNe, Nat.reduceEqDiff, Nat.reducePow, Nat.reduceDiv, Nat.reduceMod, Nat.reduceAdd, Nat.reduceMul, Nat.reduceSub, Nat.reduceLT, Nat.reduceLeDiff, reduceIte, reduceCtorEq, vecT, hl, appendA_U]
  refine W.loop0 4294837184 (by rfl) (fun ρ H' => H' = H ∧ ∃ k : Nat, ρ 17 = lin k ∧ k ≤ a.length ∧ a.take k = b.take k) (fun ρ H => a.length - (iv (ρ 17)).toNat) ?_ ?_
  · simp (config := { maxSteps := 1000000 }) only [go_sem, Int.reduceToNat, Int.reduceLE, Int.reduceLT, Int.reduceAdd, Int.reduceSub, Int.reduceMul, Int.reduceEq, Int.reduceNe, Nat.reduceEqDiff, Nat.reducePow, Nat.reduceDiv, Nat.reduceMod, Nat.reduceAdd, Nat.reduceMul, Nat.reduceSub, Nat.reduceLT, Nat.reduceLeDiff, reduceIte, reduceCtorEq, appendA_U]
    exact ⟨0, rfl, by omega, rfl⟩
  rintro ρ H' ⟨rfl, k, h5, hk, ht⟩
  refine vc_sound _ _ _ (by rfl) ?_
  by_cases hb : (k : Int) < b.length
  · obtain ⟨x, hx⟩ : ∃ x, a[k]? = some x := ⟨_, List.getElem?_eq_getElem (by omega)⟩
    obtain ⟨y, hy⟩ : ∃ y, b[k]? = some y := ⟨_, List.getElem?_eq_getElem (by omega)⟩
    have hxn : ¬ a = [] := by rintro rfl; simp at hx
    have hyn : ¬ b = [] := by rintro rfl; simp at hy
    have hbb : (k : Int) < a.length := by omega
    simp (config := { maxSteps := 1000000 }) only [go_sem, Int.reduceToNat, Int.reduceLE, Int.reduceLT, Int.reduceAdd, Int.reduceSub, Int.reduceMul, Int.reduceEq, Int.reduceNe, Nat.reduceEqDiff, Nat.reducePow, Nat.reduceDiv, Nat.reduceMod, Nat.reduceAdd, Nat.reduceMul, Nat.reduceSub, Nat.reduceLT, Nat.reduceLeDiff, reduceIte, reduceCtorEq, h5, hb, hbb, hl, hx, hy, hxn, hyn, appendA_U]
    obtain ⟨g1, g2⟩ := hr x (List.mem_of_getElem? hx)
    refine AApply.clo (same_spec x y g1 g2 _ _ ⟨trivial, ?_⟩)
    by_cases hxy : x = y
    · rw [decide_eq_true hxy]
      have w1 := IntWalk.i64_in ((k : Int) + 1) (by omega)
      simp (config := { maxSteps := 1000000 }) only [go_sem, Int.reduceToNat, Int.reduceLE, Int.reduceLT, Int.reduceAdd, Int.reduceSub, Int.reduceMul, Int.reduceEq, Int.reduceNe, Nat.reduceEqDiff, Nat.reducePow, Nat.reduceDiv, Nat.reduceMod, Nat.reduceAdd, Nat.reduceMul, Nat.reduceSub, Nat.reduceLT, Nat.reduceLeDiff, reduceIte, reduceCtorEq, h5, w1, appendA_U]
      exact ⟨⟨k + 1, by simp, by omega, by rw [take_succ_of hx, take_succ_of hy, ht, hxy]⟩, by omega⟩
    · rw [decide_eq_false hxy]
      simp (config := { maxSteps := 1000000 }) only [go_sem, Int.reduceToNat, Int.reduceLE, Int.reduceLT, Int.reduceAdd, Int.reduceSub, Int.reduceMul, Int.reduceEq, Int.reduceNe, Nat.reduceEqDiff, Nat.reducePow, Nat.reduceDiv, Nat.reduceMod, Nat.reduceAdd, Nat.reduceMul, Nat.reduceSub, Nat.reduceLT, Nat.reduceLeDiff, reduceIte, reduceCtorEq, h5, appendA_U]
      exact no fun e => hxy (by rw [e, hy] at hx; exact (Option.some.inj hx).symm)
  · have hbb : ¬ (k : Int) < b.length := by omega
    simp (config := { maxSteps := 1000000 }) only [go_sem, Int.reduceToNat, Int.reduceLE, Int.reduceLT, Int.reduceAdd, Int.reduceSub, Int.reduceMul, Int.reduceEq, Int.reduceNe, Nat.reduceEqDiff, Nat.reducePow, Nat.reduceDiv, Nat.reduceMod, Nat.reduceAdd, Nat.reduceMul, Nat.reduceSub, Nat.reduceLT, Nat.reduceLeDiff, reduceIte, reduceCtorEq, h5, hb, hbb, hl, appendA_U]
    refine FinV.mk (Nat.le_refl _) ?_
    have : a = b := by
      rw [List.take_of_length_le (by omega), List.take_of_length_le (by omega)] at ht
      exact ht
    rw [decide_eq_true this] at hK
    exact hK

theorem gcd_step (a b : Int) (ha : 0 ≤ a) (hb : 0 < b) : Int.gcd b (a % b) = Int.gcd b a := by
  obtain ⟨m, rfl⟩ := Int.eq_ofNat_of_zero_le ha
  obtain ⟨n, rfl⟩ := Int.eq_ofNat_of_zero_le (Int.le_of_lt hb)
  rw [← Int.natCast_emod]
  simp only [Int.gcd_natCast_natCast]
  rw [Nat.gcd_comm n m, ← Nat.mod_add_div m n]
  have := Nat.gcd_rec n m
  rw [Nat.mod_add_div]
  rw [Nat.gcd_comm m n, this, Nat.gcd_comm]
/-- The greatest common divisor, as the reference takes it. -/
theorem reduced_spec (n d : Int) (hn : 0 ≤ n) (hd : 0 < d) (hn2 : n ≤ 9223372036854775807) (hd2 : d ≤ 9223372036854775807) (H : AHeap) (K : ARes → AHeap → Prop) (hK : K (.ret (.agg [.lit (.int .i64 (n / (Int.gcd n d : Int))), .lit (.int .i64 (d / (Int.gcd n d : Int)))])) H) :
    ACall Tryd.prog G0 12 [.lit (.int .i64 n), .lit (.int .i64 d)] H K := by
  refine ACall.clo ⟨_, Tryd.func12, rfl, rfl⟩ fun hcl => ?_
  refine ACall.of_body (n := 24) (rs := [.cell 4 29]) Tryd.func12 rfl rfl rfl (by decide) (by kernel_rfl) (by simp) ?_
  simp (config := { maxSteps := 1000000 }) only [go_sem, Int.reduceToNat, Int.reduceLE, Int.reduceLT, Int.reduceAdd, Int.reduceSub, Int.reduceMul, Int.reduceEq, Int.reduceNe, Nat.reduceEqDiff, Nat.reducePow, Nat.reduceDiv, Nat.reduceMod, Nat.reduceAdd, Nat.reduceMul, Nat.reduceSub, Nat.reduceLT, Nat.reduceLeDiff, reduceIte, reduceCtorEq, appendA_U]
  refine W.loop0 130272 (by rfl) (fun ρ H' => H' = ext H [.arr 0 29 [.lit (.int .i64 0), .lit (.int .i64 0)]] ∧ ∃ a b : Int, ρ 5 = lin a ∧ ρ 6 = lin b ∧ 0 ≤ a ∧ 0 ≤ b ∧ 0 < a + b ∧ Int.gcd a b = Int.gcd n d) (fun ρ H => (iv (ρ 6)).toNat) ?_ ?_
  · simp (config := { maxSteps := 1000000 }) only [go_sem, Int.reduceToNat, Int.reduceLE, Int.reduceLT, Int.reduceAdd, Int.reduceSub, Int.reduceMul, Int.reduceEq, Int.reduceNe, Nat.reduceEqDiff, Nat.reducePow, Nat.reduceDiv, Nat.reduceMod, Nat.reduceAdd, Nat.reduceMul, Nat.reduceSub, Nat.reduceLT, Nat.reduceLeDiff, reduceIte, reduceCtorEq, appendA_U]
    exact ⟨n, d, rfl, rfl, by omega, by omega, by omega, rfl⟩
  rintro ρ H' ⟨rfl, a, b, h5, h6, ha, hb, hab, hg⟩
  refine vc_sound _ _ _ (by rfl) ?_
  by_cases hz : b = 0
  · subst hz
    have e : a = (Int.gcd n d : Int) := by rw [← hg, Int.gcd_zero_right]; omega
    have g0 : (Int.gcd n d : Int) ≠ 0 := by omega
    simp (config := { maxSteps := 1000000 }) only [go_sem, Int.reduceToNat, Int.reduceLE, Int.reduceLT, Int.reduceAdd, Int.reduceSub, Int.reduceMul, Int.reduceEq, Int.reduceNe, Nat.reduceEqDiff, Nat.reducePow, Nat.reduceDiv, Nat.reduceMod, Nat.reduceAdd, Nat.reduceMul, Nat.reduceSub, Nat.reduceLT, Nat.reduceLeDiff, reduceIte, reduceCtorEq, h5, h6, appendA_U]
    refine W.draw 6 [0, 0, 3, 0, 0, 24] Tryd.mixed (by kernel_rfl) (by kernel_rfl) ?_
    have t1 : n.tdiv (Int.gcd n d : Int) = n / (Int.gcd n d : Int) := Int.tdiv_eq_ediv_of_nonneg hn
    have t2 : d.tdiv (Int.gcd n d : Int) = d / (Int.gcd n d : Int) := Int.tdiv_eq_ediv_of_nonneg (by omega)
    have b1 : 0 ≤ n / (Int.gcd n d : Int) ∧ n / (Int.gcd n d : Int) ≤ n := ⟨Int.ediv_nonneg hn (by omega), Int.ediv_le_self _ hn⟩
    have b2 : 0 ≤ d / (Int.gcd n d : Int) ∧ d / (Int.gcd n d : Int) ≤ d := ⟨Int.ediv_nonneg (by omega) (by omega), Int.ediv_le_self _ (by omega)⟩
    have w1 := IntWalk.i64_in (n / (Int.gcd n d : Int)) (by omega)
    have w2 := IntWalk.i64_in (d / (Int.gcd n d : Int)) (by omega)
    simp (config := { maxSteps := 1000000 }) only [go_sem, Int.reduceToNat, Int.reduceLE, Int.reduceLT, Int.reduceAdd, Int.reduceSub, Int.reduceMul, Int.reduceEq, Int.reduceNe, Nat.reduceEqDiff, Nat.reducePow, Nat.reduceDiv, Nat.reduceMod, Nat.reduceAdd, Nat.reduceMul, Nat.reduceSub, Nat.reduceLT, Nat.reduceLeDiff, reduceIte, reduceCtorEq, h5, h6, e, g0, t1, t2, w1, w2, appendA_U]
    refine FinV.drop (v' := .agg [.lit (.int .i64 (n / (Int.gcd n d : Int))), .lit (.int .i64 (d / (Int.gcd n d : Int)))]) G0_ok hcl (.agg rfl fun i hi _ => ?_) hK
    match i, hi with
    | 0, _ => exact .lit _
    | 1, _ => exact .lit _
  · have m1 : a.tmod b = a % b := Int.tmod_eq_emod_of_nonneg ha
    have m2 := Int.emod_nonneg a hz
    have m3 := Int.emod_lt_of_pos a (show 0 < b by omega)
    simp (config := { maxSteps := 1000000 }) only [go_sem, Int.reduceToNat, Int.reduceLE, Int.reduceLT, Int.reduceAdd, Int.reduceSub, Int.reduceMul, Int.reduceEq, Int.reduceNe, Nat.reduceEqDiff, Nat.reducePow, Nat.reduceDiv, Nat.reduceMod, Nat.reduceAdd, Nat.reduceMul, Nat.reduceSub, Nat.reduceLT, Nat.reduceLeDiff, reduceIte, reduceCtorEq, h5, h6, hz, m1, appendA_U]
    refine ⟨⟨b, a % b, rfl, rfl, by omega, by omega, by omega, ?_⟩, by omega⟩
    rw [← hg, Int.gcd_comm a b]
    exact gcd_step a b ha (by omega)
end Go.Proofs
set_option linter.unusedSimpArgs false
namespace Go.Hx
variable {P : Program} {H : AHeap}
/-- Several values appended. -/
theorem app_vec {L : List Blk} {t e : TypeId} {lo hi n : Nat} {v : AVal} {cs src : List AVal} {z : List AVal} (ht : P.underlying t = some (.slice e)) (hz : P.cellsOf e = 1) (hzero : zeroA P e = some z) (hx : src.all AVal.one = true)
    (hb : (cs.length + src.length) * P.bytesOf e ≤ 2 ^ 46 ∧ cs.length + src.length ≤ 2 ^ 46) (ho : OwnC H L e lo hi v cs) (hlo : lo ≤ L.length) (hhi : hi ≤ L.length) (hn : L.length = n) :
    ∃ v' L', appendA P (ext H L) (H.next + n) t t v (.vec src.length src) = some (v', ext H L') ∧ OwnC H L' e lo L'.length v' (cs ++ src) ∧ L.length ≤ L'.length ∧
      (∀ k, k < L.length → (∀ g n, v ≠ .own (H.next + k) g 0 n 1) → L'[k]? = L[k]?) := by
  subst hn
  have hsrc : sourceA (ext H L) 1 (.vec src.length src) = some (src.length, src) := by
    unfold sourceA; simp
  by_cases h0 : src.length = 0
  · have e0 : src = [] := List.eq_nil_of_length_eq_zero h0
    subst e0
    refine ⟨v, L, ?_, ?_, Nat.le_refl _, fun _ _ _ => rfl⟩
    · rcases ho with ⟨rfl, rfl⟩ | ⟨i, g, h1, h2, rfl, h4⟩
      · unfold appendA; rw [ht]
        simp only [hzero, hz, Option.bind_some]
        rw [hsrc]
        rfl
      · unfold appendA; rw [ht]
        have hl := live_extL (H := H) h4
        simp only [hzero, hz, Option.bind_some, hsrc, hl]
        rw [if_pos ⟨trivial, trivial, by omega, hb.1, hb.2, rfl⟩]
        simp
    · rw [List.append_nil]
      exact ho.keep (Nat.le_refl _) hhi fun _ _ _ _ _ => rfl
  rcases ho with ⟨rfl, rfl⟩ | ⟨i, g, h1, h2, rfl, h4⟩
  · refine ⟨.own (H.next + L.length) 0 0 src.length 1, L ++ [.arr 0 e src], ?_, .inr ⟨L.length, 0, hlo, by simp, by simp, by simp⟩, by simp, fun k hk _ => List.getElem?_append_left hk⟩
    unfold appendA; rw [ht]
    simp only [hzero, hz, Option.bind_some, hsrc]
    rw [if_neg h0, if_pos (by simpa using hb), lay_ext]
    rfl
  · have hi' : i < L.length := by omega
    refine ⟨.own (H.next + i) (g + 1) 0 (cs.length + src.length) 1, L.set i (.arr (g + 1) e (cs ++ src)), ?_, .inr ⟨i, g + 1, h1, by simpa using hi', by simp, by rw [List.getElem?_set_self hi']⟩, by simp, fun k hk hne => ?_⟩
    · unfold appendA; rw [ht]
      have hl := live_extL (H := H) h4
      simp only [hzero, hz, Option.bind_some, hsrc, hl]
      rw [if_pos ⟨trivial, trivial, by omega, hb.1, hb.2, hx⟩, if_neg h0, upd_ext H L i _ hi']
      simp
    · have : i ≠ k := by rintro rfl; exact hne _ _ rfl
      rw [List.getElem?_set_ne this]
theorem OwnC.last {L : List Blk} {e : TypeId} {cs : List AVal} : OwnC H (L ++ [.arr 0 e cs]) e L.length (L.length + 1) (.own (H.next + L.length) 0 0 cs.length 1) cs :=
  .inr ⟨L.length, 0, Nat.le_refl _, by omega, rfl, by simp⟩
end Go.Hx
namespace Go.Proofs
open Go.Hx

theorem OwnV.low {H : AHeap} {L L' : List Blk} {v : AVal} {rows : List (List Int)} (h : OwnV H L v rows) (hl : L.length ≤ L'.length) (hk : ∀ i, i < L.length → L'[i]? = L[i]?) : OwnV H L' v rows := by
  obtain ⟨cs, c1, c2, c3⟩ := h
  exact ⟨cs, c1.keep (Nat.le_refl _) hl fun i _ _ hi _ => hk i hi, c2, fun j r c hr hc => (c3 j r c hr hc).keep (Nat.le_refl _) hl fun i _ _ hi _ => hk i hi⟩
theorem flatMap_cnt_succ {α : Type} (f : Int → List α) (k : Nat) : (cnt (k + 1 : Int)).flatMap f = (cnt k).flatMap f ++ f k := by
  rw [cnt_succ, List.flatMap_append]; simp

theorem rows_spec : ∀ (most : List Int) (s : Int), -20 ≤ s → s ≤ 60 → most.length ≤ 3 → Cap most → ∀ (H : AHeap) (K : ARes → AHeap → Prop), K (.ret (vecV (rowsL s most))) H → ACall Tryd.prog G0 65 [.lit (.int .i64 s), vecI most] H K := by
  intro most
  induction most with
  | nil =>
    intro s h1 h2 _ _ H K hK
    refine ACall.clo ⟨_, Tryd.func65, rfl, rfl⟩ fun hcl => ?_
    refine ACall.of_body (n := 51) (rs := [.tmp 4]) Tryd.func65 rfl rfl rfl (by decide) (by kernel_rfl) (by simp) ?_
    by_cases hs : s = 0
    · subst hs
      simp (config := { maxSteps := 1000000 }) only [go_sem, Int.reduceToNat, Int.reduceLE, Int.reduceLT, Int.reduceAdd, Int.reduceSub, Int.reduceMul, Int.reduceEq, Int.reduceNe, Nat.reduceEqDiff, Nat.reducePow, Nat.reduceDiv, Nat.reduceMod, Nat.reduceAdd, Nat.reduceMul, Nat.reduceSub, Nat.reduceLT, Nat.reduceLeDiff, reduceIte, reduceCtorEq, appendA_U]
      refine FinV.drop (v' := vecV [[]]) G0_ok hcl ?_ (by simpa [rowsL] using hK)
      exact OwnV.fz (L := [.arr 0 3 [], .arr 0 46 [.own H.next 0 0 0 1]]) (rows := [[]]) ⟨[.own H.next 0 0 0 1], .inr ⟨1, 0, by simp, by simp, rfl, rfl⟩, rfl, fun j r c hr hc => by
        match j, hr, hc with
        | 0, hr, hc => cases hr; cases hc; exact .inr ⟨0, 0, by simp, by simp, rfl, rfl⟩⟩ fun i => by omega
    · simp (config := { maxSteps := 1000000 }) only [go_sem, Int.reduceToNat, Int.reduceLE, Int.reduceLT, Int.reduceAdd, Int.reduceSub, Int.reduceMul, Int.reduceEq, Int.reduceNe, Nat.reduceEqDiff, Nat.reducePow, Nat.reduceDiv, Nat.reduceMod, Nat.reduceAdd, Nat.reduceMul, Nat.reduceSub, Nat.reduceLT, Nat.reduceLeDiff, reduceIte, reduceCtorEq, hs, appendA_U]
      refine FinV.drop0 (v' := vecV []) G0_ok hcl .nil (by simpa [rowsL, hs] using hK)
  | cons m ms ih =>
    intro s h1 h2 h3 hcap H K hK
    have hm := hcap m (by simp)
    have hcap' : Cap ms := fun c hc => hcap c (by simp [hc])
    have hlen : ms.length ≤ 2 := by simpa using h3
    refine ACall.clo ⟨_, Tryd.func65, rfl, rfl⟩ fun hcl => ?_
    refine ACall.of_body (n := 51) (rs := [.tmp 4]) Tryd.func65 rfl rfl rfl (by decide) (by kernel_rfl) (by simp) ?_
    have hl0 : ¬ ((ms.length + 1 : Nat) : Int) = 0 := by omega
    have hrl := fun s => rowsL_len (s := s) (most := ms) fun c hc => (hcap' c hc).2
    have hp : 21 ^ ms.length ≤ 441 := by
      have : (21 : Nat) ^ ms.length ≤ 21 ^ 2 := Nat.pow_le_pow_right (by decide) hlen
      simpa using this
    simp (config := { maxSteps := 1000000 }) only [go_sem, Int.reduceToNat, Int.reduceLE, Int.reduceLT, Int.reduceAdd, Int.reduceSub, Int.reduceMul, Int.reduceEq, Int.reduceNe, Nat.reduceEqDiff, Nat.reducePow, Nat.reduceDiv, Nat.reduceMod, Nat.reduceAdd, Nat.reduceMul, Nat.reduceSub, Nat.reduceLT, Nat.reduceLeDiff, reduceIte, reduceCtorEq, hl0, appendA_U]
    let F : Int → List (List Int) := fun c => (rowsL (s - c) ms).map (c :: ·)
    have hFl : ∀ k : Nat, k ≤ 21 → ((cnt k).flatMap F).length ≤ 441 * k := by
      intro k
      induction k with
      | zero => intro _; simp [cnt]
      | succ k ihk =>
        intro hk
        have e : ((k + 1 : Nat) : Int) = (k : Int) + 1 := by omega
        rw [e, flatMap_cnt_succ, List.length_append]
        have := ihk (by omega)
        have h5 : (F k).length ≤ 441 := by simp only [F, List.length_map]; have := hrl (s - k); omega
        omega
    refine W.loop0 1125899906777568 (by rfl) (fun ρ H' => ∃ (k : Nat) (L : List Blk), H' = ext H L ∧ ρ 6 = lin k ∧ (k : Int) ≤ max 0 (min s m + 1) ∧ OwnV H L (ρ 5) ((cnt k).flatMap F)) (fun ρ H => 21 - (iv (ρ 6)).toNat) ?_ ?_
    · simp (config := { maxSteps := 1000000 }) only [go_sem, Int.reduceToNat, Int.reduceLE, Int.reduceLT, Int.reduceAdd, Int.reduceSub, Int.reduceMul, Int.reduceEq, Int.reduceNe, Nat.reduceEqDiff, Nat.reducePow, Nat.reduceDiv, Nat.reduceMod, Nat.reduceAdd, Nat.reduceMul, Nat.reduceSub, Nat.reduceLT, Nat.reduceLeDiff, reduceIte, reduceCtorEq, appendA_U]
      exact ⟨0, [], (ext_nil _).symm, rfl, by omega, by simpa [cnt] using OwnV.nil⟩
    rintro ρ H' ⟨k, L, rfl, h6, hk, h5⟩
    refine vc_sound _ _ _ (by rfl) ?_
    have hz0 : (0 : Int) < ((ms.length + 1 : Nat) : Int) := by omega
    by_cases hbs : (k : Int) ≤ s
    rotate_left
    · simp (config := { maxSteps := 1000000 }) only [go_sem, Int.reduceToNat, Int.reduceLE, Int.reduceLT, Int.reduceAdd, Int.reduceSub, Int.reduceMul, Int.reduceEq, Int.reduceNe, Nat.reduceEqDiff, Nat.reducePow, Nat.reduceDiv, Nat.reduceMod, Nat.reduceAdd, Nat.reduceMul, Nat.reduceSub, Nat.reduceLT, Nat.reduceLeDiff, reduceIte, reduceCtorEq, h6, hbs, appendA_U]
      have e : cnt (k : Int) = cnt (min s m + 1) := by simp only [cnt]; congr 2; omega
      rw [e] at h5
      exact FinV.drop G0_ok hcl (h5.fz fun i => by omega) hK
    by_cases hbm : (k : Int) ≤ m
    rotate_left
    · simp (config := { maxSteps := 1000000 }) only [go_sem, Int.reduceToNat, Int.reduceLE, Int.reduceLT, Int.reduceAdd, Int.reduceSub, Int.reduceMul, Int.reduceEq, Int.reduceNe, Nat.reduceEqDiff, Nat.reducePow, Nat.reduceDiv, Nat.reduceMod, Nat.reduceAdd, Nat.reduceMul, Nat.reduceSub, Nat.reduceLT, Nat.reduceLeDiff, reduceIte, reduceCtorEq, h6, hbs, hbm, hz0, appendA_U]
      have e : cnt (k : Int) = cnt (min s m + 1) := by simp only [cnt]; congr 2; omega
      rw [e] at h5
      exact FinV.drop G0_ok hcl (h5.fz fun i => by omega) hK
    have w1 := IntWalk.i64_in (s - k) (by omega)
    have w2 := IntWalk.i64_in ((k : Int) + 1) (by omega)
    simp (config := { maxSteps := 1000000 }) only [go_sem, Int.reduceToNat, Int.reduceLE, Int.reduceLT, Int.reduceAdd, Int.reduceSub, Int.reduceMul, Int.reduceEq, Int.reduceNe, Nat.reduceEqDiff, Nat.reducePow, Nat.reduceDiv, Nat.reduceMod, Nat.reduceAdd, Nat.reduceMul, Nat.reduceSub, Nat.reduceLT, Nat.reduceLeDiff, reduceIte, reduceCtorEq, h6, hbs, hbm, hz0, w1, appendA_U]
    repeat (refine And.intro (by first | omega | (simp; done) | (simp; omega) | (intros; omega) | exact ⟨rfl, by omega, by omega, all_one_ints _⟩) ?_)
    have ea : AVal.vec (ms.length + 1 - 1) (List.take (ms.length + 1 - 1) (List.drop 1 (ints (m :: ms)))) = vecI ms := by simp [vecI, ints, List.take_of_length_le]
    rw [ea]
    refine AApply.clo (ih (s - k) (by omega) (by omega) (by omega) hcap' _ _ ⟨trivial, ?_⟩)
    obtain ⟨R, hR⟩ : ∃ R, R = rowsL (s - k) ms := ⟨_, rfl⟩
    have hRl : R.length ≤ 441 := by have := hrl (s - k); rw [hR]; omega
    have hRm : ∀ r, r ∈ R → r.length ≤ 2 := fun r hr => by rw [hR] at hr; have := (mem_rowsL hr).1; omega
    rw [← hR]
    simp (config := { maxSteps := 1000000 }) only [go_sem, Int.reduceToNat, Int.reduceLE, Int.reduceLT, Int.reduceAdd, Int.reduceSub, Int.reduceMul, Int.reduceEq, Int.reduceNe, Nat.reduceEqDiff, Nat.reducePow, Nat.reduceDiv, Nat.reduceMod, Nat.reduceAdd, Nat.reduceMul, Nat.reduceSub, Nat.reduceLT, Nat.reduceLeDiff, reduceIte, reduceCtorEq, h6, vecV, appendA_U]
    have hk21 : k ≤ 20 := by omega
    have hFk := hFl k (by omega)
    refine W.loop0 1125882726973728 (by rfl) (fun ρ' H2 => ∃ (j : Nat) (L2 : List Blk), H2 = ext H L2 ∧ ρ' 8 = lin j ∧ j ≤ R.length ∧ OwnV H L2 (ρ' 5) ((cnt k).flatMap F ++ (R.take j).map ((k : Int) :: ·)) ∧ L.length ≤ L2.length) (fun ρ' H => R.length - (iv (ρ' 8)).toNat) ?_ ?_
    · simp (config := { maxSteps := 1000000 }) only [go_sem, Int.reduceToNat, Int.reduceLE, Int.reduceLT, Int.reduceAdd, Int.reduceSub, Int.reduceMul, Int.reduceEq, Int.reduceNe, Nat.reduceEqDiff, Nat.reducePow, Nat.reduceDiv, Nat.reduceMod, Nat.reduceAdd, Nat.reduceMul, Nat.reduceSub, Nat.reduceLT, Nat.reduceLeDiff, reduceIte, reduceCtorEq, appendA_U]
      exact ⟨0, L, rfl, rfl, by omega, by simpa using h5, Nat.le_refl _⟩
    rintro ρ' H2 ⟨j, L2, rfl, h8, hj, h5', hLL⟩
    refine vc_sound _ _ _ (by rfl) ?_
    by_cases hb2 : (j : Int) < R.length
    · obtain ⟨r, hrj⟩ : ∃ r, R[j]? = some r := ⟨_, List.getElem?_eq_getElem (by omega)⟩
      have hRn : ¬ R = [] := by rintro rfl; simp at hrj
      have hr2 := hRm r (List.mem_of_getElem? hrj)
      obtain ⟨v1, L3, hA, hO, hL3, hp3⟩ := app_vec (P := Tryd.prog) (H := H) (L := L2 ++ [.arr 0 3 [lin k]]) (t := 46) (src := ints r) (n := L2.length + 1) Tryd.underlying46 Tryd.cells3 Tryd.zero3 (all_one_ints r) (by rw [Tryd.bytes3]; simp [ints]; omega) OwnC.last (by simp) (by simp) (by simp)
      have hk3 : ∀ i, i < L2.length → L3[i]? = L2[i]? := fun i hi => by
        rw [hp3 i (by simp; omega) (fun g n he => by have := AVal.own.inj he; omega), List.getElem?_append_left hi]
      have h5b := h5'.low (L' := L3) (by simp at hL3; omega) hk3
      have hsmall : ((cnt (k : Int)).flatMap F ++ (R.take j).map ((k : Int) :: ·)).length < 2 ^ 40 := by
        rw [List.length_append, List.length_map, List.length_take]
        have : 441 * k ≤ 441 * 20 := Nat.mul_le_mul_left _ hk21
        omega
      obtain ⟨v2, L4, hA2, hO2, hL4⟩ := h5b.app (t := 26) Tryd.underlying26 Tryd.cells46 Tryd.zero46 Tryd.bytes46 hsmall (r := (k : Int) :: r) (hO.keep (Nat.zero_le _) (Nat.le_refl _) fun _ _ _ _ _ => rfl)
      have hcell := hO.cells
      have hone := hO.one
      have w3 := IntWalk.i64_in ((j : Int) + 1) (by omega)
      simp only [lin, List.length_cons, List.length_nil, ints_length] at hA
      simp (config := { maxSteps := 1000000 }) only [go_sem, Int.reduceToNat, Int.reduceLE, Int.reduceLT, Int.reduceAdd, Int.reduceSub, Int.reduceMul, Int.reduceEq, Int.reduceNe, Nat.reduceEqDiff, Nat.reducePow, Nat.reduceDiv, Nat.reduceMod, Nat.reduceAdd, Nat.reduceMul, Nat.reduceSub, Nat.reduceLT, Nat.reduceLeDiff, reduceIte, reduceCtorEq, h6, h8, hb2, hrj, hRn, hA, hA2, hcell, hone, w3]
      have hL3' : L2.length + 1 ≤ L3.length := by simpa using hL3
      have et : (R.take (j + 1)).map ((k : Int) :: ·) = (R.take j).map ((k : Int) :: ·) ++ [(k : Int) :: r] := by rw [take_succ_of hrj]; simp
      exact ⟨by omega, ⟨j + 1, L4, rfl, by simp, by omega, by rw [et, ← List.append_assoc]; exact hO2, by omega⟩, by omega⟩
    · have hje : R.take j = R := List.take_of_length_le (by omega)
      rw [hje] at h5'
      simp (config := { maxSteps := 1000000 }) only [go_sem, Int.reduceToNat, Int.reduceLE, Int.reduceLT, Int.reduceAdd, Int.reduceSub, Int.reduceMul, Int.reduceEq, Int.reduceNe, Nat.reduceEqDiff, Nat.reducePow, Nat.reduceDiv, Nat.reduceMod, Nat.reduceAdd, Nat.reduceMul, Nat.reduceSub, Nat.reduceLT, Nat.reduceLeDiff, reduceIte, reduceCtorEq, h6, h8, hb2, w2, appendA_U]
      have e : (cnt (k + 1 : Int)).flatMap F = (cnt k).flatMap F ++ R.map ((k : Int) :: ·) := by rw [flatMap_cnt_succ, hR]
      exact ⟨by omega, ⟨k + 1, L2, rfl, by simp, by omega, by rw [show ((k + 1 : Nat) : Int) = (k : Int) + 1 by omega, e]; exact h5'⟩, by omega⟩
end Go.Proofs
set_option linter.unusedSimpArgs false
namespace Go.Proofs
open Go.Hx

theorem over_app {H Hc H' : AHeap} (ho : Over H Hc) (hn : Hc.next ≤ H'.next) (hp : ∀ k, k < Hc.next → k < H.next → H'.get k = Hc.get k) : Over H H' :=
  ⟨Nat.le_trans ho.next hn, fun id h => (hp id (Nat.lt_of_lt_of_le h ho.next) h).trans (ho.old id h)⟩
theorem vecT_fz {S : Nat → Prop} {lo nx : Nat} {H : AHeap} {v : AVal} {l : List (List (List Int))} (h : OwnG2 lo H 26 46 v (l.map fun t => t.map vecI)) (hS : ∀ i, lo ≤ i → S i) : Fz S H nx v (vecT l) := by
  have := h.fz (S := S) (nx := nx) (rows' := l.map fun t => t.map vecI) hS rfl fun j r r' hr hr' => by
    rw [hr] at hr'; cases hr'
    rw [List.getElem?_map] at hr
    cases hl : l[j]? with
    | none => rw [hl] at hr; cases hr
    | some t =>
      rw [hl] at hr; cases hr
      exact ⟨rfl, fun i h _ => by simp only [List.getElem_map]; exact .keepInts _⟩
  rw [List.length_map, List.map_map] at this
  have e : l.map vecV = l.map ((fun r : List AVal => AVal.vec r.length r) ∘ fun t => t.map vecI) := List.map_congr_left fun t _ => by simp [vecV]
  unfold vecT
  rw [e]
  exact this
theorem flatMap_take_succ {α β : Type} {l : List α} {k : Nat} {a : α} (f : α → List β) (h : l[k]? = some a) : (l.take (k + 1)).flatMap f = (l.take k).flatMap f ++ f a := by
  rw [take_succ_of h, List.flatMap_append]; simp

theorem tables_spec : ∀ (ss cols : List Int), ss.length ≤ 3 → (∀ s, s ∈ ss → 0 ≤ s ∧ s ≤ 60) → Cap cols → cols.length ≤ 3 → ∀ (H : AHeap) (K : ARes → AHeap → Prop), K (.ret (vecT (tablesL ss cols))) H → ACall Tryd.prog G0 49 [vecI ss, vecI cols] H K := by
  intro ss
  induction ss with
  | nil =>
    intro cols _ _ hcap hcl3 H K hK
    refine ACall.clo ⟨_, Tryd.func49, rfl, rfl⟩ fun hcl => ?_
    refine ACall.of_body (n := 85) (rs := [.tmp 4]) Tryd.func49 rfl rfl rfl (by decide) (by kernel_rfl) (by simp) ?_
    simp (config := { maxSteps := 1000000 }) only [go_sem, Int.reduceToNat, Int.reduceLE, Int.reduceLT, Int.reduceAdd, Int.reduceSub, Int.reduceMul, Int.reduceEq, Int.reduceNe, Nat.reduceEqDiff, Nat.reducePow, Nat.reduceDiv, Nat.reduceMod, Nat.reduceAdd, Nat.reduceMul, Nat.reduceSub, Nat.reduceLT, Nat.reduceLeDiff, reduceIte, reduceCtorEq, appendA_U]
    refine W.loop0 134152240 (by rfl) (fun ρ H' => H' = H ∧ ∃ k : Nat, ρ 5 = lin k ∧ k ≤ cols.length ∧ ∀ c, c ∈ cols.take k → c = 0) (fun ρ H => cols.length - (iv (ρ 5)).toNat) ?_ ?_
    · simp (config := { maxSteps := 1000000 }) only [go_sem, Int.reduceToNat, Int.reduceLE, Int.reduceLT, Int.reduceAdd, Int.reduceSub, Int.reduceMul, Int.reduceEq, Int.reduceNe, Nat.reduceEqDiff, Nat.reducePow, Nat.reduceDiv, Nat.reduceMod, Nat.reduceAdd, Nat.reduceMul, Nat.reduceSub, Nat.reduceLT, Nat.reduceLeDiff, reduceIte, reduceCtorEq, appendA_U]
      exact ⟨0, rfl, by omega, fun c hc => by simp at hc⟩
    rintro ρ H' ⟨rfl, k, h5, hk, hall⟩
    refine vc_sound _ _ _ (by rfl) ?_
    by_cases hb : (k : Int) < cols.length
    · obtain ⟨c, hc⟩ : ∃ c, cols[k]? = some c := ⟨_, List.getElem?_eq_getElem (by omega)⟩
      have hne : ¬ cols = [] := by rintro rfl; simp at hc
      by_cases h0 : c = 0
      · have w1 := IntWalk.i64_in ((k : Int) + 1) (by omega)
        simp (config := { maxSteps := 1000000 }) only [go_sem, Int.reduceToNat, Int.reduceLE, Int.reduceLT, Int.reduceAdd, Int.reduceSub, Int.reduceMul, Int.reduceEq, Int.reduceNe, Nat.reduceEqDiff, Nat.reducePow, Nat.reduceDiv, Nat.reduceMod, Nat.reduceAdd, Nat.reduceMul, Nat.reduceSub, Nat.reduceLT, Nat.reduceLeDiff, reduceIte, reduceCtorEq, h5, hb, hc, hne, h0, w1, appendA_U]
        exact ⟨⟨k + 1, by simp, by omega, fun d hd => by
          rw [take_succ_of hc] at hd
          rcases List.mem_append.1 hd with h | h
          · exact hall d h
          · rw [List.mem_singleton.1 h, h0]⟩, by omega⟩
      · simp (config := { maxSteps := 1000000 }) only [go_sem, Int.reduceToNat, Int.reduceLE, Int.reduceLT, Int.reduceAdd, Int.reduceSub, Int.reduceMul, Int.reduceEq, Int.reduceNe, Nat.reduceEqDiff, Nat.reducePow, Nat.reduceDiv, Nat.reduceMod, Nat.reduceAdd, Nat.reduceMul, Nat.reduceSub, Nat.reduceLT, Nat.reduceLeDiff, reduceIte, reduceCtorEq, h5, hb, hc, hne, h0, appendA_U]
        have e : tablesL [] cols = [] := by
          simp only [tablesL]
          rw [if_neg]
          intro h
          have := List.all_eq_true.1 h c (List.mem_of_getElem? hc)
          simp at this; exact h0 this
        rw [e] at hK
        exact FinV.drop0 (v' := vecT []) G0_ok hcl .nil hK
    · have e : tablesL [] cols = [[]] := by
        rw [List.take_of_length_le (by omega)] at hall
        simp only [tablesL]
        rw [if_pos (List.all_eq_true.2 fun c hc => by simpa using hall c hc)]
      rw [e] at hK
      simp (config := { maxSteps := 1000000 }) only [go_sem, Int.reduceToNat, Int.reduceLE, Int.reduceLT, Int.reduceAdd, Int.reduceSub, Int.reduceMul, Int.reduceEq, Int.reduceNe, Nat.reduceEqDiff, Nat.reducePow, Nat.reduceDiv, Nat.reduceMod, Nat.reduceAdd, Nat.reduceMul, Nat.reduceSub, Nat.reduceLT, Nat.reduceLeDiff, reduceIte, reduceCtorEq, h5, hb, appendA_U]
      refine FinV.drop (v' := vecT [[]]) G0_ok hcl ?_ hK
      refine .frz (cells := [.own H'.next 0 0 0 1]) (g := 0) (e := 26) (by omega) (get_ext H' _ 1 (by simp)) rfl fun i hi h2 h' => ?_
      obtain rfl : i = 0 := by simp at hi; omega
      exact .frz (cells := []) (g := 0) (e := 46) (by omega) (get_ext0 ..) rfl fun i hi => absurd hi (by simp)
  | cons s ss ih =>
    intro cols hl3 hss hcap hc3 H K hK
    have hs0 := hss s (by simp)
    refine ACall.clo ⟨_, Tryd.func49, rfl, rfl⟩ fun hcl => ?_
    refine ACall.of_body (n := 85) (rs := [.tmp 4]) Tryd.func49 rfl rfl rfl (by decide) (by kernel_rfl) (by simp) ?_
    have hl0 : ¬ ((ss.length + 1 : Nat) : Int) = 0 := by omega
    have hz0 : (0 : Int) < ((ss.length + 1 : Nat) : Int) := by omega
    simp (config := { maxSteps := 1000000 }) only [go_sem, Int.reduceToNat, Int.reduceLE, Int.reduceLT, Int.reduceAdd, Int.reduceSub, Int.reduceMul, Int.reduceEq, Int.reduceNe, Nat.reduceEqDiff, Nat.reducePow, Nat.reduceDiv, Nat.reduceMod, Nat.reduceAdd, Nat.reduceMul, Nat.reduceSub, Nat.reduceLT, Nat.reduceLeDiff, reduceIte, reduceCtorEq, hl0, hz0, appendA_U]
    refine AApply.clo (rows_spec cols s (by omega) (by omega) hc3 hcap _ _ ⟨trivial, ?_⟩)
    obtain ⟨F, hF⟩ : ∃ F, F = rowsL s cols := ⟨_, rfl⟩
    have hFl : F.length ≤ 9261 := by
      have := rowsL_len (s := s) (most := cols) fun c hc => (hcap c hc).2
      have h5 : 21 ^ cols.length ≤ 9261 := by
        have : (21 : Nat) ^ cols.length ≤ 21 ^ 3 := Nat.pow_le_pow_right (by decide) hc3
        simpa using this
      rw [hF]; omega
    have hFm : ∀ r, r ∈ F → r ∈ rowsL s cols := fun r h => hF ▸ h
    let T : List Int → List (List (List Int)) := fun r => (tablesL ss (subL cols r)).map (r :: ·)
    have hTl : ∀ r, r ∈ F → (T r).length ≤ 9261 ^ 2 := fun r hr => by
      have h1 := tablesL_len (ss := ss) (hcap.sub (hFm r hr)) (by rw [subL_len (mem_rowsL (hFm r hr)).1]; exact hc3)
      have h2 : 9261 ^ ss.length ≤ 9261 ^ 2 := Nat.pow_le_pow_right (by decide) (by simpa using hl3)
      simp only [T, List.length_map]; omega
    have hTT : ∀ i, ((F.take i).flatMap T).length ≤ 9261 ^ 2 * i := by
      intro i
      induction i with
      | zero => simp
      | succ i ihi =>
        cases hi : F[i]? with
        | none =>
          have : F.take (i + 1) = F.take i := by rw [List.take_add_one, hi]; simp
          rw [this]; omega
        | some a =>
          rw [flatMap_take_succ T hi, List.length_append]
          have := hTl a (List.mem_of_getElem? hi)
          omega
    rw [← hF]
    simp (config := { maxSteps := 1000000 }) only [go_sem, Int.reduceToNat, Int.reduceLE, Int.reduceLT, Int.reduceAdd, Int.reduceSub, Int.reduceMul, Int.reduceEq, Int.reduceNe, Nat.reduceEqDiff, Nat.reducePow, Nat.reduceDiv, Nat.reduceMod, Nat.reduceAdd, Nat.reduceMul, Nat.reduceSub, Nat.reduceLT, Nat.reduceLeDiff, reduceIte, reduceCtorEq, vecV, appendA_U]
    refine W.loop0 19342813113834049615437632 (by rfl) (fun ρ Hc => ∃ i : Nat, ρ 8 = lin i ∧ i ≤ F.length ∧ Over H Hc ∧ OwnG2 H.next Hc 26 46 (ρ 6) (((F.take i).flatMap T).map fun t => t.map vecI)) (fun ρ H => F.length - (iv (ρ 8)).toNat) ?_ ?_
    · simp (config := { maxSteps := 1000000 }) only [go_sem, Int.reduceToNat, Int.reduceLE, Int.reduceLT, Int.reduceAdd, Int.reduceSub, Int.reduceMul, Int.reduceEq, Int.reduceNe, Nat.reduceEqDiff, Nat.reducePow, Nat.reduceDiv, Nat.reduceMod, Nat.reduceAdd, Nat.reduceMul, Nat.reduceSub, Nat.reduceLT, Nat.reduceLeDiff, reduceIte, reduceCtorEq, appendA_U]
      exact ⟨0, rfl, by omega, .refl _, by simpa using OwnG2.nil⟩
    rintro ρ Hc ⟨i, h8, hi, hov, h6⟩
    refine vc_sound _ _ _ (by rfl) ?_
    by_cases hb : (i : Int) < F.length
    rotate_left
    · simp (config := { maxSteps := 1000000 }) only [go_sem, Int.reduceToNat, Int.reduceLE, Int.reduceLT, Int.reduceAdd, Int.reduceSub, Int.reduceMul, Int.reduceEq, Int.reduceNe, Nat.reduceEqDiff, Nat.reducePow, Nat.reduceDiv, Nat.reduceMod, Nat.reduceAdd, Nat.reduceMul, Nat.reduceSub, Nat.reduceLT, Nat.reduceLeDiff, reduceIte, reduceCtorEq, h8, hb, appendA_U]
      have e : F.take i = F := List.take_of_length_le (by omega)
      rw [e] at h6
      refine FinV.dropO G0_ok hcl hov (vecT_fz h6 fun i h => h) ?_
      have : tablesL (s :: ss) cols = F.flatMap T := by simp only [tablesL, hF]; rfl
      rw [← this]; exact hK
    obtain ⟨r, hri⟩ : ∃ r, F[i]? = some r := ⟨_, List.getElem?_eq_getElem (by omega)⟩
    have hFn : ¬ F = [] := by rintro rfl; simp at hri
    have hrF := List.mem_of_getElem? hri
    obtain ⟨m1, m2, m3, m4⟩ := mem_rowsL (hFm r hrF)
    simp (config := { maxSteps := 1000000 }) only [go_sem, Int.reduceToNat, Int.reduceLE, Int.reduceLT, Int.reduceAdd, Int.reduceSub, Int.reduceMul, Int.reduceEq, Int.reduceNe, Nat.reduceEqDiff, Nat.reducePow, Nat.reduceDiv, Nat.reduceMod, Nat.reduceAdd, Nat.reduceMul, Nat.reduceSub, Nat.reduceLT, Nat.reduceLeDiff, reduceIte, reduceCtorEq, h8, hb, appendA_U]
    refine W.loop0 2305841909702067712 (by rfl) (fun ρ' H2 => ∃ j : Nat, ρ' 10 = lin j ∧ j ≤ cols.length ∧ Over Hc H2 ∧ OwnG Hc.next H2 3 (ρ' 9) (ints ((subL cols r).take j))) (fun ρ' H => cols.length - (iv (ρ' 10)).toNat) ?_ ?_
    · simp (config := { maxSteps := 1000000 }) only [go_sem, Int.reduceToNat, Int.reduceLE, Int.reduceLT, Int.reduceAdd, Int.reduceSub, Int.reduceMul, Int.reduceEq, Int.reduceNe, Nat.reduceEqDiff, Nat.reducePow, Nat.reduceDiv, Nat.reduceMod, Nat.reduceAdd, Nat.reduceMul, Nat.reduceSub, Nat.reduceLT, Nat.reduceLeDiff, reduceIte, reduceCtorEq, appendA_U]
      exact ⟨0, rfl, by omega, .refl _, .nil⟩
    rintro ρ' H2 ⟨j, h10, hj, hov2, h9⟩
    refine vc_sound _ _ _ (by rfl) ?_
    by_cases hb2 : (j : Int) < cols.length
    · obtain ⟨c, hc⟩ : ∃ c, cols[j]? = some c := ⟨_, List.getElem?_eq_getElem (by omega)⟩
      obtain ⟨d, hd⟩ : ∃ d, r[j]? = some d := ⟨_, List.getElem?_eq_getElem (by omega)⟩
      have hcn : ¬ cols = [] := by rintro rfl; simp at hc
      have hdn : ¬ r = [] := by rintro rfl; simp at hd
      have hb3 : (j : Int) < r.length := by omega
      have hc0 := hcap c (List.mem_of_getElem? hc)
      have hd0 := m3 d (List.mem_of_getElem? hd)
      have hdc : d ≤ c := by have := m4 j (by omega); rwa [getD_some hc, getD_some hd] at this
      have w1 := IntWalk.i64_in (c - d) (by omega)
      have w2 := IntWalk.i64_in ((j : Int) + 1) (by omega)
      obtain ⟨v', H', hA, hO, hn, hp⟩ := app_oneG (P := Tryd.prog) (H := H2) (t := 46) (x := lin (c - d)) (n := H2.next + 1) Tryd.underlying46 Tryd.cells3 Tryd.zero3 rfl (by rw [Tryd.bytes3]; simp [ints]; omega) h9 hov2.next rfl
      simp only [lin] at hA
      simp (config := { maxSteps := 1000000 }) only [go_sem, Int.reduceToNat, Int.reduceLE, Int.reduceLT, Int.reduceAdd, Int.reduceSub, Int.reduceMul, Int.reduceEq, Int.reduceNe, Nat.reduceEqDiff, Nat.reducePow, Nat.reduceDiv, Nat.reduceMod, Nat.reduceAdd, Nat.reduceMul, Nat.reduceSub, Nat.reduceLT, Nat.reduceLeDiff, reduceIte, reduceCtorEq, h8, h10, hb2, appendA_U]
      refine W.draw 14 [0, 0, 0, 6, 14, 0, 0, 96, 224, 0, 992, 2016, 4094, 8190] Tryd.mixed (by kernel_rfl) (by kernel_rfl) ?_
      simp (config := { maxSteps := 1000000 }) only [go_sem, Int.reduceToNat, Int.reduceLE, Int.reduceLT, Int.reduceAdd, Int.reduceSub, Int.reduceMul, Int.reduceEq, Int.reduceNe, Nat.reduceEqDiff, Nat.reducePow, Nat.reduceDiv, Nat.reduceMod, Nat.reduceAdd, Nat.reduceMul, Nat.reduceSub, Nat.reduceLT, Nat.reduceLeDiff, reduceIte, reduceCtorEq, h8, h10, hb, hb2, hb3, hc, hd, hcn, hdn, hri, hFn, w1, w2, hA]
      have hs : (subL cols r)[j]? = some (c - d) := by simp [subL, List.getElem?_zipWith, hc, hd]
      have hovc : Over Hc H' := ⟨by have := hov2.next; omega, fun id h => by
        rw [hp id (by have := hov2.next; omega) fun g n he => ?_, hov2.old id h]
        rcases h9 with ⟨h9, _⟩ | ⟨i2, g2, a1, _, h9, _⟩
        · rw [h9] at he; cases he
        · rw [h9] at he; have := AVal.own.inj he; omega⟩
      refine ⟨hovc.next, ⟨j + 1, by simp, by omega, hovc, ?_⟩, by omega⟩
      have e : ints ((subL cols r).take (j + 1)) = ints ((subL cols r).take j) ++ [lin (c - d)] := by rw [take_succ_of hs]; simp [ints]
      rw [e]
      exact hO
    · have e : (subL cols r).take j = subL cols r := List.take_of_length_le (by rw [subL_len m1]; omega)
      rw [e] at h9
      simp (config := { maxSteps := 1000000 }) only [go_sem, Int.reduceToNat, Int.reduceLE, Int.reduceLT, Int.reduceAdd, Int.reduceSub, Int.reduceMul, Int.reduceEq, Int.reduceNe, Nat.reduceEqDiff, Nat.reducePow, Nat.reduceDiv, Nat.reduceMod, Nat.reduceAdd, Nat.reduceMul, Nat.reduceSub, Nat.reduceLT, Nat.reduceLeDiff, reduceIte, reduceCtorEq, h8, h10, hb, hb2, hz0, appendA_U]
      repeat (refine And.intro (by first | omega | (simp; done) | (simp; omega) | (intros; omega) | exact ⟨rfl, by omega, by omega, all_one_ints _⟩) ?_)
      have ea : AVal.vec (ss.length + 1 - 1) (List.take (ss.length + 1 - 1) (List.drop 1 (ints (s :: ss)))) = vecI ss := by simp [vecI, ints, List.take_of_length_le]
      rw [ea]
      refine AApply.cutArgs Hc.next (args' := [vecI ss, vecI (subL cols r)]) G0_ok rfl (fun i h h' => ?_) (ih (subL cols r) (by simp at hl3; omega) (fun s hs => hss s (by simp [hs])) (hcap.sub (hFm r hrF)) (by rw [subL_len m1]; exact hc3) _ _ ⟨trivial, ?_⟩)
      · match i, h with
        | 0, _ => exact .keepInts _
        | 1, _ => exact h9.fzI fun i h => h
      obtain ⟨LT, hLT⟩ : ∃ LT, LT = tablesL ss (subL cols r) := ⟨_, rfl⟩
      have hLTl : LT.length ≤ 9261 ^ 2 := by have := hTl r hrF; simp only [T, List.length_map] at this; rw [hLT]; exact this
      have hT0 := hTT i
      have hi2 : i ≤ 9260 := by omega
      have hLTm : ∀ t, t ∈ LT → t.length ≤ 3 := by
        intro t ht
        rw [hLT] at ht
        have : ∀ (ss cols : List Int) t, t ∈ tablesL ss cols → t.length = ss.length := by
          intro ss
          induction ss with
          | nil => intro cols t ht; simp only [tablesL] at ht; split at ht <;> simp at ht; simp [ht]
          | cons s ss ih =>
            intro cols t ht
            simp only [tablesL, List.mem_flatMap, List.mem_map] at ht
            obtain ⟨r, _, t', h1, rfl⟩ := ht
            simp [ih _ _ h1]
        have := this _ _ _ ht
        simp at hl3; omega
      rw [← hLT]
      have hov3 : Over H (H2.cut Hc.next) := hov.trans (Over.cut hov2)
      have h6' : OwnG2 H.next (H2.cut Hc.next) 26 46 (ρ 6) (((F.take i).flatMap T).map fun t => t.map vecI) := h6.over (Over.cut hov2)
      have hle := (Over.cut hov2).next
      simp (config := { maxSteps := 1000000 }) only [go_sem, Int.reduceToNat, Int.reduceLE, Int.reduceLT, Int.reduceAdd, Int.reduceSub, Int.reduceMul, Int.reduceEq, Int.reduceNe, Nat.reduceEqDiff, Nat.reducePow, Nat.reduceDiv, Nat.reduceMod, Nat.reduceAdd, Nat.reduceMul, Nat.reduceSub, Nat.reduceLT, Nat.reduceLeDiff, reduceIte, reduceCtorEq, h8, vecT, appendA_U]
      refine W.loop0 19342776220345919376199744 (by rfl) (fun ρ'' H3 => ∃ k : Nat, ρ'' 12 = lin k ∧ k ≤ LT.length ∧ Over H H3 ∧ (H2.cut Hc.next).next ≤ H3.next ∧ OwnG2 H.next H3 26 46 (ρ'' 6) ((((F.take i).flatMap T) ++ (LT.take k).map (r :: ·)).map fun t => t.map vecI)) (fun ρ'' H => LT.length - (iv (ρ'' 12)).toNat) ?_ ?_
      · simp (config := { maxSteps := 1000000 }) only [go_sem, Int.reduceToNat, Int.reduceLE, Int.reduceLT, Int.reduceAdd, Int.reduceSub, Int.reduceMul, Int.reduceEq, Int.reduceNe, Nat.reduceEqDiff, Nat.reducePow, Nat.reduceDiv, Nat.reduceMod, Nat.reduceAdd, Nat.reduceMul, Nat.reduceSub, Nat.reduceLT, Nat.reduceLeDiff, reduceIte, reduceCtorEq, appendA_U]
        exact ⟨0, rfl, by omega, hov3, by simpa using h6'⟩
      rintro ρ'' H3 ⟨k, h12, hk, hov4, hle4, h6''⟩
      refine vc_sound _ _ _ (by rfl) ?_
      by_cases hb3 : (k : Int) < LT.length
      · obtain ⟨t, htk⟩ : ∃ t, LT[k]? = some t := ⟨_, List.getElem?_eq_getElem (by omega)⟩
        have hLn : ¬ LT = [] := by rintro rfl; simp at htk
        have ht3 := hLTm t (List.mem_of_getElem? htk)
        have w3 := IntWalk.i64_in ((k : Int) + 1) (by omega)
        obtain ⟨v1, H5, hA, hO, hn5, hp5⟩ := app_vecG (P := Tryd.prog) (H := ext H3 [.arr 0 46 [vecI r]]) (t := 26) (src := t.map vecI) (n := H3.next + 1) Tryd.underlying26 Tryd.cells46 Tryd.zero46 (by simp [vecI, AVal.one]) (by rw [Tryd.bytes46]; simp; omega) OwnG.new (by simp [ext_next]) rfl
        have hov5 : Over H3 H5 := ⟨by simp [ext_next] at hn5; omega, fun id h => by
          rw [hp5 id (by simp [ext_next]; omega) fun g n he => (by have := AVal.own.inj he; omega), ext1_get_old h]⟩
        have hbig : (((F.take i).flatMap T ++ (LT.take k).map (r :: ·)).map fun t => t.map vecI).length < 2 ^ 40 := by
          rw [List.length_map, List.length_append, List.length_map, List.length_take]
          have : 9261 ^ 2 * i ≤ 9261 ^ 2 * 9260 := Nat.mul_le_mul_left _ hi2
          omega
        obtain ⟨v2, H6, hA2, hO2, hn6, hp6⟩ := (h6''.over hov5).app (P := Tryd.prog) (t := 31) (x := v1) (n := H5.next + 1) Tryd.underlying31 Tryd.cells26 Tryd.zero26 Tryd.bytes26 (by decide) hbig (hov4.trans hov5).next (hO.keep hov4.next (Nat.le_refl _) fun _ _ _ _ _ _ => rfl) rfl
        have hcell := hO.cells
        have hone := hO.one
        simp only [vecI, List.length_map, List.length_cons, List.length_nil] at hA
        simp (config := { maxSteps := 1000000 }) only [go_sem, Int.reduceToNat, Int.reduceLE, Int.reduceLT, Int.reduceAdd, Int.reduceSub, Int.reduceMul, Int.reduceEq, Int.reduceNe, Nat.reduceEqDiff, Nat.reducePow, Nat.reduceDiv, Nat.reduceMod, Nat.reduceAdd, Nat.reduceMul, Nat.reduceSub, Nat.reduceLT, Nat.reduceLeDiff, reduceIte, reduceCtorEq, h8, h12, hb, hb3, appendA_U]
        refine W.draw 12 [0, 0, 0, 6, 14, 30, 0, 0, 192, 448, 1022, 2046] Tryd.mixed (by kernel_rfl) (by kernel_rfl) ?_
        simp (config := { maxSteps := 1000000 }) only [go_sem, Int.reduceToNat, Int.reduceLE, Int.reduceLT, Int.reduceAdd, Int.reduceSub, Int.reduceMul, Int.reduceEq, Int.reduceNe, Nat.reduceEqDiff, Nat.reducePow, Nat.reduceDiv, Nat.reduceMod, Nat.reduceAdd, Nat.reduceMul, Nat.reduceSub, Nat.reduceLT, Nat.reduceLeDiff, reduceIte, reduceCtorEq, h8, h12, hb, hb3, hri, hFn, htk, hLn, hA, hA2, hcell, hone, w3, vecV]
        have hov6 : Over H H6 := over_app (hov4.trans hov5) hn6 hp6
        have h35 := hov5.next
        refine ⟨by omega, ⟨k + 1, by simp, by omega, hov6, by omega, ?_⟩, by omega⟩
        have e : ((F.take i).flatMap T ++ (LT.take (k + 1)).map (r :: ·)).map (fun t => t.map vecI) = ((F.take i).flatMap T ++ (LT.take k).map (r :: ·)).map (fun t => t.map vecI) ++ [vecI r :: t.map vecI] := by
          rw [take_succ_of htk]; simp
        rw [e]
        exact hO2
      · have e2 : LT.take k = LT := List.take_of_length_le (by omega)
        rw [e2] at h6''
        have w4 := IntWalk.i64_in ((i : Int) + 1) (by omega)
        simp (config := { maxSteps := 1000000 }) only [go_sem, Int.reduceToNat, Int.reduceLE, Int.reduceLT, Int.reduceAdd, Int.reduceSub, Int.reduceMul, Int.reduceEq, Int.reduceNe, Nat.reduceEqDiff, Nat.reducePow, Nat.reduceDiv, Nat.reduceMod, Nat.reduceAdd, Nat.reduceMul, Nat.reduceSub, Nat.reduceLT, Nat.reduceLeDiff, reduceIte, reduceCtorEq, h8, h12, hb3, w4, appendA_U]
        refine ⟨hov4.next, ⟨i + 1, by simp, by omega, hov4, ?_⟩, by omega⟩
        rw [flatMap_take_succ T hri]
        have : T r = LT.map (r :: ·) := by simp only [T, hLT]
        rw [this]
        exact h6''
end Go.Proofs
set_option linter.unusedSimpArgs false
namespace Go.Proofs
open Go.Hx

/-! ### how many ways a table has, and all tables together -/
def ch : Nat → Nat → Nat
  | _, 0 => 1
  | 0, _ + 1 => 0
  | n + 1, k + 1 => ch n k + ch n (k + 1)
theorem ch_zero (n : Nat) : ch n 0 = 1 := by cases n <;> rfl
theorem ch_big : ∀ {n k : Nat}, n < k → ch n k = 0
  | 0, k + 1, _ => rfl
  | n + 1, k + 1, h => by simp only [ch]; rw [ch_big (by omega), ch_big (by omega)]
theorem ch_self (n : Nat) : ch n n = 1 := by
  induction n with
  | zero => rfl
  | succ n ih => simp only [ch]; rw [ih, ch_big (by omega)]
def fac : Nat → Nat
  | 0 => 1
  | n + 1 => fac n * (n + 1)
theorem fact_fac (n : Nat) : fact n = (fac n : Int) := by
  induction n with
  | zero => rfl
  | succ n ih => simp only [fact, fac, ih, Int.natCast_mul]
theorem fac_pos (n : Nat) : 0 < fac n := by
  induction n with
  | zero => decide
  | succ n ih => simp only [fac]; exact Nat.mul_pos ih (by omega)
theorem ch_fac : ∀ (k a b : Nat), a + b = k → ch (a + b) a * (fac a * fac b) = fac (a + b) := by
  intro k
  induction k with
  | zero => intro a b h; obtain rfl : a = 0 := by omega
            obtain rfl : b = 0 := by omega
            rfl
  | succ k ih =>
    intro a b h
    cases a with
    | zero => simp only [Nat.zero_add, ch_zero, fac, Nat.one_mul]
    | succ a =>
      cases b with
      | zero => simp only [Nat.add_zero, ch_self, fac, Nat.one_mul, Nat.mul_one]
      | succ b =>
        have h1 := ih a (b + 1) (by omega)
        have h2 := ih (a + 1) b (by omega)
        have e : a + 1 + (b + 1) = (a + b + 1) + 1 := by omega
        have e1 : a + (b + 1) = a + b + 1 := by omega
        have e2 : a + 1 + b = a + b + 1 := by omega
        rw [e1] at h1
        rw [e2] at h2
        rw [e]
        have hch : ch (a + b + 1 + 1) (a + 1) = ch (a + b + 1) a + ch (a + b + 1) (a + 1) := rfl
        rw [hch, Nat.add_mul]
        have f1 : ch (a + b + 1) a * (fac (a + 1) * fac (b + 1)) = fac (a + b + 1) * (a + 1) := by
          rw [← h1]
          have : fac (a + 1) = fac a * (a + 1) := rfl
          rw [this]; ac_rfl
        have f2 : ch (a + b + 1) (a + 1) * (fac (a + 1) * fac (b + 1)) = fac (a + b + 1) * (b + 1) := by
          rw [← h2]
          have : fac (b + 1) = fac b * (b + 1) := rfl
          rw [this]; ac_rfl
        rw [f1, f2, ← Nat.mul_add]
        have : fac (a + b + 1 + 1) = fac (a + b + 1) * (a + b + 1 + 1) := rfl
        rw [this]; congr 1
def sumTo (f : Nat → Nat) : Nat → Nat
  | 0 => f 0
  | k + 1 => sumTo f k + f (k + 1)
theorem sumTo_shift (f : Nat → Nat) (k : Nat) : sumTo f (k + 1) = f 0 + sumTo (fun c => f (c + 1)) k := by
  induction k with
  | zero => rfl
  | succ k ih =>
    have : sumTo f (k + 1 + 1) = sumTo f (k + 1) + f (k + 1 + 1) := rfl
    rw [this, ih]
    simp only [sumTo]; omega
theorem sumTo_add (f g : Nat → Nat) (k : Nat) : sumTo (fun c => f c + g c) k = sumTo f k + sumTo g k := by
  induction k with
  | zero => rfl
  | succ k ih => simp only [sumTo, ih]; omega
theorem sumTo_congr {f g : Nat → Nat} {k : Nat} (h : ∀ c, c ≤ k → f c = g c) : sumTo f k = sumTo g k := by
  induction k with
  | zero => exact h 0 (Nat.le_refl _)
  | succ k ih => simp only [sumTo]; rw [ih fun c hc => h c (by omega), h (k + 1) (Nat.le_refl _)]
theorem sumTo_zero {f : Nat → Nat} {k : Nat} (h : ∀ c, c ≤ k → f c = 0) : sumTo f k = 0 := by
  induction k with
  | zero => exact h 0 (Nat.le_refl _)
  | succ k ih => simp only [sumTo]; rw [ih fun c hc => h c (by omega), h (k + 1) (Nat.le_refl _)]
theorem vand : ∀ (m n r : Nat), sumTo (fun c => ch m c * ch n (r - c)) r = ch (m + n) r := by
  intro m
  induction m with
  | zero =>
    intro n r
    cases r with
    | zero => simp [sumTo, ch_zero]
    | succ r =>
      rw [sumTo_shift, sumTo_zero fun c _ => by simp [ch]]
      simp [ch_zero]
  | succ m ih =>
    intro n r
    cases r with
    | zero => simp [sumTo, ch_zero]
    | succ r =>
      rw [sumTo_shift]
      have e : (fun c => ch (m + 1) (c + 1) * ch n (r + 1 - (c + 1))) = fun c => ch m c * ch n (r - c) + ch m (c + 1) * ch n (r + 1 - (c + 1)) := by
        funext c
        have : r + 1 - (c + 1) = r - c := by omega
        simp only [ch, this, Nat.add_mul]
      rw [e, sumTo_add, ih n r]
      have h2 := ih n (r + 1)
      rw [sumTo_shift] at h2
      have e3 : m + 1 + n = (m + n) + 1 := by omega
      rw [e3]
      simp only [ch, ch_zero] at h2 ⊢
      omega
theorem sumTo_trunc {f : Nat → Nat} {k m : Nat} (hm : m ≤ k) (h : ∀ c, m < c → c ≤ k → f c = 0) : sumTo f k = sumTo f m := by
  induction k with
  | zero => obtain rfl : m = 0 := by omega
            rfl
  | succ k ih =>
    by_cases hk : m = k + 1
    · subst hk; rfl
    · simp only [sumTo]
      rw [h (k + 1) (by omega) (by omega), ih (by omega) fun c h1 h2 => h c h1 (by omega)]; omega

/-- The number of ways to part a sum so. -/
def mul : List Int → Nat
  | [] => 1
  | a :: l => ch (a.toNat + l.sum.toNat) a.toNat * mul l
def pfac : List Int → Nat
  | [] => 1
  | a :: l => fac a.toNat * pfac l
theorem mul_fac : ∀ {l : List Int}, (∀ c, c ∈ l → 0 ≤ c) → mul l * pfac l = fac l.sum.toNat
  | [], _ => rfl
  | a :: l, h => by
    have ih := mul_fac (l := l) fun c hc => h c (by simp [hc])
    have h1 := ch_fac _ a.toNat l.sum.toNat rfl
    have hs := sum_nonneg (l := l) fun c hc => h c (by simp [hc])
    have ha := h a (by simp)
    have e : (a :: l).sum.toNat = a.toNat + l.sum.toNat := by simp only [List.sum_cons]; omega
    rw [e, ← h1]
    simp only [mul, pfac]
    rw [← ih]; ac_rfl
theorem quoF_mul : ∀ {l : List Int} {m : Nat}, quoF ((m * pfac l : Nat) : Int) l = (m : Int)
  | [], m => by simp [quoF, pfac]
  | a :: l, m => by
    have h0 : (fact a.toNat) ≠ 0 := by have := fact_pos a.toNat; omega
    have e : ((m * pfac (a :: l) : Nat) : Int).tdiv (fact a.toNat) = ((m * pfac l : Nat) : Int) := by
      have e1 : m * pfac (a :: l) = m * pfac l * fac a.toNat := by simp only [pfac]; ac_rfl
      rw [e1, Int.natCast_mul, fact_fac]
      exact Int.mul_tdiv_cancel _ (by rw [← fact_fac]; exact h0)
    have : quoF ((m * pfac (a :: l) : Nat) : Int) (a :: l) = quoF (((m * pfac (a :: l) : Nat) : Int).tdiv (fact a.toNat)) l := rfl
    rw [this, e]
    exact quoF_mul
theorem overI_mul {l : List Int} (h : ∀ c, c ∈ l → 0 ≤ c) : overI l.sum l = (mul l : Int) := by
  unfold overI
  rw [fact_fac, ← mul_fac h]
  exact quoF_mul
theorem mul_pos : ∀ {l : List Int}, (∀ c, c ∈ l → 0 ≤ c) → 0 < mul l := fun {l} h => by
  have := mul_fac h
  have h2 := fac_pos l.sum.toNat
  rcases Nat.eq_zero_or_pos (mul l) with h0 | h0
  · rw [h0] at this; omega
  · exact h0

/-- The sum of a function over a list. -/
def sumL {α : Type} (l : List α) (f : α → Nat) : Nat := (l.map f).sum
theorem sumL_nil {α : Type} (f : α → Nat) : sumL [] f = 0 := rfl
theorem sumL_cons {α : Type} (a : α) (l : List α) (f : α → Nat) : sumL (a :: l) f = f a + sumL l f := by simp [sumL]
theorem sumL_append {α : Type} (l l' : List α) (f : α → Nat) : sumL (l ++ l') f = sumL l f + sumL l' f := by simp [sumL]
theorem sumL_flatMap {α β : Type} (l : List α) (g : α → List β) (f : β → Nat) : sumL (l.flatMap g) f = sumL l fun a => sumL (g a) f := by
  induction l with
  | nil => rfl
  | cons a l ih => rw [List.flatMap_cons, sumL_append, sumL_cons, ih]
theorem sumL_map {α β : Type} (l : List α) (g : α → β) (f : β → Nat) : sumL (l.map g) f = sumL l fun a => f (g a) := by simp [sumL, Function.comp_def]
theorem sumL_congr {α : Type} {l : List α} {f g : α → Nat} (h : ∀ a, a ∈ l → f a = g a) : sumL l f = sumL l g := by
  unfold sumL; rw [List.map_congr_left h]
theorem sumL_mul {α : Type} (l : List α) (f : α → Nat) (k : Nat) : sumL l (fun a => k * f a) = k * sumL l f := by
  induction l with
  | nil => simp [sumL]
  | cons a l ih => rw [sumL_cons, sumL_cons, ih, Nat.mul_add]
theorem sumL_cnt (n : Nat) (f : Int → Nat) : sumL (cnt ((n : Int) + 1)) f = sumTo (fun k => f k) n := by
  induction n with
  | zero => simp [cnt, sumL, sumTo]
  | succ n ih =>
    have : ((n + 1 : Nat) : Int) + 1 = ((n + 1 : Nat) : Int) + 1 := rfl
    rw [cnt_succ, sumL_append]
    have e : ((n + 1 : Nat) : Int) = (n : Int) + 1 := by omega
    rw [e, ih, sumL_cons, sumL_nil]
    simp only [sumTo]
    have : ((n + 1 : Nat) : Int) = (n : Int) + 1 := by omega
    rw [this]; omega
theorem rowsL_none : ∀ {most : List Int} {s : Int}, most.sum < s → rowsL s most = [] := by
  intro most s h
  cases hr : rowsL s most with
  | nil => rfl
  | cons r l =>
    obtain ⟨h1, h2, h3, h4⟩ := mem_rowsL (r := r) (s := s) (most := most) (by rw [hr]; simp)
    have key : ∀ (r most : List Int), r.length = most.length → (∀ i, i < most.length → r.getD i 0 ≤ most.getD i 0) → r.sum ≤ most.sum := by
      intro r
      induction r with
      | nil => intro most h _; simp at h; rw [List.eq_nil_of_length_eq_zero h.symm]; simp
      | cons a r ih =>
        intro most h hm
        cases most with
        | nil => simp at h
        | cons b most =>
          have h0 := hm 0 (by simp)
          have h1 := ih most (by simpa using h) fun i hi => by simpa using hm (i + 1) (by simpa using hi)
          simp only [List.sum_cons]
          simp at h0; omega
    have := key r most h1 h4
    omega

/-- The rule of sums for rows. -/
theorem vandL : ∀ (cols : List Int) (s : Int), (∀ c, c ∈ cols → 0 ≤ c) → 0 ≤ s → s ≤ cols.sum → sumL (rowsL s cols) (fun r => mul r * mul (subL cols r)) = mul cols := by
  intro cols
  induction cols with
  | nil =>
    intro s _ h0 h1
    have : s = 0 := by simp at h1; omega
    subst this
    simp [rowsL, sumL, mul, subL]
  | cons a l ih =>
    intro s hc h0 h1
    have ha := hc a (by simp)
    have hl0 := sum_nonneg (l := l) fun c h => hc c (by simp [h])
    simp only [List.sum_cons] at h1
    rw [rowsL, sumL_flatMap]
    obtain ⟨S, rfl⟩ := Int.eq_ofNat_of_zero_le h0
    obtain ⟨A, rfl⟩ := Int.eq_ofNat_of_zero_le ha
    obtain ⟨T, hT⟩ := Int.eq_ofNat_of_zero_le hl0
    have hmin : min (S : Int) (A : Int) = ((min S A : Nat) : Int) := by omega
    have inner : ∀ c : Nat, c ≤ min S A → sumL ((rowsL ((S : Int) - c) l).map ((c : Int) :: ·)) (fun r => mul r * mul (subL ((A : Int) :: l) r)) = ch S c * ch (A + T - S) (A - c) * mul l := by
      intro c hcm
      rw [sumL_map]
      by_cases hbig : l.sum < (S : Int) - c
      · rw [rowsL_none hbig, sumL_nil, ch_big (n := A + T - S) (k := A - c) (by omega)]; simp
      · have := ih ((S : Int) - c) (fun c h => hc c (by simp [h])) (by omega) (by omega)
        rw [← this, ← sumL_mul]
        refine sumL_congr fun r hr => ?_
        obtain ⟨r1, r2, r3, r4⟩ := mem_rowsL hr
        have hs := subL_sum r1
        have e : subL ((A : Int) :: l) ((c : Int) :: r) = ((A : Int) - c) :: subL l r := rfl
        rw [e]
        simp only [mul]
        have e1 : (c : Int).toNat + r.sum.toNat = S := by omega
        have e2 : ((A : Int) - c).toNat + (subL l r).sum.toNat = A + T - S := by omega
        have e3 : ((A : Int) - c).toNat = A - c := by omega
        have e4 : (c : Int).toNat = c := by omega
        rw [e1, e2, e3, e4]; ac_rfl
    rw [hmin, sumL_cnt, sumTo_congr inner]
    have e5 : sumTo (fun c => ch S c * ch (A + T - S) (A - c) * mul l) (min S A) = mul l * sumTo (fun c => ch S c * ch (A + T - S) (A - c)) (min S A) := by
      generalize min S A = k
      induction k with
      | zero => simp only [sumTo]; ac_rfl
      | succ k ihk => simp only [sumTo, ihk, Nat.mul_add]; congr 1; ac_rfl
    have e6 : sumTo (fun c => ch S c * ch (A + T - S) (A - c)) (min S A) = ch (A + T) A := by
      rw [← sumTo_trunc (k := A) (m := min S A) (by omega) fun c h1 h2 => by rw [ch_big (n := S) (k := c) (by omega)]; simp, vand]
      congr 1; omega
    rw [e5, e6]
    simp only [mul]
    have e7 : (A : Int).toNat + l.sum.toNat = A + T := by omega
    have e8 : (A : Int).toNat = A := by omega
    rw [e7, e8, Nat.mul_comm]
/-- The ways of a table. -/
def wayN (t : List (List Int)) : Nat := t.foldr (fun r w => mul r * w) 1
theorem wayN_cons (r : List Int) (t : List (List Int)) : wayN (r :: t) = mul r * wayN t := rfl
theorem mul_zero : ∀ {l : List Int}, (∀ c, c ∈ l → c = 0) → mul l = 1
  | [], _ => rfl
  | a :: l, h => by
    have ha := h a (by simp)
    subst ha
    have := mul_zero (l := l) fun c hc => h c (by simp [hc])
    simp [mul, this, ch_zero]
/-- All tables with some margins have together the ways of the sums. -/
theorem tablesL_sum : ∀ (ss cols : List Int), (∀ s, s ∈ ss → 0 ≤ s) → (∀ c, c ∈ cols → 0 ≤ c) → ss.sum = cols.sum → sumL (tablesL ss cols) wayN = mul cols := by
  intro ss
  induction ss with
  | nil =>
    intro cols _ hc hs
    have h0 : ∀ c, c ∈ cols → c = 0 := fun c h => by
      have := le_sum hc c h
      have := hc c h
      simp at hs; omega
    have : tablesL [] cols = [[]] := by
      simp only [tablesL]; rw [if_pos (List.all_eq_true.2 fun c h => by simp [h0 c h])]
    rw [this, mul_zero h0]
    simp [sumL, wayN]
  | cons s ss ih =>
    intro cols hss hc hs
    have hs0 := hss s (by simp)
    have hs1 := sum_nonneg (l := ss) fun c h => hss c (by simp [h])
    simp only [List.sum_cons] at hs
    rw [tablesL, sumL_flatMap, ← vandL cols s hc hs0 (by omega)]
    refine sumL_congr fun r hr => ?_
    obtain ⟨r1, r2, r3, r4⟩ := mem_rowsL hr
    rw [sumL_map]
    simp only [wayN_cons]
    rw [sumL_mul, ih (subL cols r) (fun s h => hss s (by simp [h])) (fun c h => ?_) (by rw [subL_sum r1]; omega)]
    obtain ⟨i, hi, rfl⟩ := List.mem_iff_getElem.1 h
    have hi' : i < cols.length := by rwa [subL_len r1] at hi
    have e : (subL cols r)[i] = (subL cols r).getD i 0 := by rw [List.getD_eq_getElem?_getD, List.getElem?_eq_getElem hi]; rfl
    rw [e, subL_get r1]
    have := r4 i hi'
    omega
end Go.Proofs
set_option linter.unusedSimpArgs false
namespace Go.Proofs
open Go.Hx

/-! ### the tables with the margins of a table -/
def allT (t : List (List Int)) : List (List (List Int)) := tablesL (rowsOf t) (colsOf t)
def RowC (cols r : List Int) : Prop := r.length = cols.length ∧ ∀ c, c ∈ r → 0 ≤ c ∧ c ≤ 20
theorem colAt_cons (r : List Int) (t : List (List Int)) (j : Nat) : colAt (r :: t) j = r.getD j 0 + colAt t j := by simp [colAt]
theorem mem_tablesL : ∀ {ss cols : List Int} {t : List (List Int)}, Cap cols → t ∈ tablesL ss cols → rowsOf t = ss ∧ (∀ r, r ∈ t → RowC cols r) ∧ ∀ j, colAt t j = cols.getD j 0 := by
  intro ss
  induction ss with
  | nil =>
    intro cols t _ h
    simp only [tablesL] at h
    split at h
    · rename_i h0
      obtain rfl := List.mem_singleton.1 h
      refine ⟨rfl, fun r hr => (by cases hr), fun j => ?_⟩
      by_cases hj : j < cols.length
      · have := List.all_eq_true.1 h0 _ (getD_mem hj)
        simp only [beq_iff_eq] at this
        rw [this]; rfl
      · rw [List.getD_eq_getElem?_getD, List.getElem?_eq_none (by omega)]; rfl
    · cases h
  | cons s ss ih =>
    intro cols t hc h
    simp only [tablesL, List.mem_flatMap, List.mem_map] at h
    obtain ⟨r, hr, t', ht', rfl⟩ := h
    obtain ⟨m1, m2, m3, m4⟩ := mem_rowsL hr
    obtain ⟨h1, h2, h3⟩ := ih (hc.sub hr) ht'
    refine ⟨by simp [rowsOf, m2] at h1 ⊢; exact h1, fun q hq => ?_, fun j => ?_⟩
    · rcases List.mem_cons.1 hq with rfl | hq
      · refine ⟨m1, fun c hcc => ⟨m3 c hcc, ?_⟩⟩
        obtain ⟨i, hi, rfl⟩ := List.mem_iff_getElem.1 hcc
        have e : q[i] = q.getD i 0 := by rw [List.getD_eq_getElem?_getD, List.getElem?_eq_getElem hi]; rfl
        have a := m4 i (by omega)
        have b := hc _ (getD_mem (l := cols) (i := i) (by omega))
        rw [e]; omega
      · have := h2 q hq
        exact ⟨by rw [this.1, subL_len m1], this.2⟩
    · rw [colAt_cons, h3, subL_get m1]; omega
theorem rowsL_mem : ∀ {cols r : List Int}, r.length = cols.length → (∀ c, c ∈ r → 0 ≤ c) → (∀ i, i < cols.length → r.getD i 0 ≤ cols.getD i 0) → r ∈ rowsL r.sum cols := by
  intro cols
  induction cols with
  | nil => intro r h _ _; rw [List.eq_nil_of_length_eq_zero h]; simp [rowsL]
  | cons m ms ih =>
    intro r h hc hm
    cases r with
    | nil => simp at h
    | cons a r =>
      have ha := hc a (by simp)
      have h0 := hm 0 (by simp)
      simp at h0
      have hs := sum_nonneg (l := r) fun c h => hc c (by simp [h])
      simp only [rowsL, List.mem_flatMap, List.mem_map, List.sum_cons]
      refine ⟨a, mem_cnt.2 ⟨ha, by omega⟩, r, ?_, rfl⟩
      have := ih (r := r) (by simpa using h) (fun c h => hc c (by simp [h])) fun i hi => by simpa using hm (i + 1) (by simpa using hi)
      have e : a + r.sum - a = r.sum := by omega
      rw [e]; exact this
theorem colAt_nonneg {t : List (List Int)} (h : ∀ r, r ∈ t → ∀ c, c ∈ r → 0 ≤ c) (j : Nat) : 0 ≤ colAt t j := by
  refine sum_nonneg fun c hc => ?_
  obtain ⟨r, hr, rfl⟩ := List.mem_map.1 hc
  by_cases hj : j < r.length
  · exact h r hr _ (getD_mem hj)
  · rw [List.getD_eq_getElem?_getD, List.getElem?_eq_none (by omega)]; simp
theorem tablesL_mem : ∀ {t : List (List Int)} {cols : List Int}, (∀ r, r ∈ t → r.length = cols.length ∧ ∀ c, c ∈ r → 0 ≤ c) → (∀ j, j < cols.length → colAt t j = cols.getD j 0) → t ∈ tablesL (rowsOf t) cols := by
  intro t
  induction t with
  | nil =>
    intro cols _ h
    simp only [rowsOf, List.map_nil, tablesL]
    rw [if_pos]
    · simp
    · refine List.all_eq_true.2 fun c hc => ?_
      obtain ⟨i, hi, rfl⟩ := List.mem_iff_getElem.1 hc
      have := h i hi
      rw [List.getD_eq_getElem?_getD, List.getElem?_eq_getElem hi] at this
      simpa [colAt] using this.symm
  | cons r t ih =>
    intro cols hr hcol
    have h1 := hr r (by simp)
    have h2 : ∀ q, q ∈ t → ∀ c, c ∈ q → 0 ≤ c := fun q hq => (hr q (by simp [hq])).2
    simp only [rowsOf, List.map_cons, tablesL, List.mem_flatMap, List.mem_map]
    refine ⟨r, rowsL_mem h1.1 h1.2 fun i hi => ?_, t, ?_, rfl⟩
    · rw [← hcol i hi, colAt_cons]
      have := colAt_nonneg h2 i
      omega
    · refine ih (fun q hq => ?_) fun j hj => ?_
      · rw [subL_len h1.1]; exact hr q (by simp [hq])
      · rw [subL_len h1.1] at hj
        rw [subL_get h1.1, ← hcol j hj, colAt_cons]; omega
theorem colsOf_get {t : List (List Int)} {j : Nat} (h : j < (t.headD []).length) : (colsOf t).getD j 0 = colAt t j := by
  rw [List.getD_eq_getElem?_getD, colsOf, List.getElem?_map, List.getElem?_range h]; rfl
theorem colsOf_len (t : List (List Int)) : (colsOf t).length = (t.headD []).length := by simp [colsOf]
theorem cols_cap {t : List (List Int)} (h : TableOk t) : Cap (colsOf t) := fun c hc => by
  have h1 := cols_ok h
  exact ⟨h1.2.1 c hc, Int.le_trans (le_sum h1.2.1 c hc) h1.2.2⟩
theorem self_mem {t : List (List Int)} (h : TableOk t) : t ∈ allT t :=
  tablesL_mem (fun r hr => ⟨by rw [colsOf_len]; exact (rows_ok h r hr).1, fun c hc => ((rows_ok h r hr).2.2.2 c hc).1⟩) fun j hj => (colsOf_get (by rwa [colsOf_len] at hj)).symm
/-- A table with the same margins is one. -/
theorem mem_allT {t x : List (List Int)} (h : TableOk t) (hx : x ∈ allT t) : TableOk x ∧ rowsOf x = rowsOf t ∧ colsOf x = colsOf t ∧ (x.headD []).length = (t.headD []).length ∧ x.length = t.length := by
  obtain ⟨h1, h2, h3⟩ := mem_tablesL (cols_cap h) hx
  have hl : x.length = t.length := by
    have := congrArg List.length h1
    simpa [rowsOf] using this
  have hr0 := rows_ok h
  have q1 := h.1
  have q2 := h.2.1
  obtain ⟨r0, x', rfl⟩ : ∃ r x', x = r :: x' := by
    cases x with
    | nil => simp at hl; omega
    | cons r x' => exact ⟨r, x', rfl⟩
  have hd : ((r0 :: x').headD []).length = (t.headD []).length := by
    simp only [List.headD_cons]
    rw [(h2 r0 (by simp)).1, colsOf_len]
  have ht0 : (t.headD []).length = (t.headD []).length ∧ 2 ≤ (t.headD []).length ∧ (t.headD []).length ≤ 3 := by
    cases t with
    | nil => simp at q1
    | cons a t => have := hr0 a (by simp); exact ⟨rfl, this.2.1, this.2.2.1⟩
  refine ⟨⟨by omega, by omega, fun r hr => ?_, ?_, ?_⟩, h1, ?_, hd, hl⟩
  · have := h2 r hr
    have e : r.length = (t.headD []).length := by rw [this.1, colsOf_len]
    exact ⟨by rw [hd]; exact e, by omega, by omega, this.2⟩
  · have : total2 (r0 :: x') = (rowsOf (r0 :: x')).sum := rfl
    rw [this, h1]; exact h.2.2.2.1
  · have : total2 (r0 :: x') = (rowsOf (r0 :: x')).sum := rfl
    rw [this, h1]; exact h.2.2.2.2
  · refine eq_of_getD (by rw [colsOf_len, colsOf_len, hd]) fun j hj => ?_
    rw [colsOf_len] at hj
    rw [colsOf_get hj, h3]
theorem allT_same {t x : List (List Int)} (h : TableOk t) (hx : x ∈ allT t) : allT x = allT t := by
  obtain ⟨_, h1, h2, _⟩ := mem_allT h hx
  simp only [allT, h1, h2]
theorem refWays_wayN {t : List (List Int)} (h : TableOk t) : waysI t = (wayN t : Int) := by
  rw [← refWays_eq h]
  have hn : ∀ r, r ∈ t → ∀ c, c ∈ r → 0 ≤ c := fun r hr c hc => ((rows_ok h r hr).2.2.2 c hc).1
  have key : ∀ k, k ≤ t.length → refWays t k = (wayN (t.take k) : Int) := by
    intro k
    induction k with
    | zero => intro _; simp [refWays, wayN]
    | succ k ih =>
      intro hk
      obtain ⟨r, hr⟩ : ∃ r, t[k]? = some r := ⟨_, List.getElem?_eq_getElem (by omega)⟩
      have happ : ∀ (a : List (List Int)) r, wayN (a ++ [r]) = wayN a * mul r := by
        intro a r
        induction a with
        | nil => simp [wayN]
        | cons q a iha => rw [List.cons_append, wayN_cons, wayN_cons, iha]; ac_rfl
      simp only [refWays, ih (by omega), getD_some hr]
      rw [overI_mul (hn r (List.mem_of_getElem? hr)), take_succ_of hr, happ, Int.natCast_mul]
  have := key t.length (Nat.le_refl _)
  rwa [List.take_length] at this
theorem allT_sum {t : List (List Int)} (h : TableOk t) : sumL (allT t) wayN = mul (colsOf t) :=
  tablesL_sum _ _ (rows_le h).2.1 (cols_ok h).2.1 (by
    have : (colsOf t).sum = (rowsOf t).sum := by unfold colsOf; rw [colSum fun r hm => (rows_ok h r hm).1]; rfl
    exact this.symm)
theorem mul_le {t : List (List Int)} (h : TableOk t) : mul (colsOf t) ≤ fac 20 ∧ 0 < mul (colsOf t) := by
  obtain ⟨h1, h2, h3⟩ := cols_ok h
  have h4 := mul_fac h2
  have h5 : 0 < pfac (colsOf t) := by
    generalize colsOf t = l
    induction l with
    | nil => decide
    | cons a l ih => exact Nat.mul_pos (fac_pos _) ih
  have h6 : fac (colsOf t).sum.toNat ≤ fac 20 := by
    have := fact_mono (m := (colsOf t).sum.toNat) (n := 20) (by omega)
    rw [fact_fac, fact_fac] at this
    omega
  refine ⟨?_, mul_pos h2⟩
  have : mul (colsOf t) * 1 ≤ mul (colsOf t) * pfac (colsOf t) := Nat.mul_le_mul_left _ h5
  omega
theorem total_mul {t : List (List Int)} (h : TableOk t) : overI (colsOf t).sum (colsOf t) = (mul (colsOf t) : Int) := overI_mul (cols_ok h).2.1
/-- The sum of the ways of the tables that have at most so many. -/
def tailS (l : List (List (List Int))) (w : Nat) : Nat := sumL l fun x => if wayN x ≤ w then wayN x else 0
theorem tailS_le (l : List (List (List Int))) (w : Nat) : tailS l w ≤ sumL l wayN := by
  induction l with
  | nil => exact Nat.le_refl _
  | cons a l ih =>
    simp only [tailS, sumL_cons] at ih ⊢
    split <;> omega
theorem fac20 : fac 20 = 2432902008176640000 := by decide
def tailN (t : List (List Int)) : Nat := tailS (allT t) (wayN t)
theorem tailN_le {t : List (List Int)} (h : TableOk t) : tailN t ≤ mul (colsOf t) := by
  have := tailS_le (allT t) (wayN t)
  rw [allT_sum h] at this
  exact this
def qV (n d : Int) : AVal := .agg [.lit (.int .i64 n), .lit (.int .i64 d)]
def redV (n d : Int) : AVal := qV (n / (Int.gcd n d : Int)) (d / (Int.gcd n d : Int))
theorem allT_len {t : List (List Int)} (h : TableOk t) : (allT t).length ≤ 9261 ^ 3 := by
  have h1 := tablesL_len (ss := rowsOf t) (cols_cap h) (cols_ok h).1
  have h2 : 9261 ^ (rowsOf t).length ≤ 9261 ^ 3 := Nat.pow_le_pow_right (by decide) (rows_le h).1
  exact Nat.le_trans h1 h2

theorem refAll_spec (t : List (List Int)) (ht : TableOk t) (H : AHeap) (K : ARes → AHeap → Prop) (hK : K (.ret (vecT (allT t))) H) : ACall Tryd.prog G0 30 [vecV t] H K := by
  obtain ⟨h1, h2, h3⟩ := rows_le ht
  refine ACall.of_body (n := 8) (rs := [.tmp 2]) Tryd.func30 rfl rfl rfl (by decide) (by kernel_rfl) (by simp) ?_
  simp (config := { maxSteps := 1000000 }) only [go_sem, Int.reduceToNat, Int.reduceLE, Int.reduceLT, Int.reduceAdd, Int.reduceSub, Int.reduceMul, Int.reduceEq, Int.reduceNe, Nat.reduceEqDiff, Nat.reducePow, Nat.reduceDiv, Nat.reduceMod, Nat.reduceAdd, Nat.reduceMul, Nat.reduceSub, Nat.reduceLT, Nat.reduceLeDiff, reduceIte, reduceCtorEq, vecV, appendA_U]
  refine AApply.clo (Rows_spec t (small_of_ok ht) _ _ ⟨trivial, ?_⟩)
  simp (config := { maxSteps := 1000000 }) only [go_sem, Int.reduceToNat, Int.reduceLE, Int.reduceLT, Int.reduceAdd, Int.reduceSub, Int.reduceMul, Int.reduceEq, Int.reduceNe, Nat.reduceEqDiff, Nat.reducePow, Nat.reduceDiv, Nat.reduceMod, Nat.reduceAdd, Nat.reduceMul, Nat.reduceSub, Nat.reduceLT, Nat.reduceLeDiff, reduceIte, reduceCtorEq, appendA_U]
  refine AApply.clo (Columns_spec t ht _ _ ⟨trivial, ?_⟩)
  simp (config := { maxSteps := 1000000 }) only [go_sem, Int.reduceToNat, Int.reduceLE, Int.reduceLT, Int.reduceAdd, Int.reduceSub, Int.reduceMul, Int.reduceEq, Int.reduceNe, Nat.reduceEqDiff, Nat.reducePow, Nat.reduceDiv, Nat.reduceMod, Nat.reduceAdd, Nat.reduceMul, Nat.reduceSub, Nat.reduceLT, Nat.reduceLeDiff, reduceIte, reduceCtorEq, appendA_U]
  refine AApply.clo (tables_spec _ _ h1 (fun s hs => ⟨h2 s hs, by have := le_sum h2 s hs; omega⟩) (cols_cap ht) (cols_ok ht).1 _ _ ⟨trivial, ?_⟩)
  simp (config := { maxSteps := 1000000 }) only [go_sem, Int.reduceToNat, Int.reduceLE, Int.reduceLT, Int.reduceAdd, Int.reduceSub, Int.reduceMul, Int.reduceEq, Int.reduceNe, Nat.reduceEqDiff, Nat.reducePow, Nat.reduceDiv, Nat.reduceMod, Nat.reduceAdd, Nat.reduceMul, Nat.reduceSub, Nat.reduceLT, Nat.reduceLeDiff, reduceIte, reduceCtorEq, appendA_U]
  exact FinV.mk (Nat.le_refl _) hK

theorem refTail_spec (t : List (List Int)) (ht : TableOk t) (H : AHeap) (K : ARes → AHeap → Prop) (hK : K (.ret (redV (tailN t) (mul (colsOf t)))) H) : ACall Tryd.prog G0 32 [vecV t] H K := by
  refine ACall.clo ⟨_, Tryd.func32, rfl, rfl⟩ fun hcl => ?_
  have f20 := fac20
  have hm := mul_le ht
  have hlen := allT_len ht
  refine ACall.of_body (n := 33) (rs := [.cell 2 29]) Tryd.func32 rfl rfl rfl (by decide) (by kernel_rfl) (by simp) ?_
  simp (config := { maxSteps := 1000000 }) only [go_sem, Int.reduceToNat, Int.reduceLE, Int.reduceLT, Int.reduceAdd, Int.reduceSub, Int.reduceMul, Int.reduceEq, Int.reduceNe, Nat.reduceEqDiff, Nat.reducePow, Nat.reduceDiv, Nat.reduceMod, Nat.reduceAdd, Nat.reduceMul, Nat.reduceSub, Nat.reduceLT, Nat.reduceLeDiff, reduceIte, reduceCtorEq, vecV, appendA_U]
  refine AApply.clo (refWays_spec t ht _ _ ⟨trivial, ?_⟩)
  rw [refWays_wayN ht]
  simp (config := { maxSteps := 1000000 }) only [go_sem, Int.reduceToNat, Int.reduceLE, Int.reduceLT, Int.reduceAdd, Int.reduceSub, Int.reduceMul, Int.reduceEq, Int.reduceNe, Nat.reduceEqDiff, Nat.reducePow, Nat.reduceDiv, Nat.reduceMod, Nat.reduceAdd, Nat.reduceMul, Nat.reduceSub, Nat.reduceLT, Nat.reduceLeDiff, reduceIte, reduceCtorEq, appendA_U]
  refine AApply.clo (refAll_spec t ht _ _ ⟨trivial, ?_⟩)
  simp (config := { maxSteps := 1000000 }) only [go_sem, Int.reduceToNat, Int.reduceLE, Int.reduceLT, Int.reduceAdd, Int.reduceSub, Int.reduceMul, Int.reduceEq, Int.reduceNe, Nat.reduceEqDiff, Nat.reducePow, Nat.reduceDiv, Nat.reduceMod, Nat.reduceAdd, Nat.reduceMul, Nat.reduceSub, Nat.reduceLT, Nat.reduceLeDiff, reduceIte, reduceCtorEq, vecT, appendA_U]
  refine W.loop0 536867024 (by rfl) (fun ρ H' => H' = ext H [.arr 0 29 [.lit (.int .i64 0), .lit (.int .i64 0)]] ∧ ∃ k : Nat, ρ 6 = lin k ∧ k ≤ (allT t).length ∧ ρ 4 = lin (tailS ((allT t).take k) (wayN t) : Nat)) (fun ρ H => (allT t).length - (iv (ρ 6)).toNat) ?_ ?_
  · simp (config := { maxSteps := 1000000 }) only [go_sem, Int.reduceToNat, Int.reduceLE, Int.reduceLT, Int.reduceAdd, Int.reduceSub, Int.reduceMul, Int.reduceEq, Int.reduceNe, Nat.reduceEqDiff, Nat.reducePow, Nat.reduceDiv, Nat.reduceMod, Nat.reduceAdd, Nat.reduceMul, Nat.reduceSub, Nat.reduceLT, Nat.reduceLeDiff, reduceIte, reduceCtorEq, appendA_U]
    exact ⟨0, rfl, by omega, by simp [tailS, sumL]⟩
  rintro ρ H' ⟨rfl, k, h6, hk, h4⟩
  refine vc_sound _ _ _ (by rfl) ?_
  by_cases hb : (k : Int) < (allT t).length
  · obtain ⟨x, hx⟩ : ∃ x, (allT t)[k]? = some x := ⟨_, List.getElem?_eq_getElem (by omega)⟩
    have hne : ¬ allT t = [] := by intro h; rw [h] at hx; cases hx
    have hxm := List.mem_of_getElem? hx
    obtain ⟨x1, x2, x3, x4, x5⟩ := mem_allT ht hxm
    have w1 := IntWalk.i64_in ((k : Int) + 1) (by omega)
    simp (config := { maxSteps := 1000000 }) only [go_sem, Int.reduceToNat, Int.reduceLE, Int.reduceLT, Int.reduceAdd, Int.reduceSub, Int.reduceMul, Int.reduceEq, Int.reduceNe, Nat.reduceEqDiff, Nat.reducePow, Nat.reduceDiv, Nat.reduceMod, Nat.reduceAdd, Nat.reduceMul, Nat.reduceSub, Nat.reduceLT, Nat.reduceLeDiff, reduceIte, reduceCtorEq, h6, hb, hx, hne, appendA_U]
    refine AApply.clo (refWays_spec x x1 _ _ ⟨trivial, ?_⟩)
    rw [refWays_wayN x1]
    have hsum : tailS ((allT t).take (k + 1)) (wayN t) ≤ fac 20 := by
      have h1 := tailS_le ((allT t).take (k + 1)) (wayN t)
      have h2 : sumL ((allT t).take (k + 1)) wayN ≤ sumL (allT t) wayN := by
        conv => rhs; rw [← List.take_append_drop (k + 1) (allT t)]
        rw [sumL_append]; omega
      rw [allT_sum ht] at h2
      omega
    have hstep : tailS ((allT t).take (k + 1)) (wayN t) = tailS ((allT t).take k) (wayN t) + if wayN x ≤ wayN t then wayN x else 0 := by
      rw [take_succ_of hx]; unfold tailS; rw [sumL_append, sumL_cons, sumL_nil]; omega
    by_cases hw : wayN x ≤ wayN t
    · rw [if_pos hw] at hstep
      have hw' : (wayN x : Int) ≤ wayN t := by omega
      have w2 := IntWalk.i64_in ((tailS ((allT t).take k) (wayN t) : Int) + (wayN x : Int)) (by omega)
      simp (config := { maxSteps := 1000000 }) only [go_sem, Int.reduceToNat, Int.reduceLE, Int.reduceLT, Int.reduceAdd, Int.reduceSub, Int.reduceMul, Int.reduceEq, Int.reduceNe, Nat.reduceEqDiff, Nat.reducePow, Nat.reduceDiv, Nat.reduceMod, Nat.reduceAdd, Nat.reduceMul, Nat.reduceSub, Nat.reduceLT, Nat.reduceLeDiff, reduceIte, reduceCtorEq, h6, h4, hw', w1, w2, appendA_U]
      exact ⟨⟨k + 1, by simp, by omega, by rw [hstep]; simp [lin]⟩, by omega⟩
    · rw [if_neg hw] at hstep
      have hw' : ¬ (wayN x : Int) ≤ wayN t := by omega
      simp (config := { maxSteps := 1000000 }) only [go_sem, Int.reduceToNat, Int.reduceLE, Int.reduceLT, Int.reduceAdd, Int.reduceSub, Int.reduceMul, Int.reduceEq, Int.reduceNe, Nat.reduceEqDiff, Nat.reducePow, Nat.reduceDiv, Nat.reduceMod, Nat.reduceAdd, Nat.reduceMul, Nat.reduceSub, Nat.reduceLT, Nat.reduceLeDiff, reduceIte, reduceCtorEq, h6, h4, hw', w1, appendA_U]
      exact ⟨⟨k + 1, by simp, by omega, by rw [hstep]; simp⟩, by omega⟩
  · have e : (allT t).take k = allT t := List.take_of_length_le (by omega)
    rw [e] at h4
    simp (config := { maxSteps := 1000000 }) only [go_sem, Int.reduceToNat, Int.reduceLE, Int.reduceLT, Int.reduceAdd, Int.reduceSub, Int.reduceMul, Int.reduceEq, Int.reduceNe, Nat.reduceEqDiff, Nat.reducePow, Nat.reduceDiv, Nat.reduceMod, Nat.reduceAdd, Nat.reduceMul, Nat.reduceSub, Nat.reduceLT, Nat.reduceLeDiff, reduceIte, reduceCtorEq, h6, h4, hb, appendA_U]
    refine AApply.clo (refTotal_spec t ht _ _ ⟨trivial, ?_⟩)
    rw [total_mul ht]
    simp (config := { maxSteps := 1000000 }) only [go_sem, Int.reduceToNat, Int.reduceLE, Int.reduceLT, Int.reduceAdd, Int.reduceSub, Int.reduceMul, Int.reduceEq, Int.reduceNe, Nat.reduceEqDiff, Nat.reducePow, Nat.reduceDiv, Nat.reduceMod, Nat.reduceAdd, Nat.reduceMul, Nat.reduceSub, Nat.reduceLT, Nat.reduceLeDiff, reduceIte, reduceCtorEq, appendA_U]
    have htl := tailN_le ht
    refine AApply.clo (reduced_spec _ _ (by omega) (by omega) (by have : tailS (allT t) (wayN t) = tailN t := rfl; omega) (by omega) _ _ ⟨trivial, ?_⟩)
    simp (config := { maxSteps := 1000000 }) only [go_sem, Int.reduceToNat, Int.reduceLE, Int.reduceLT, Int.reduceAdd, Int.reduceSub, Int.reduceMul, Int.reduceEq, Int.reduceNe, Nat.reduceEqDiff, Nat.reducePow, Nat.reduceDiv, Nat.reduceMod, Nat.reduceAdd, Nat.reduceMul, Nat.reduceSub, Nat.reduceLT, Nat.reduceLeDiff, reduceIte, reduceCtorEq, appendA_U]
    repeat (refine And.intro (by first | omega | (simp; done) | (simp; omega) | (intros; omega) | exact ⟨rfl, by omega, by omega, all_one_ints _⟩) ?_)
    refine FinV.drop (v' := redV (tailN t) (mul (colsOf t))) G0_ok hcl (.agg rfl fun i hi _ => ?_) hK
    match i, hi with
    | 0, _ => exact .lit _
    | 1, _ => exact .lit _
end Go.Proofs
set_option linter.unusedSimpArgs false
namespace Go.Proofs
open Go.Hx

/-! ### the tables, count by count -/
theorem rowsL_one {s m : Int} (hs : 0 ≤ s) : rowsL s [m] = if s ≤ m then [[s]] else [] := by
  have key : ∀ k : Nat, (cnt k).flatMap (fun c => (rowsL (s - c) []).map (c :: ·)) = if s < k then [[s]] else [] := by
    intro k
    induction k with
    | zero => simp [cnt]; omega
    | succ k ih =>
      have e : ((k + 1 : Nat) : Int) = (k : Int) + 1 := by omega
      rw [e, flatMap_cnt_succ, ih]
      simp only [rowsL]
      by_cases h : s - k = 0
      · rw [if_pos h, if_neg (by omega), if_pos (by omega)]
        have : s = k := by omega
        rw [this]; rfl
      · rw [if_neg h]
        by_cases h2 : s < k
        · rw [if_pos h2, if_pos (by omega)]; rfl
        · rw [if_neg h2, if_neg (by omega)]; rfl
  simp only [rowsL]
  by_cases h : 0 ≤ min s m + 1
  · obtain ⟨k, hk⟩ := Int.eq_ofNat_of_zero_le h
    have := key k
    rw [← hk] at this
    simp only [rowsL] at this
    rw [this]
    by_cases h2 : s ≤ m
    · rw [if_pos h2, if_pos (by omega)]
    · rw [if_neg h2, if_neg (by omega)]
  · have e : cnt (min s m + 1) = [] := by simp [cnt]; omega
    rw [e, if_neg (by omega)]; rfl
theorem rowsL_all : ∀ {cols : List Int}, (∀ c, c ∈ cols → 0 ≤ c) → rowsL cols.sum cols = [cols]
  | [], _ => by simp [rowsL]
  | m :: ms, h => by
    have hm := h m (by simp)
    have hs := sum_nonneg (l := ms) fun c hc => h c (by simp [hc])
    obtain ⟨M, rfl⟩ := Int.eq_ofNat_of_zero_le hm
    have e : min ((M : Int) :: ms).sum (M : Int) + 1 = (M : Int) + 1 := by simp only [List.sum_cons]; omega
    rw [rowsL, e, flatMap_cnt_succ]
    have e2 : (cnt (M : Int)).flatMap (fun c => (rowsL (((M : Int) :: ms).sum - c) ms).map (c :: ·)) = [] := by
      refine List.flatMap_eq_nil_iff.2 fun c hc => ?_
      have := mem_cnt.1 hc
      rw [rowsL_none (by simp only [List.sum_cons]; omega)]; rfl
    have e3 : ((M : Int) :: ms).sum - (M : Int) = ms.sum := by simp only [List.sum_cons]; omega
    rw [e2, e3, rowsL_all fun c hc => h c (by simp [hc])]; rfl
theorem subL_self (l : List Int) : (subL l l).all (· == 0) = true := by
  induction l with
  | nil => rfl
  | cons a l ih => simp only [subL, List.zipWith_cons_cons, List.all_cons, Int.sub_self] at ih ⊢; simp [ih]
/-- What is still to come: the tables that go on from some rows and the beginning of one. -/
def yieldsP (rows : List Int) (i j : Nat) (rest : Int) (left : List Int) (P : List (List Int)) (p : List Int) : List (List (List Int)) :=
  (rowsL rest (left.drop j)).flatMap fun r => (tablesL (rows.drop (i + 1)) (left.take j ++ subL (left.drop j) r)).map fun T => P ++ (p ++ r) :: T
theorem yields_start {s : Int} {ss cols : List Int} : yieldsP (s :: ss) 0 0 s cols [] [] = tablesL (s :: ss) cols := by
  simp [yieldsP, tablesL]
theorem yields_last {rows left : List Int} {i : Nat} {P : List (List Int)} (hi : i + 1 = rows.length) (hl : ∀ c, c ∈ left → 0 ≤ c) : yieldsP rows i 0 left.sum left P [] = [P ++ [left]] := by
  have e : rows.drop (i + 1) = [] := List.drop_of_length_le (by omega)
  simp [yieldsP, rowsL_all hl, e, tablesL]
  intro x hx
  simpa using List.all_eq_true.1 (subL_self left) x hx
theorem drop_last {left : List Int} {j : Nat} {m : Int} (hj : j + 1 = left.length) (hm : left[j]? = some m) : left.drop j = [m] := by
  rw [List.drop_eq_getElem_cons (by omega), List.drop_of_length_le (by omega)]
  rw [List.getElem?_eq_getElem (by omega)] at hm
  rw [Option.some.inj hm]
theorem drop_some {left : List Int} {j : Nat} {m : Int} (hm : left[j]? = some m) : left.drop j = m :: left.drop (j + 1) := by
  have hj : j < left.length := by
    rcases Nat.lt_or_ge j left.length with h | h
    · exact h
    · rw [List.getElem?_eq_none h] at hm; cases hm
  rw [List.drop_eq_getElem_cons hj]
  rw [List.getElem?_eq_getElem hj] at hm
  rw [Option.some.inj hm]
theorem yields_row {rows left : List Int} {i j : Nat} {rest m s : Int} {P : List (List Int)} {p : List Int} (hj : j + 1 = left.length) (hm : left[j]? = some m) (hr : 0 ≤ rest) (hle : rest ≤ m) (hs : rows[i + 1]? = some s) :
    yieldsP rows i j rest left P p = yieldsP rows (i + 1) 0 s (left.set j (m - rest)) (P ++ [p ++ [rest]]) [] := by
  have e1 : left.set j (m - rest) = left.take j ++ [m - rest] := by
    rw [List.set_eq_take_append_cons_drop, if_pos (by omega), List.drop_of_length_le (by omega)]
  have hd : rows.drop (i + 1) = s :: rows.drop (i + 1 + 1) := by
    have hl : i + 1 < rows.length := by
      rcases Nat.lt_or_ge (i + 1) rows.length with h | h
      · exact h
      · rw [List.getElem?_eq_none h] at hs; cases hs
    rw [List.drop_eq_getElem_cons hl]
    rw [List.getElem?_eq_getElem hl] at hs
    rw [Option.some.inj hs]
  have e2 : subL [m] [rest] = [m - rest] := rfl
  unfold yieldsP
  rw [drop_last hj hm, rowsL_one hr, if_pos hle, hd, e1]
  simp only [List.flatMap_cons, List.flatMap_nil, List.append_nil, e2, tablesL, List.drop_zero, List.take_zero, List.nil_append, List.map_flatMap, List.map_map]
  refine congrArg (fun f => List.flatMap f _) (funext fun r => ?_)
  refine List.map_congr_left fun T _ => ?_
  simp
theorem yields_none {rows left : List Int} {i j : Nat} {rest m : Int} {P : List (List Int)} {p : List Int} (hj : j + 1 = left.length) (hm : left[j]? = some m) (hr : 0 ≤ rest) (hle : m < rest) : yieldsP rows i j rest left P p = [] := by
  unfold yieldsP
  rw [drop_last hj hm, rowsL_one hr, if_neg (by omega)]; rfl
theorem yields_cnt {rows left : List Int} {i j : Nat} {rest m : Int} {P : List (List Int)} {p : List Int} (hm : left[j]? = some m) :
    yieldsP rows i j rest left P p = (cnt (min rest m + 1)).flatMap fun c => yieldsP rows i (j + 1) (rest - c) (left.set j (m - c)) P (p ++ [c]) := by
  have hj : j < left.length := by
    rcases Nat.lt_or_ge j left.length with h | h
    · exact h
    · rw [List.getElem?_eq_none h] at hm; cases hm
  unfold yieldsP
  rw [drop_some hm, rowsL, List.flatMap_assoc]
  refine congrArg (fun f => List.flatMap f _) (funext fun c => ?_)
  have e1 : (left.set j (m - c)).drop (j + 1) = left.drop (j + 1) := by rw [List.drop_set_of_lt (by omega)]
  have e2 : (left.set j (m - c)).take (j + 1) = left.take j ++ [m - c] := by
    rw [List.set_eq_take_append_cons_drop, if_pos hj, List.take_append]
    have hl : (left.take j).length = j := by simp; omega
    rw [hl, List.take_of_length_le (by omega)]
    have : j + 1 - j = 1 := by omega
    rw [this]; rfl
  rw [e1, e2, List.flatMap_map]
  refine congrArg (fun f => List.flatMap f _) (funext fun r => ?_)
  have e3 : left.take j ++ subL (m :: left.drop (j + 1)) (c :: r) = left.take j ++ [m - c] ++ subL (left.drop (j + 1)) r := by simp [subL]
  rw [e3]
  refine List.map_congr_left fun T _ => ?_
  simp

/-- The grid holds what is settled already, and 0 beside the table. -/
def GOk (R C : Nat) (P : List (List Int)) (p g : List Int) : Prop :=
  g.length = 9 ∧ ∀ a b, a < 3 → b < 3 → ((a < P.length → g.getD (3 * a + b) 0 = (P.getD a []).getD b 0) ∧ (a = P.length → b < p.length → g.getD (3 * a + b) 0 = p.getD b 0) ∧ (R ≤ a ∨ C ≤ b → g.getD (3 * a + b) 0 = 0))
theorem grid9_getD (t : List (List Int)) {a b : Nat} (ha : a < 3) (hb : b < 3) : (grid9 t).getD (3 * a + b) 0 = (t.getD a []).getD b 0 := by
  have e1 : (3 * a + b) / 3 = a := by omega
  have e2 : (3 * a + b) % 3 = b := by omega
  rw [List.getD_eq_getElem?_getD, grid9_get (by omega), e1, e2]; rfl
theorem GOk.done {R C : Nat} {P : List (List Int)} {g left : List Int} (h : GOk R C P [] g) (hP : P.length + 1 = R) (hR : R ≤ 3) (hl : left.length = C) (hC : C ≤ 3) :
    setAt (ints g) (P.length * 3) ((ints left).take (min C 3)) = ints (grid9 (P ++ [left])) := by
  obtain ⟨h9, hg⟩ := h
  have e0 : (ints left).take (min C 3) = ints left := List.take_of_length_le (by rw [ints_length]; omega)
  rw [e0]
  have hset : setAt (ints g) (P.length * 3) (ints left) = ints (g.take (P.length * 3) ++ left ++ g.drop (P.length * 3 + left.length)) := by
    simp [setAt, ints]
  rw [hset]
  congr 1
  refine eq_of_getD (by simp [grid9_len]; omega) fun q hq => ?_
  have hq9 : q < 9 := by simp at hq; omega
  have hab : q = 3 * (q / 3) + q % 3 := by omega
  rw [hab, grid9_getD _ (by omega) (by omega)]
  obtain ⟨g1, _, g3⟩ := hg (q / 3) (q % 3) (by omega) (by omega)
  rw [← hab] at g1 g3 ⊢
  have gd : ∀ (l : List Int) k, l.getD k 0 = (l[k]?).getD 0 := fun l k => List.getD_eq_getElem?_getD ..
  rcases Nat.lt_or_ge (q / 3) P.length with h1 | h1
  · have e : (P ++ [left]).getD (q / 3) [] = P.getD (q / 3) [] := by
      simp only [List.getD_eq_getElem?_getD, List.getElem?_append_left h1]
    rw [e, ← g1 h1, gd, gd, List.append_assoc, List.getElem?_append_left (by simp; omega), List.getElem?_take_of_lt (by omega)]
  rcases Nat.lt_or_ge P.length (q / 3) with h2 | h2
  · have e : (P ++ [left]).getD (q / 3) [] = [] := by
      rw [List.getD_eq_getElem?_getD, List.getElem?_eq_none (by simp; omega)]; rfl
    rw [e, gd, List.getElem?_append_right (by simp; omega), List.getElem?_drop]
    have e2 : P.length * 3 + left.length + (q - (g.take (P.length * 3) ++ left).length) = q := by simp; omega
    rw [e2, ← gd, g3 (.inl (by omega))]; rfl
  · have hP3 : q / 3 = P.length := by omega
    have e : (P ++ [left]).getD (q / 3) [] = left := by
      rw [hP3, List.getD_eq_getElem?_getD, List.getElem?_append_right (by omega)]; simp
    rw [e, gd, gd]
    rcases Nat.lt_or_ge (q % 3) left.length with h3 | h3
    · rw [List.getElem?_append_left (by simp; omega), List.getElem?_append_right (by simp; omega)]
      congr 2
      simp; omega
    · rw [List.getElem?_append_right (by simp; omega), List.getElem?_drop, List.getElem?_eq_none h3]
      have e2 : P.length * 3 + left.length + (q - (g.take (P.length * 3) ++ left).length) = q := by simp; omega
      rw [e2, ← gd, g3 (.inr (by omega))]; rfl
theorem GOk.step {R C : Nat} {P : List (List Int)} {p g : List Int} {c : Int} (h : GOk R C P p g) (hP : P.length < R) (hp : p.length < C) (hR : R ≤ 3) (hC : C ≤ 3) : GOk R C P (p ++ [c]) (g.set (P.length * 3 + p.length) c) := by
  obtain ⟨h9, hg⟩ := h
  refine ⟨by simpa using h9, fun a b ha hb => ?_⟩
  obtain ⟨g1, g2, g3⟩ := hg a b ha hb
  rw [getD_set _ (by omega)]
  refine ⟨fun h1 => ?_, fun h1 h2 => ?_, fun h1 => ?_⟩
  · rw [if_neg (by omega)]; exact g1 h1
  · simp only [List.length_append, List.length_cons, List.length_nil] at h2
    by_cases hb2 : b = p.length
    · rw [if_pos (by omega), hb2, List.getD_eq_getElem?_getD, List.getElem?_append_right (by omega)]; simp
    · rw [if_neg (by omega), g2 h1 (by omega), List.getD_eq_getElem?_getD, List.getD_eq_getElem?_getD, List.getElem?_append_left (by omega)]
  · rw [if_neg (by omega)]; exact g3 h1
theorem GOk.back {R C : Nat} {P : List (List Int)} {p g : List Int} {c : Int} (h : GOk R C P (p ++ [c]) g) : GOk R C P p g :=
  ⟨h.1, fun a b ha hb => let ⟨g1, g2, g3⟩ := h.2 a b ha hb; ⟨g1, fun h1 h2 => by
    rw [g2 h1 (by simp; omega), List.getD_eq_getElem?_getD, List.getD_eq_getElem?_getD, List.getElem?_append_left h2], g3⟩⟩
theorem GOk.row {R C : Nat} {P : List (List Int)} {p g : List Int} (h : GOk R C P p g) (hp : p.length = C) : GOk R C (P ++ [p]) [] g :=
  ⟨h.1, fun a b ha hb => let ⟨g1, g2, g3⟩ := h.2 a b ha hb; ⟨fun h1 => by
    simp only [List.length_append, List.length_cons, List.length_nil] at h1
    by_cases h2 : a < P.length
    · rw [g1 h2]; simp only [List.getD_eq_getElem?_getD, List.getElem?_append_left h2]
    · have h3 : a = P.length := by omega
      have e : (P ++ [p]).getD a [] = p := by rw [h3, List.getD_eq_getElem?_getD, List.getElem?_append_right (by omega)]; simp
      rw [e]
      by_cases h4 : b < p.length
      · exact g2 h3 h4
      · rw [g3 (.inr (by omega)), List.getD_eq_getElem?_getD, List.getElem?_eq_none (by omega)]; rfl, fun _ h => absurd h (Nat.not_lt_zero _), g3⟩⟩
theorem GOk.unrow {R C : Nat} {P : List (List Int)} {p g : List Int} (h : GOk R C (P ++ [p]) [] g) (hp : p.length ≤ C) : GOk R C P p g :=
  ⟨h.1, fun a b ha hb => let ⟨g1, g2, g3⟩ := h.2 a b ha hb; ⟨fun h1 => by
    rw [g1 (by simp; omega)]; simp only [List.getD_eq_getElem?_getD, List.getElem?_append_left h1], fun h1 h2 => by
    rw [g1 (by simp; omega)]
    have e : (P ++ [p]).getD a [] = p := by rw [h1, List.getD_eq_getElem?_getD, List.getElem?_append_right (by omega)]; simp
    rw [e], g3⟩⟩
end Go.Proofs
set_option linter.unusedSimpArgs false
namespace Go.Proofs
open Go.Hx

/-- Where the iterator's variables lie. -/
structure PC where
  rows : List Int
  cols : List Int
  rb : Nat
  gb : Nat
  lb : Nat
  ld : Nat
  ldg : Nat
  yb : Nat
  cb : Nat
  pb : Nat
  idy : Nat
def PC.caps (c : PC) : List AVal := [.ptr c.rb 0 0, .ptr c.gb 0 0, .ptr c.lb 0 0, .ptr c.yb 0 0, .ptr c.cb 0 0, .ptr c.pb 0 0]
structure PInv (c : PC) (H : AHeap) (g left : List Int) : Prop where
  r : H.get c.rb = some (.arr 0 46 [vecI c.rows])
  g : H.get c.gb = some (.arr 0 76 (ints g))
  l : H.get c.lb = some (.arr 0 46 [.own c.ld c.ldg 0 c.cols.length 1])
  d : H.get c.ld = some (.arr c.ldg 3 (ints left))
  y : H.get c.yb = some (.arr 0 89 [.yld c.idy])
  cc : H.get c.cb = some (.arr 0 46 [vecI c.cols])
  p : H.get c.pb = some (.arr 0 90 [.clo 54 [] c.caps])
structure PNe (c : PC) : Prop where
  a1 : ¬ c.rb = c.gb
  a2 : ¬ c.lb = c.gb
  a3 : ¬ c.ld = c.gb
  a4 : ¬ c.yb = c.gb
  a5 : ¬ c.cb = c.gb
  a6 : ¬ c.pb = c.gb
  b1 : ¬ c.rb = c.ld
  b2 : ¬ c.lb = c.ld
  b3 : ¬ c.gb = c.ld
  b4 : ¬ c.yb = c.ld
  b5 : ¬ c.cb = c.ld
  b6 : ¬ c.pb = c.ld
theorem PInv.ne {c : PC} {H : AHeap} {g left : List Int} (h : PInv c H g left) : PNe c where
  a1 e := by have := h.r; rw [e, h.g] at this; simp at this
  a2 e := by have := h.l; rw [e, h.g] at this; simp at this
  a3 e := by have := h.d; rw [e, h.g] at this; simp at this
  a4 e := by have := h.y; rw [e, h.g] at this; simp at this
  a5 e := by have := h.cc; rw [e, h.g] at this; simp at this
  a6 e := by have := h.p; rw [e, h.g] at this; simp at this
  b1 e := by have := h.r; rw [e, h.d] at this; simp at this
  b2 e := by have := h.l; rw [e, h.d] at this; simp at this
  b3 e := by have := h.g; rw [e, h.d] at this; simp at this
  b4 e := by have := h.y; rw [e, h.d] at this; simp at this
  b5 e := by have := h.cc; rw [e, h.d] at this; simp at this
  b6 e := by have := h.p; rw [e, h.d] at this; simp at this
theorem PInv.upG {c : PC} {H : AHeap} {g left : List Int} (h : PInv c H g left) (g' : List Int) : PInv c (H.upd c.gb (.arr 0 76 (ints g'))) g' left := by
  have n := h.ne
  exact ⟨by rw [upd_get, if_neg n.a1]; exact h.r, by rw [upd_get, if_pos rfl], by rw [upd_get, if_neg n.a2]; exact h.l, by rw [upd_get, if_neg n.a3]; exact h.d, by rw [upd_get, if_neg n.a4]; exact h.y, by rw [upd_get, if_neg n.a5]; exact h.cc, by rw [upd_get, if_neg n.a6]; exact h.p⟩
theorem PInv.upL {c : PC} {H : AHeap} {g left : List Int} (h : PInv c H g left) (l' : List Int) : PInv c (H.upd c.ld (.arr c.ldg 3 (ints l'))) g l' := by
  have n := h.ne
  exact ⟨by rw [upd_get, if_neg n.b1]; exact h.r, by rw [upd_get, if_neg n.b3]; exact h.g, by rw [upd_get, if_neg n.b2]; exact h.l, by rw [upd_get, if_pos rfl], by rw [upd_get, if_neg n.b4]; exact h.y, by rw [upd_get, if_neg n.b5]; exact h.cc, by rw [upd_get, if_neg n.b6]; exact h.p⟩

theorem GOk.done2 {R C : Nat} {P : List (List Int)} {g left : List Int} (h : GOk R C P [] g) (hP : P.length + 1 = R) (hl : left.length = C) : GOk R C P [] (grid9 (P ++ [left])) := by
  obtain ⟨h9, hg⟩ := h
  refine ⟨grid9_len _, fun a b ha hb => ?_⟩
  obtain ⟨g1, _, g3⟩ := hg a b ha hb
  rw [grid9_getD _ ha hb]
  have low : a < P.length → (P ++ [left]).getD a [] = P.getD a [] := fun h1 => by simp only [List.getD_eq_getElem?_getD, List.getElem?_append_left h1]
  have high : P.length < a → (P ++ [left]).getD a [] = [] := fun h1 => by rw [List.getD_eq_getElem?_getD, List.getElem?_eq_none (by simp; omega)]; rfl
  refine ⟨fun h1 => by rw [low h1], fun _ h2 => absurd h2 (Nat.not_lt_zero _), fun h1 => ?_⟩
  rcases Nat.lt_or_ge a P.length with h2 | h2
  · rw [low h2, ← g1 h2]; exact g3 h1
  rcases Nat.lt_or_ge P.length a with h3 | h3
  · rw [high h3]; rfl
  · have e : (P ++ [left]).getD a [] = left := by
      have : a = P.length := by omega
      rw [this, List.getD_eq_getElem?_getD, List.getElem?_append_right (by omega)]; simp
    rw [e, List.getD_eq_getElem?_getD, List.getElem?_eq_none (by omega)]; rfl
theorem sum_set : ∀ {l : List Int} {j : Nat} {m : Int} (v : Int), l[j]? = some m → (l.set j v).sum = l.sum - m + v
  | [], j, m, v, h => by simp at h
  | a :: l, 0, m, v, h => by
    simp only [List.getElem?_cons_zero, Option.some.injEq] at h
    subst h
    simp only [List.set_cons_zero, List.sum_cons]; omega
  | a :: l, j + 1, m, v, h => by
    have := sum_set (l := l) (j := j) v (by simpa using h)
    simp only [List.set_cons_succ, List.sum_cons, this]; omega
theorem Cap.set {l : List Int} {j : Nat} {v : Int} (h : Cap l) (hv : 0 ≤ v ∧ v ≤ 20) : Cap (l.set j v) := fun c hc => by
  rcases List.mem_or_eq_of_mem_set hc with h1 | rfl
  · exact h c h1
  · exact hv
theorem set_back {l : List Int} {j : Nat} {m v : Int} (hm : l[j]? = some m) : (l.set j v).set j m = l := by
  rw [List.set_set]
  refine List.ext_getElem? fun i => ?_
  by_cases h : i = j
  · subst h
    have hl : i < l.length := by
      rcases Nat.lt_or_ge i l.length with h | h
      · exact h
      · rw [List.getElem?_eq_none h] at hm; cases hm
    rw [List.getElem?_set_self hl, hm]
  · rw [List.getElem?_set_ne (by omega)]
theorem get_set_self {l : List Int} {j : Nat} {m v : Int} (hm : l[j]? = some m) : (l.set j v)[j]? = some v := by
  have hl : j < l.length := by
    rcases Nat.lt_or_ge j l.length with h | h
    · exact h
    · rw [List.getElem?_eq_none h] at hm; cases hm
  rw [List.getElem?_set_self hl]
theorem drop_sum {l : List Int} {i : Nat} {s : Int} (h : l[i]? = some s) : (l.drop i).sum = s + (l.drop (i + 1)).sum := by
  rw [drop_some h]; simp
theorem cnt_split : ∀ (n k : Nat), k < n → ∃ l, cnt (n : Int) = cnt (k : Int) ++ (k : Int) :: l
  | 0, k, h => absurd h (Nat.not_lt_zero _)
  | n + 1, k, h => by
    have e : ((n + 1 : Nat) : Int) = (n : Int) + 1 := by omega
    rw [e, cnt_succ]
    by_cases hk : k = n
    · subst hk; exact ⟨[], rfl⟩
    · obtain ⟨l, hl⟩ := cnt_split n k (by omega)
      exact ⟨l ++ [(n : Int)], by rw [hl]; simp⟩
theorem partU_func (a b : Array TypeId) (v : Bool) (n : Nat) (cells : List AVal) (off : Nat) : partU (some (.func a b v)) n cells off = cells[off]? := rfl
theorem place_spec (c : PC) (full : List (List (List Int))) (J : List (List (List Int)) → AHeap → Prop) (hR : 2 ≤ c.rows.length ∧ c.rows.length ≤ 3) (hC : 2 ≤ c.cols.length ∧ c.cols.length ≤ 3) (hrows : ∀ s, s ∈ c.rows → 0 ≤ s ∧ s ≤ 20)
    (hJ : ∀ acc H id x, id = c.gb ∨ id = c.ld → J acc H → J acc (H.upd id x))
    (hY : ∀ acc x left H K, J acc H → PInv c H (grid9 x) left → (∃ tl, full = acc ++ x :: tl) → (∀ H', J (acc ++ [x]) H' → PInv c H' (grid9 x) left → H.next ≤ H'.next → K (.ret (.lit (.bool true))) H') → AApply Tryd.prog G0 (.yld c.idy) [.agg (ints (grid9 x))] H K) :
    ∀ (n i j : Nat) (rest : Int) (P : List (List Int)) (p g left : List Int) (acc : List (List (List Int))) (H : AHeap) (K : ARes → AHeap → Prop), (c.rows.length - i) * 4 + (c.cols.length - j) ≤ n → i < c.rows.length → j < c.cols.length → P.length = i → p.length = j → left.length = c.cols.length → Cap left →
      0 ≤ rest → rest ≤ 20 → left.sum = rest + (c.rows.drop (i + 1)).sum → (i + 1 = c.rows.length → j = 0) → GOk c.rows.length c.cols.length P p g → PInv c H g left → J acc H → (∃ tl, full = acc ++ yieldsP c.rows i j rest left P p ++ tl) →
      (∀ g' H', GOk c.rows.length c.cols.length P p g' → PInv c H' g' left → J (acc ++ yieldsP c.rows i j rest left P p) H' → H.next ≤ H'.next → K (.ret (.lit (.bool true))) H') →
      ACall Tryd.prog G0 54 ([.lit (.int .i64 i), .lit (.int .i64 j), .lit (.int .i64 rest)] ++ c.caps) H K := by
  intro n
  induction n with
  | zero => intro i j rest P p g left acc H K hn hi hj; omega
  | succ n ih =>
    intro i j rest P p g left acc H K hn hi hj hP hp hll hcap hr0 hr20 hsum hlast hg hI hJ0 hfull hK
    have N := hI.ne
    have v1 := get_live hI.r
    have v2 := get_live hI.g
    have v3 := get_live hI.l
    have v4 := get_live hI.d
    have v5 := get_live hI.y
    have v6 := get_live hI.cc
    have v7 := get_live hI.p
    have hg9 := hg.1
    obtain ⟨R, hRe⟩ : ∃ R, R = c.rows.length := ⟨_, rfl⟩
    obtain ⟨C, hCe⟩ : ∃ C, C = c.cols.length := ⟨_, rfl⟩
    rw [← hRe] at hR
    rw [← hCe] at hC
    have wR := IntWalk.i64_in ((R : Int) - 1) (by omega)
    have wC := IntWalk.i64_in ((C : Int) - 1) (by omega)
    show ACall Tryd.prog G0 54 [.lit (.int .i64 i), .lit (.int .i64 j), .lit (.int .i64 rest), .ptr c.rb 0 0, .ptr c.gb 0 0, .ptr c.lb 0 0, .ptr c.yb 0 0, .ptr c.cb 0 0, .ptr c.pb 0 0] H K
    refine ACall.of_body (n := 109) (rs := [.tmp 12]) Tryd.func54 rfl rfl rfl (by decide) (by kernel_rfl) (by simp) ?_
    by_cases hiR : i + 1 = R
    · have hj0 := hlast (by omega)
      subst hj0
      obtain rfl := List.eq_nil_of_length_eq_zero hp
      have e1 : decide ((i : Int) = (R : Int) - 1) = true := decide_eq_true (by omega)
      simp (config := { maxSteps := 1000000 }) only [go_sem, Int.reduceToNat, Int.reduceLE, Int.reduceLT, Int.reduceAdd, Int.reduceSub, Int.reduceMul, Int.reduceEq, Int.reduceNe, Nat.reduceEqDiff, Nat.reducePow, Nat.reduceDiv, Nat.reduceMod, Nat.reduceAdd, Nat.reduceMul, Nat.reduceSub, Nat.reduceLT, Nat.reduceLeDiff, reduceIte, reduceCtorEq, PC.caps, v1, v2, v3, v4, v5, v6, v7, ← hRe, ← hCe, wR, wC, e1, appendA_U]
      refine W.draw 4 [0, 1, 3, 0] Tryd.mixed (by kernel_rfl) (by kernel_rfl) ?_
      have hi3 : (i : Int) < 3 := by omega
      have hlm : (ints left).take C = ints left := List.take_of_length_le (by rw [ints_length, hll, hCe]; omega)
      have hdone := hg.done (left := left) (by omega) (by omega) hll (by omega)
      rw [hP, ← hCe] at hdone
      have hg2 := grid9_len (P ++ [left])
      have e3 : (ints (grid9 (P ++ [left]))).take 9 = ints (grid9 (P ++ [left])) := List.take_of_length_le (by rw [ints_length]; omega)
      simp (config := { maxSteps := 1000000 }) only [go_sem, Int.reduceToNat, Int.reduceLE, Int.reduceLT, Int.reduceAdd, Int.reduceSub, Int.reduceMul, Int.reduceEq, Int.reduceNe, Nat.reduceEqDiff, Nat.reducePow, Nat.reduceDiv, Nat.reduceMod, Nat.reduceAdd, Nat.reduceMul, Nat.reduceSub, Nat.reduceLT, Nat.reduceLeDiff, reduceIte, reduceCtorEq, v1, v2, v3, v4, v5, v6, v7, ← hRe, ← hCe, wR, wC, e1, hi3, hg9, hlm, hdone, live_upd, upd_next, N.a1, N.a2, N.a3, N.a4, N.a5, N.a6, partU_func, e3, hg2, all_one_ints, appendA_U]
      have hd0 : c.rows.drop (i + 1) = [] := List.drop_of_length_le (by omega)
      have hrs : rest = left.sum := by rw [hd0] at hsum; simp at hsum; omega
      have hyl : yieldsP c.rows i 0 rest left P [] = [P ++ [left]] := by rw [hrs]; exact yields_last (by omega) fun q hq => (hcap q hq).1
      rw [hyl] at hfull hK
      refine ⟨by omega, by omega, hY acc (P ++ [left]) left _ _ (hJ _ _ _ _ (.inl rfl) hJ0) (hI.upG _) (by simpa using hfull) fun H' hJ' hI' hn' => ⟨trivial, ?_⟩⟩
      simp (config := { maxSteps := 1000000 }) only [go_sem, Int.reduceToNat, Int.reduceLE, Int.reduceLT, Int.reduceAdd, Int.reduceSub, Int.reduceMul, Int.reduceEq, Int.reduceNe, Nat.reduceEqDiff, Nat.reducePow, Nat.reduceDiv, Nat.reduceMod, Nat.reduceAdd, Nat.reduceMul, Nat.reduceSub, Nat.reduceLT, Nat.reduceLeDiff, reduceIte, reduceCtorEq, appendA_U]
      exact FinV.mk hn' (hK _ H' (hg.done2 (by omega) hll) hI' hJ' hn')
    · have hi3 : (i : Int) < 3 := by omega
      have e1 : decide ((i : Int) = (R : Int) - 1) = false := decide_eq_false (by omega)
      obtain ⟨m, hm⟩ : ∃ m, left[j]? = some m := ⟨_, List.getElem?_eq_getElem (by omega)⟩
      obtain ⟨s, hs⟩ : ∃ s, c.rows[i + 1]? = some s := ⟨_, List.getElem?_eq_getElem (by omega)⟩
      have hm0 := hcap m (List.mem_of_getElem? hm)
      have hs0 := hrows s (List.mem_of_getElem? hs)
      have hlne : ¬ left = [] := by rintro rfl; simp at hm
      have hrne : ¬ c.rows = [] := by intro h; rw [h] at hs; simp at hs
      have hjc : (j : Int) < C := by omega
      have hic : (i : Int) + 1 < R := by omega
      have hj3 : (j : Int) < 3 := by omega
      by_cases hjC : j + 1 = C
      · have e2 : decide ((j : Int) = (C : Int) - 1) = true := decide_eq_true (by omega)
        by_cases hrm : m < rest
        · simp (config := { maxSteps := 1000000 }) only [go_sem, Int.reduceToNat, Int.reduceLE, Int.reduceLT, Int.reduceAdd, Int.reduceSub, Int.reduceMul, Int.reduceEq, Int.reduceNe, Nat.reduceEqDiff, Nat.reducePow, Nat.reduceDiv, Nat.reduceMod, Nat.reduceAdd, Nat.reduceMul, Nat.reduceSub, Nat.reduceLT, Nat.reduceLeDiff, reduceIte, reduceCtorEq, v1, v2, v3, v4, v5, v6, v7, ← hRe, ← hCe, wR, wC, e1, e2, hjc, hm, hlne, hrm, appendA_U]
          have hyl : yieldsP c.rows i j rest left P p = [] := yields_none (by omega) hm hr0 hrm
          rw [hyl] at hK
          exact FinV.mk (Nat.le_refl _) (hK g H hg hI (by simpa using hJ0) (Nat.le_refl _))
        · have w1 := IntWalk.i64_in (m - rest) (by omega)
          have w2 := IntWalk.i64_in ((i : Int) + 1) (by omega)
          have st1 : setAt (ints g) (i * 3 + j) [.lit (.int .i64 rest)] = ints (g.set (i * 3 + j) rest) := setAt_ints rest (by omega)
          have st2 : setAt (ints left) j [.lit (.int .i64 (m - rest))] = ints (left.set j (m - rest)) := setAt_ints _ (by omega)
          simp (config := { maxSteps := 1000000 }) only [go_sem, Int.reduceToNat, Int.reduceLE, Int.reduceLT, Int.reduceAdd, Int.reduceSub, Int.reduceMul, Int.reduceEq, Int.reduceNe, Nat.reduceEqDiff, Nat.reducePow, Nat.reduceDiv, Nat.reduceMod, Nat.reduceAdd, Nat.reduceMul, Nat.reduceSub, Nat.reduceLT, Nat.reduceLeDiff, reduceIte, reduceCtorEq, v1, v2, v3, v4, v5, v6, v7, ← hRe, ← hCe, wR, wC, e1, e2, hjc, hm, hlne, hrm, hi3, hj3, hg9, live_upd, upd_next, N.a1, N.a2, N.a3, N.a4, N.a5, N.a6, N.b1, N.b2, N.b3, N.b4, N.b5, N.b6, partU_func, st1, st2, w1, appendA_U]
          repeat (refine And.intro (by first | omega | (simp; done) | (simp; omega) | (intros; omega) | exact ⟨rfl, by omega, by omega, all_one_ints _⟩) ?_)
          have hI2 := (hI.upG (g.set (i * 3 + j) rest)).upL (left.set j (m - rest))
          obtain ⟨H2, hH2⟩ : ∃ H2, H2 = (H.upd c.gb (.arr 0 76 (ints (g.set (i * 3 + j) rest)))).upd c.ld (.arr c.ldg 3 (ints (left.set j (m - rest)))) := ⟨_, rfl⟩
          have hJ2 : J acc H2 := by rw [hH2]; exact hJ _ _ _ _ (.inr rfl) (hJ _ _ _ _ (.inl rfl) hJ0)
          have hn2 : H2.next = H.next := by rw [hH2]; rfl
          rw [← hH2] at hI2 ⊢
          have u1 := get_live hI2.r
          have u2 := get_live hI2.p
          have u3 : (R : Int) ≤ 3 := by omega
          have w3 : ((i : Int) + 1).toNat = i + 1 := by omega
          have w4 : 0 ≤ (i : Int) + 1 := by omega
          refine W.draw 8 [0, 0, 2, 0, 0, 16, 56, 120] Tryd.mixed (by kernel_rfl) (by kernel_rfl) ?_
          simp (config := { maxSteps := 1000000 }) only [go_sem, Int.reduceToNat, Int.reduceLE, Int.reduceLT, Int.reduceAdd, Int.reduceSub, Int.reduceMul, Int.reduceEq, Int.reduceNe, Nat.reduceEqDiff, Nat.reducePow, Nat.reduceDiv, Nat.reduceMod, Nat.reduceAdd, Nat.reduceMul, Nat.reduceSub, Nat.reduceLT, Nat.reduceLeDiff, reduceIte, reduceCtorEq, u1, u2, w2, ← hRe, hic, hs, hrne, partU_func, w3, w4, appendA_U]
          have hyl : yieldsP c.rows i j rest left P p = yieldsP c.rows (i + 1) 0 s (left.set j (m - rest)) (P ++ [p ++ [rest]]) [] := yields_row (by omega) hm hr0 (by omega) hs
          rw [hyl] at hfull hK
          have hds := drop_sum hs
          have ec : (i : Int) + 1 = ((i + 1 : Nat) : Int) := by omega
          rw [ec]
          refine AApply.clo (ih (i + 1) 0 s (P ++ [p ++ [rest]]) [] (g.set (i * 3 + j) rest) (left.set j (m - rest)) acc H2 _ (by omega) (by omega) (by omega) (by simp [hP]) rfl (by simpa using hll) (hcap.set (by omega)) hs0.1 hs0.2
            (by rw [sum_set _ hm]; omega) (fun _ => rfl) ?_ hI2 hJ2 hfull fun g' H' hg' hI' hJ' hn' => ⟨trivial, ?_⟩)
          · have := hg.step (c := rest) (by omega) (by omega) (by omega) (by omega)
            rw [hP, hp] at this
            exact this.row (by simp; omega)
          have y1 := get_live hI'.l
          have y2 := get_live hI'.d
          have y3 := get_set_self (v := m - rest) hm
          have w5 := IntWalk.i64_in (m - rest + rest) (by omega)
          have ne1 : ¬ left.set j (m - rest) = [] := by intro h; rw [h] at y3; simp at y3
          have st3 : setAt (ints (left.set j (m - rest))) j [.lit (.int .i64 (m - rest + rest))] = ints left := by
            rw [setAt_ints _ (by simp; omega), Int.sub_add_cancel, set_back hm]
          simp (config := { maxSteps := 1000000 }) only [go_sem, Int.reduceToNat, Int.reduceLE, Int.reduceLT, Int.reduceAdd, Int.reduceSub, Int.reduceMul, Int.reduceEq, Int.reduceNe, Nat.reduceEqDiff, Nat.reducePow, Nat.reduceDiv, Nat.reduceMod, Nat.reduceAdd, Nat.reduceMul, Nat.reduceSub, Nat.reduceLT, Nat.reduceLeDiff, reduceIte, reduceCtorEq, y1, y2, y3, w5, ne1, st3, hjc, ← hCe, hRe, appendA_U]
          refine ⟨by simp; omega, FinV.mk (by rw [upd_next]; omega) (hK g' _ (hg'.unrow (by simp; omega)).back (hI'.upL left) (hJ _ _ _ _ (.inr rfl) hJ') (by rw [upd_next]; omega))⟩
      · have e2 : decide ((j : Int) = (C : Int) - 1) = false := decide_eq_false (by omega)
        obtain ⟨mn, hmn⟩ : ∃ mn, (if m < rest then m else rest) = mn := ⟨_, rfl⟩
        have hmn2 : mn = min rest m := by rw [← hmn]; split <;> omega
        have w0 := IntWalk.i64_in (mn + 1) (by omega)
        simp (config := { maxSteps := 1000000 }) only [go_sem, Int.reduceToNat, Int.reduceLE, Int.reduceLT, Int.reduceAdd, Int.reduceSub, Int.reduceMul, Int.reduceEq, Int.reduceNe, Nat.reduceEqDiff, Nat.reducePow, Nat.reduceDiv, Nat.reduceMod, Nat.reduceAdd, Nat.reduceMul, Nat.reduceSub, Nat.reduceLT, Nat.reduceLeDiff, reduceIte, reduceCtorEq, v1, v2, v3, v4, v5, v6, v7, ← hRe, ← hCe, wR, wC, e1, e2, hjc, hm, hlne, hmn, w0, appendA_U]
        refine W.loop0 649037107241295589840397717786624 (by rfl) (fun ρ H' => ∃ (k : Nat) (g2 : List Int), ρ 76 = lin k ∧ (k : Int) ≤ mn + 1 ∧ GOk c.rows.length c.cols.length P p g2 ∧ PInv c H' g2 left ∧ J (acc ++ (cnt k).flatMap fun q => yieldsP c.rows i (j + 1) (rest - q) (left.set j (m - q)) P (p ++ [q])) H' ∧ H.next ≤ H'.next) (fun ρ H => 22 - (iv (ρ 76)).toNat) ?_ ?_
        · simp (config := { maxSteps := 1000000 }) only [go_sem, Int.reduceToNat, Int.reduceLE, Int.reduceLT, Int.reduceAdd, Int.reduceSub, Int.reduceMul, Int.reduceEq, Int.reduceNe, Nat.reduceEqDiff, Nat.reducePow, Nat.reduceDiv, Nat.reduceMod, Nat.reduceAdd, Nat.reduceMul, Nat.reduceSub, Nat.reduceLT, Nat.reduceLeDiff, reduceIte, reduceCtorEq, appendA_U]
          exact ⟨0, g, rfl, by omega, hg, hI, by simpa [cnt] using hJ0⟩
        rintro ρ H' ⟨k, g2, h76, hk, hg2, hI2, hJ2, hn2⟩
        refine vc_sound _ _ _ (by rfl) ?_
        have x1 := get_live hI2.r
        have x2 := get_live hI2.g
        have x3 := get_live hI2.l
        have x4 := get_live hI2.d
        have x7 := get_live hI2.p
        have hyc := yields_cnt (rows := c.rows) (left := left) (i := i) (j := j) (rest := rest) (m := m) (P := P) (p := p) hm
        by_cases hb : (k : Int) < mn + 1
        rotate_left
        · simp (config := { maxSteps := 1000000 }) only [go_sem, Int.reduceToNat, Int.reduceLE, Int.reduceLT, Int.reduceAdd, Int.reduceSub, Int.reduceMul, Int.reduceEq, Int.reduceNe, Nat.reduceEqDiff, Nat.reducePow, Nat.reduceDiv, Nat.reduceMod, Nat.reduceAdd, Nat.reduceMul, Nat.reduceSub, Nat.reduceLT, Nat.reduceLeDiff, reduceIte, reduceCtorEq, h76, hb, appendA_U]
          have ek : cnt (k : Int) = cnt (min rest m + 1) := by congr 1; omega
          rw [ek, ← hyc] at hJ2
          exact FinV.mk hn2 (hK g2 H' hg2 hI2 hJ2 hn2)
        have hg29 := hg2.1
        have w1 := IntWalk.i64_in (m - k) (by omega)
        have w2 := IntWalk.i64_in ((j : Int) + 1) (by omega)
        have w3 := IntWalk.i64_in (rest - k) (by omega)
        have st1 : setAt (ints g2) (i * 3 + j) [.lit (.int .i64 k)] = ints (g2.set (i * 3 + j) k) := setAt_ints _ (by omega)
        have st2 : setAt (ints left) j [.lit (.int .i64 (m - k))] = ints (left.set j (m - k)) := setAt_ints _ (by omega)
        simp (config := { maxSteps := 1000000 }) only [go_sem, Int.reduceToNat, Int.reduceLE, Int.reduceLT, Int.reduceAdd, Int.reduceSub, Int.reduceMul, Int.reduceEq, Int.reduceNe, Nat.reduceEqDiff, Nat.reducePow, Nat.reduceDiv, Nat.reduceMod, Nat.reduceAdd, Nat.reduceMul, Nat.reduceSub, Nat.reduceLT, Nat.reduceLeDiff, reduceIte, reduceCtorEq, h76, hb, x1, x2, x3, x4, x7, hjc, hm, hlne, hi3, hj3, hg29, ← hRe, ← hCe, live_upd, upd_next, N.a1, N.a2, N.a3, N.a4, N.a5, N.a6, N.b1, N.b2, N.b3, N.b4, N.b5, N.b6, partU_func, st1, st2, w1, w2, w3, appendA_U]
        repeat (refine And.intro (by first | omega | (simp; done) | (simp; omega) | (intros; omega) | exact ⟨rfl, by omega, by omega, all_one_ints _⟩) ?_)
        have hI3 := (hI2.upG (g2.set (i * 3 + j) k)).upL (left.set j (m - k))
        obtain ⟨H2, hH2⟩ : ∃ H2, H2 = (H'.upd c.gb (.arr 0 76 (ints (g2.set (i * 3 + j) k)))).upd c.ld (.arr c.ldg 3 (ints (left.set j (m - k)))) := ⟨_, rfl⟩
        have hJ3 : J (acc ++ (cnt k).flatMap fun q => yieldsP c.rows i (j + 1) (rest - q) (left.set j (m - q)) P (p ++ [q])) H2 := by rw [hH2]; exact hJ _ _ _ _ (.inr rfl) (hJ _ _ _ _ (.inl rfl) hJ2)
        have hn3 : H2.next = H'.next := by rw [hH2]; rfl
        rw [← hH2] at hI3 ⊢
        have hfull' : ∃ tl, full = (acc ++ (cnt k).flatMap fun q => yieldsP c.rows i (j + 1) (rest - q) (left.set j (m - q)) P (p ++ [q])) ++ yieldsP c.rows i (j + 1) (rest - k) (left.set j (m - k)) P (p ++ [(k : Int)]) ++ tl := by
          obtain ⟨tl, htl⟩ := hfull
          have en : min rest m + 1 = ((mn + 1).toNat : Int) := by omega
          obtain ⟨l, hl⟩ := cnt_split (mn + 1).toNat k (by omega)
          rw [hyc, en, hl, List.flatMap_append, List.flatMap_cons] at htl
          exact ⟨_, by rw [htl]; simp only [List.append_assoc]; rfl⟩
        have ec : (j : Int) + 1 = ((j + 1 : Nat) : Int) := by omega
        rw [ec]
        refine AApply.clo (ih i (j + 1) (rest - k) P (p ++ [(k : Int)]) (g2.set (i * 3 + j) k) (left.set j (m - k)) _ H2 _ (by omega) (by omega) (by omega) hP (by simp [hp]) (by simpa using hll) (hcap.set (by omega)) (by omega) (by omega)
          (by rw [sum_set _ hm]; omega) (fun h => absurd h (by omega)) ?_ hI3 hJ3 hfull' fun g' H5 hg' hI' hJ' hn' => ⟨trivial, ?_⟩)
        · have := hg2.step (c := k) (by omega) (by omega) (by omega) (by omega)
          rwa [hP, hp] at this
        have y1 := get_live hI'.l
        have y2 := get_live hI'.d
        have y3 := get_set_self (v := m - k) hm
        have w5 := IntWalk.i64_in (m - k + k) (by omega)
        have w6 := IntWalk.i64_in ((k : Int) + 1) (by omega)
        have ne1 : ¬ left.set j (m - k) = [] := by intro h; rw [h] at y3; simp at y3
        have st3 : setAt (ints (left.set j (m - k))) j [.lit (.int .i64 (m - k + k))] = ints left := by
          rw [setAt_ints _ (by simp; omega), Int.sub_add_cancel, set_back hm]
        simp (config := { maxSteps := 1000000 }) only [go_sem, Int.reduceToNat, Int.reduceLE, Int.reduceLT, Int.reduceAdd, Int.reduceSub, Int.reduceMul, Int.reduceEq, Int.reduceNe, Nat.reduceEqDiff, Nat.reducePow, Nat.reduceDiv, Nat.reduceMod, Nat.reduceAdd, Nat.reduceMul, Nat.reduceSub, Nat.reduceLT, Nat.reduceLeDiff, reduceIte, reduceCtorEq, y1, y2, y3, w5, w6, ne1, st3, hjc, ← hCe, h76, appendA_U]
        refine ⟨by simp; omega, by rw [upd_next]; omega, ⟨k + 1, g', by simp, by omega, by rw [hRe, hCe]; exact hg'.back, hI'.upL left, ?_, by rw [upd_next]; omega⟩, by omega⟩
        have e4 : ((k + 1 : Nat) : Int) = (k : Int) + 1 := by omega
        rw [e4, flatMap_cnt_succ, ← List.append_assoc]
        exact hJ _ _ _ _ (.inr rfl) hJ'
end Go.Proofs
set_option linter.unusedSimpArgs false
namespace Go.Proofs
open Go.Hx

theorem tables_clo (rows cols : List Int) (H : AHeap) (K : ARes → AHeap → Prop) (hK : K (.ret (.clo 53 [] [.ptr (H.next + 1) 0 0, .ptr H.next 0 0])) (ext H [.arr 0 46 [vecI rows], .arr 0 46 [vecI cols]])) :
    ACall Tryd.prog G0 40 [vecI rows, vecI cols] H K := by
  refine ACall.of_body (n := 6) (rs := [.tmp 4]) Tryd.func40 rfl rfl rfl (by decide) (by kernel_rfl) (by simp) ?_
  simp (config := { maxSteps := 1000000 }) only [go_sem, Int.reduceToNat, Int.reduceLE, Int.reduceLT, Int.reduceAdd, Int.reduceSub, Int.reduceMul, Int.reduceEq, Int.reduceNe, Nat.reduceEqDiff, Nat.reducePow, Nat.reduceDiv, Nat.reduceMod, Nat.reduceAdd, Nat.reduceMul, Nat.reduceSub, Nat.reduceLT, Nat.reduceLeDiff, reduceIte, reduceCtorEq, appendA_U]
  exact FinV.mk (by simp [ext_next]) hK

theorem gok_zero {R C : Nat} : GOk R C [] [] (List.replicate 9 0) := ⟨by simp, fun a b ha hb => by
  have e : (List.replicate 9 (0 : Int)).getD (3 * a + b) 0 = 0 := by
    rw [List.getD_eq_getElem?_getD, List.getElem?_replicate]; split <;> rfl
  exact ⟨fun h => absurd h (Nat.not_lt_zero _), fun _ h => absurd h (Nat.not_lt_zero _), fun _ => e⟩⟩

theorem iter_spec (rows cols : List Int) (hR : 2 ≤ rows.length ∧ rows.length ≤ 3) (hC : 2 ≤ cols.length ∧ cols.length ≤ 3) (hrows : ∀ s, s ∈ rows → 0 ≤ s ∧ s ≤ 20) (hcols : Cap cols) (hsum : rows.sum = cols.sum)
    (J : List (List (List Int)) → AHeap → Prop) (idy rb cb : Nat) (H : AHeap) (K : ARes → AHeap → Prop)
    (hb : ∀ acc H1, J acc H1 → H1.get rb = some (.arr 0 46 [vecI rows]) ∧ H1.get cb = some (.arr 0 46 [vecI cols])) (hrb : rb < H.next) (hcb : cb < H.next) (hr0 : H.get rb = some (.arr 0 46 [vecI rows])) (hc0 : H.get cb = some (.arr 0 46 [vecI cols]))
    (hJ0 : ∀ H', Over H H' → J [] H') (hJ : ∀ acc H1 id x, H.next ≤ id → id < H.next + 5 → J acc H1 → J acc (H1.upd id x))
    (hY : ∀ acc x H1 K, J acc H1 → H.next + 5 ≤ H1.next → (∃ tl, tablesL rows cols = acc ++ x :: tl) → (∀ H', J (acc ++ [x]) H' → (∀ id, H.next ≤ id → id < H.next + 5 → H'.get id = H1.get id) → H1.next ≤ H'.next → K (.ret (.lit (.bool true))) H') → AApply Tryd.prog G0 (.yld idy) [.agg (ints (grid9 x))] H1 K)
    (hK : ∀ H', J (tablesL rows cols) H' → H.next ≤ H'.next → K (.ret (.tup [])) H') :
    ACall Tryd.prog G0 53 [.yld idy, .ptr cb 0 0, .ptr rb 0 0] H K := by
  obtain ⟨s0, hs0⟩ : ∃ s, rows[0]? = some s := ⟨_, List.getElem?_eq_getElem (by omega)⟩
  have hrne : ¬ rows = [] := by rintro rfl; simp at hs0
  have hr0' : (0 : Int) < rows.length := by omega
  have cne : ¬ cols.length = 0 := by omega
  have l1 := get_live hr0
  have l2 := get_live hc0
  have nrb : ∀ k, ¬ rb = H.next + k := fun k => by omega
  have ncb : ∀ k, ¬ cb = H.next + k := fun k => by omega
  have o1 : ∀ L, (ext H L).live rb 0 = some (46, [vecI rows]) := fun L => by rw [ext_live_old hrb]; exact l1
  have o2 : ∀ L, (ext H L).live cb 0 = some (46, [vecI cols]) := fun L => by rw [ext_live_old hcb]; exact l2
  refine ACall.of_body (n := 16) (rs := []) Tryd.func53 rfl rfl rfl (by decide) (by kernel_rfl) (by simp) ?_
  simp (config := { maxSteps := 1000000 }) only [go_sem, Int.reduceToNat, Int.reduceLE, Int.reduceLT, Int.reduceAdd, Int.reduceSub, Int.reduceMul, Int.reduceEq, Int.reduceNe, Nat.reduceEqDiff, Nat.reducePow, Nat.reduceDiv, Nat.reduceMod, Nat.reduceAdd, Nat.reduceMul, Nat.reduceSub, Nat.reduceLT, Nat.reduceLeDiff, reduceIte, reduceCtorEq, o1, o2, cne, appendA_U]
  refine ⟨⟨rfl, by omega, by omega, all_one_ints _⟩, ⟨rfl, rfl, Nat.le_refl _⟩, ?_⟩
  let c : PC := { rows := rows, cols := cols, rb := rb, gb := H.next + 1, lb := H.next + 3, ld := H.next + 2, ldg := 1, yb := H.next, cb := cb, pb := H.next + 4, idy := idy }
  obtain ⟨H2, hH2⟩ : ∃ H2, H2 = ext H [.arr 0 89 [.yld idy], .arr 0 76 (ints (List.replicate 9 0)), .arr 1 3 (ints cols), .arr 0 46 [.own (H.next + 2) 1 0 cols.length 1], .arr 0 90 [.clo 54 [] c.caps]] := ⟨_, rfl⟩
  have hI : PInv c H2 (List.replicate 9 0) cols := by
    rw [hH2]
    exact ⟨by rw [get_ext_old H _ _ hrb]; exact hr0, get_ext H _ 1 (by simp), get_ext H _ 3 (by simp), get_ext H _ 2 (by simp), get_ext0 .., by rw [get_ext_old H _ _ hcb]; exact hc0, get_ext H _ 4 (by simp)⟩
  have hov : Over H H2 := by rw [hH2]; exact .ext _ _
  have hn2 : H2.next = H.next + 5 := by rw [hH2]; rfl
  have hzip : List.replicate 0 (AVal.lit (Value.int IntKind.i64 0)) ++ ints cols = ints cols := rfl
  show W _ _ _ _ _ _ ⟨_, ext H [.arr 0 89 [.yld idy], .arr 0 76 (ints (List.replicate 9 0)), .arr 1 3 (ints cols), .arr 0 46 [.own (H.next + 2) 1 0 cols.length 1], .arr 0 90 [.clo 54 [] c.caps]]⟩
  rw [← hH2]
  have u1 := get_live hI.p
  have u2 := get_live hI.r
  have u1' : H2.live (H.next + 4) 0 = some (90, [.clo 54 [] c.caps]) := u1
  have u2' : H2.live rb 0 = some (46, [vecI rows]) := u2
  refine W.draw 4 [0, 0, 2, 6] Tryd.mixed (by kernel_rfl) (by kernel_rfl) ?_
  simp (config := { maxSteps := 1000000 }) only [go_sem, Int.reduceToNat, Int.reduceLE, Int.reduceLT, Int.reduceAdd, Int.reduceSub, Int.reduceMul, Int.reduceEq, Int.reduceNe, Nat.reduceEqDiff, Nat.reducePow, Nat.reduceDiv, Nat.reduceMod, Nat.reduceAdd, Nat.reduceMul, Nat.reduceSub, Nat.reduceLT, Nat.reduceLeDiff, reduceIte, reduceCtorEq, u1', u2', hs0, hrne, hr0', partU_func, appendA_U]
  have hd0 : rows.drop (0 + 1) = rows.tail := by simp
  obtain ⟨rs, rfl⟩ : ∃ rs, rows = s0 :: rs := by
    cases rows with
    | nil => simp at hs0
    | cons a rs => simp at hs0; exact ⟨rs, by rw [hs0]⟩
  have hys : yieldsP (s0 :: rs) 0 0 s0 cols [] [] = tablesL (s0 :: rs) cols := yields_start
  have hs00 := hrows s0 (by simp)
  refine AApply.clo (place_spec c (tablesL (s0 :: rs) cols) (fun acc H1 => J acc H1 ∧ H.next + 5 ≤ H1.next) hR hC hrows (fun acc H1 id x hid hj => ⟨hJ acc H1 id x ?_ ?_ hj.1, hj.2⟩) (fun acc x left H1 K hj hI1 hf hk => ?_)
    100 0 0 s0 [] [] (List.replicate 9 0) cols [] H2 _ ?_ (by show 0 < (s0 :: rs).length; omega) (by show 0 < cols.length; omega) rfl rfl rfl hcols hs00.1 hs00.2 (by show cols.sum = s0 + rs.sum; rw [← hsum]; simp) (fun _ => rfl) gok_zero hI ⟨hJ0 H2 hov, by omega⟩ ⟨[], by show _ = [] ++ yieldsP (s0 :: rs) 0 0 s0 cols [] [] ++ []; rw [hys]; simp⟩ fun g' H' _ _ hj hn => ⟨trivial, ?_⟩)
  · rcases hid with rfl | rfl
    · show H.next ≤ H.next + 1; omega
    · show H.next ≤ H.next + 2; omega
  · rcases hid with rfl | rfl
    · show H.next + 1 < H.next + 5; omega
    · show H.next + 2 < H.next + 5; omega
  · refine hY acc x H1 K hj.1 hj.2 hf fun H' hj' hkeep hn' => hk H' ⟨hj', by have := hj.2; omega⟩ ?_ hn'
    obtain ⟨b1, b2⟩ := hb _ _ hj'
    exact ⟨b1, by rw [hkeep c.gb (by show H.next ≤ H.next + 1; omega) (by show H.next + 1 < _; omega)]; exact hI1.g, by rw [hkeep c.lb (by show H.next ≤ H.next + 3; omega) (by show H.next + 3 < _; omega)]; exact hI1.l,
      by rw [hkeep c.ld (by show H.next ≤ H.next + 2; omega) (by show H.next + 2 < _; omega)]; exact hI1.d, by rw [hkeep c.yb (Nat.le_refl _) (by show H.next < _; omega)]; exact hI1.y, b2, by rw [hkeep c.pb (by show H.next ≤ H.next + 4; omega) (by show H.next + 4 < _; omega)]; exact hI1.p⟩
  · show (rs.length + 1 - 0) * 4 + (cols.length - 0) ≤ 100
    simp at hR; omega
  · have hj' : J (tablesL (s0 :: rs) cols) H' := by
      have h1 := hj.1
      have e : ([] : List (List (List Int))) ++ yieldsP c.rows 0 0 s0 cols [] [] = tablesL (s0 :: rs) cols := hys
      rwa [e] at h1
    simp (config := { maxSteps := 1000000 }) only [go_sem, Int.reduceToNat, Int.reduceLE, Int.reduceLT, Int.reduceAdd, Int.reduceSub, Int.reduceMul, Int.reduceEq, Int.reduceNe, Nat.reduceEqDiff, Nat.reducePow, Nat.reduceDiv, Nat.reduceMod, Nat.reduceAdd, Nat.reduceMul, Nat.reduceSub, Nat.reduceLT, Nat.reduceLeDiff, reduceIte, reduceCtorEq, appendA_U]
    exact FinV.mk (by omega) (hK H' hj' (by omega))
end Go.Proofs
set_option linter.unusedSimpArgs false
namespace Go.Hx
variable {P : Program} {G : Nat → Option (List AVal)}
/-- One block let go, another one's cells read off. -/
def AHeap.melt (H : AHeap) (rk ob : Nat) (b : Blk) : AHeap := ⟨fun id => if id = rk then none else if id = ob then some b else H.get id, H.next⟩
theorem fzH_melt {H : AHeap} (hc : Clo H) {rk ob g : Nat} {e : TypeId} {cells cells' : List AVal} (hob : H.get ob = some (.arr g e cells)) (hne : ob ≠ rk) (hl : cells'.length = cells.length)
    (hcell : ∀ i (h : i < cells.length) (h' : i < cells'.length), Fz (fun id => id = rk) H H.next cells[i] cells'[i]) : FzH (fun id => id = rk) H (H.melt rk ob (.arr g e cells')) where
  gone id hs := by simp [AHeap.melt, hs]
  kept id b hs hb := by
    have hbb := hc.below id b hb
    refine ⟨hc.lt id b hb, ?_⟩
    by_cases h : id = ob
    · subst h
      rw [hob] at hb
      cases hb
      exact ⟨.arr g e cells', by simp [AHeap.melt, hs], rfl, rfl, hl, hcell⟩
    · refine ⟨b, by simp [AHeap.melt, hs, h, hb], ?_⟩
      cases b with
      | rsv => trivial
      | arr g e cells => exact ⟨rfl, rfl, rfl, fun i h _ => .dead (hbb i h)⟩
      | loop st pend n env ps asg body => exact ⟨rfl, rfl, rfl, rfl, rfl, rfl, rfl, fun t ht => .dead (hbb t ht)⟩
  none id hs hb := by
    by_cases h : id = ob
    · subst h; rw [hob] at hb; cases hb
    · simp [AHeap.melt, hs, h, hb]
theorem WeakS.melt (hG : GOk G) {s : St} {rk ob g : Nat} {e : TypeId} {cells cells' : List AVal} (hob : s.H.get ob = some (.arr g e cells)) (hne : ob ≠ rk) (hl : cells'.length = cells.length)
    (hcell : ∀ i (h : i < cells.length) (h' : i < cells'.length), Fz (fun id => id = rk) s.H s.H.next cells[i] cells'[i]) : WeakS P G s ⟨s.ρ, s.H.melt rk ob (.arr g e cells')⟩ := by
  intro n wb Γ a w hs
  exact WeakS.freeze (s := s) (s' := ⟨s.ρ, s.H.melt rk ob (.arr g e cells')⟩) hG (fzH_melt hs.heap.clo hob hne hl hcell) (fun t => .dead (hs.env t).belowN) n wb Γ a w hs
theorem W.env {n : Nat} {rd : Option Nat} {Q : AX → St → Prop} {c : Code} {ρ : Env} {H : AHeap} (h : ∀ E, E = ρ → W P G n rd c Q ⟨E, H⟩) : W P G n rd c Q ⟨ρ, H⟩ := h ρ rfl
theorem blk_gen {b : Blk} (Φ : Blk → Prop) (h : ∀ B, B = b → Φ B) : Φ b := h b rfl
theorem fz_mid {S : Nat → Prop} {H : AHeap} {nx : Nat} {A B : List AVal} {o o' : AVal} (hA : ∀ v, v ∈ A → Fz S H nx v v) (ho : Fz S H nx o o') (hB : ∀ v, v ∈ B → Fz S H nx v v) :
    ∀ i (h : i < (A ++ o :: B).length) (h' : i < (A ++ o' :: B).length), Fz S H nx (A ++ o :: B)[i] (A ++ o' :: B)[i] := by
  induction A with
  | nil =>
    intro i h h'
    cases i with
    | zero => exact ho
    | succ i => exact hB _ (List.getElem_mem (l := B) (by simpa using h))
  | cons a A ih =>
    intro i h h'
    cases i with
    | zero => exact hA a (by simp)
    | succ i => exact ih (fun v hv => hA v (by simp [hv])) i (by simpa using h) (by simpa using h')
theorem setAt_mid {A B : List AVal} {o o' : AVal} {i : Nat} (h : A.length = i) : setAt (A ++ o :: B) i [o'] = A ++ o' :: B := by
  subst h; simp [setAt]
theorem melt_next {H : AHeap} {rk ob : Nat} {b : Blk} : (H.melt rk ob b).next = H.next := rfl
theorem melt_ob {H : AHeap} {rk ob : Nat} {b : Blk} (h : ob ≠ rk) : (H.melt rk ob b).get ob = some b := by simp [AHeap.melt, h]
theorem melt_other {H : AHeap} {rk ob id : Nat} {b : Blk} (h : id ≠ rk) (h2 : id ≠ ob) : (H.melt rk ob b).get id = H.get id := by simp [AHeap.melt, h, h2]
end Go.Hx
namespace Go.Proofs
open Go.Hx

theorem All_spec (t : List (List Int)) (hlt : (t.length : Int) < 2 ^ 40) (hlr : ∀ r, r ∈ t → (r.length : Int) < 2 ^ 40) (H : AHeap) (K : ARes → AHeap → Prop)
    (hK : K (.ret (if TableOk t then .tup [vecT (allT t), .lit (.int .i64 0)] else .tup [vecT [], .lit (.int .i64 300)])) H) : ACall Tryd.prog G0 13 [vecV t] H K := by
  refine ACall.clo ⟨_, Tryd.func13, rfl, rfl⟩ fun hcl => ?_
  refine ACall.of_body (n := 50) (rs := [.tmp 2, .tmp 3]) Tryd.func13 rfl rfl rfl (by decide) (by kernel_rfl) (by simp) ?_
  simp (config := { maxSteps := 1000000 }) only [go_sem, Int.reduceToNat, Int.reduceLE, Int.reduceLT, Int.reduceAdd, Int.reduceSub, Int.reduceMul, Int.reduceEq, Int.reduceNe, Nat.reduceEqDiff, Nat.reducePow, Nat.reduceDiv, Nat.reduceMod, Nat.reduceAdd, Nat.reduceMul, Nat.reduceSub, Nat.reduceLT, Nat.reduceLeDiff, reduceIte, reduceCtorEq, vecV, appendA_U]
  refine AApply.clo (check_spec t hlt hlr H _ ⟨trivial, ?_⟩)
  by_cases hok : TableOk t
  rotate_left
  · rw [if_neg hok] at hK ⊢
    simp (config := { maxSteps := 1000000 }) only [go_sem, Int.reduceToNat, Int.reduceLE, Int.reduceLT, Int.reduceAdd, Int.reduceSub, Int.reduceMul, Int.reduceEq, Int.reduceNe, Nat.reduceEqDiff, Nat.reducePow, Nat.reduceDiv, Nat.reduceMod, Nat.reduceAdd, Nat.reduceMul, Nat.reduceSub, Nat.reduceLT, Nat.reduceLeDiff, reduceIte, reduceCtorEq, appendA_U]
    refine FinV.drop0 (v' := .tup [vecT [], .lit (.int .i64 300)]) G0_ok hcl (.tup rfl fun i hi _ => ?_) hK
    match i, hi with
    | 0, _ => exact .nil
    | 1, _ => exact .lit _
  rw [if_pos hok] at hK ⊢
  obtain ⟨r1, r2, r3⟩ := rows_le hok
  obtain ⟨c1, c2, c3⟩ := cols_ok hok
  have hR : 2 ≤ (rowsOf t).length ∧ (rowsOf t).length ≤ 3 := ⟨by have := hok.1; simpa [rowsOf] using this, r1⟩
  have hC : 2 ≤ (colsOf t).length ∧ (colsOf t).length ≤ 3 := ⟨by
    rw [colsOf_len]
    have h1 := hok.1
    have := rows_ok hok (t.headD []) (by cases t with | nil => simp at h1 | cons a l => simp)
    exact this.2.1, c1⟩
  simp (config := { maxSteps := 1000000 }) only [go_sem, Int.reduceToNat, Int.reduceLE, Int.reduceLT, Int.reduceAdd, Int.reduceSub, Int.reduceMul, Int.reduceEq, Int.reduceNe, Nat.reduceEqDiff, Nat.reducePow, Nat.reduceDiv, Nat.reduceMod, Nat.reduceAdd, Nat.reduceMul, Nat.reduceSub, Nat.reduceLT, Nat.reduceLeDiff, reduceIte, reduceCtorEq, appendA_U]
  refine AApply.clo (margins_spec t hok _ _ ⟨trivial, ?_⟩)
  simp (config := { maxSteps := 1000000 }) only [go_sem, Int.reduceToNat, Int.reduceLE, Int.reduceLT, Int.reduceAdd, Int.reduceSub, Int.reduceMul, Int.reduceEq, Int.reduceNe, Nat.reduceEqDiff, Nat.reducePow, Nat.reduceDiv, Nat.reduceMod, Nat.reduceAdd, Nat.reduceMul, Nat.reduceSub, Nat.reduceLT, Nat.reduceLeDiff, reduceIte, reduceCtorEq, appendA_U]
  refine AApply.clo (tables_clo (rowsOf t) (colsOf t) _ _ ⟨trivial, ?_⟩)
  simp (config := { maxSteps := 1000000 }) only [go_sem, Int.reduceToNat, Int.reduceLE, Int.reduceLT, Int.reduceAdd, Int.reduceSub, Int.reduceMul, Int.reduceEq, Int.reduceNe, Nat.reduceEqDiff, Nat.reducePow, Nat.reduceDiv, Nat.reduceMod, Nat.reduceAdd, Nat.reduceMul, Nat.reduceSub, Nat.reduceLT, Nat.reduceLeDiff, reduceIte, reduceCtorEq, appendA_U]
  obtain ⟨HB, hHB⟩ : ∃ HB, HB = ext (ext H [.arr 0 46 [vecI (rowsOf t)], .arr 0 46 [vecI (colsOf t)], .arr 0 26 [], .arr 0 31 [.own (H.next + 2) 0 0 0 1]]) [.arr 0 46 [vecI (rowsOf t)], .arr 0 46 [vecI (colsOf t)]] := ⟨_, rfl⟩
  have nB : HB.next = H.next + 6 := by rw [hHB]; rfl
  have ovB : Over H HB := by rw [hHB]; exact (Over.ext _ _).trans (Over.ext _ _)
  have g0 : HB.get H.next = some (.arr 0 46 [vecI (rowsOf t)]) := by rw [hHB, get_ext_old _ _ _ (by simp [ext_next]), get_ext0]
  have g1 : HB.get (H.next + 1) = some (.arr 0 46 [vecI (colsOf t)]) := by rw [hHB, get_ext_old _ _ _ (by simp [ext_next]), get_ext H _ 1 (by simp)]; rfl
  have g2 : HB.get (H.next + 2) = some (.arr 0 26 []) := by rw [hHB, get_ext_old _ _ _ (by simp [ext_next]), get_ext H _ 2 (by simp)]; rfl
  have g3 : HB.get (H.next + 3) = some (.arr 0 31 [.own (H.next + 2) 0 0 0 1]) := by rw [hHB, get_ext_old _ _ _ (by simp [ext_next]), get_ext H _ 3 (by simp)]; rfl
  have g4 : HB.get (H.next + 4) = some (.arr 0 46 [vecI (rowsOf t)]) := by rw [hHB]; exact get_ext0 (ext H _) _ _
  have g5 : HB.get (H.next + 4 + 1) = some (.arr 0 46 [vecI (colsOf t)]) := by rw [hHB]; exact get_ext (ext H _) _ 1 (by simp)
  show W _ _ _ _ _ _ ⟨_, ext (ext H [.arr 0 46 [vecI (rowsOf t)], .arr 0 46 [vecI (colsOf t)], .arr 0 26 [], .arr 0 31 [.own (H.next + 2) 0 0 0 1]]) [.arr 0 46 [vecI (rowsOf t)], .arr 0 46 [vecI (colsOf t)]]⟩
  rw [← hHB]
  refine W.env fun E hE => ?_
  have e5 : E 5 = .ptr H.next 0 0 := by rw [hE]; rfl
  have e6 : E 6 = .ptr (H.next + 1) 0 0 := by rw [hE]; rfl
  have e7 : E 7 = .ptr (H.next + 3) 0 0 := by rw [hE]; rfl
  refine W.rangeFunc (f := 53) (first := []) (cap := [.ptr (H.next + 4 + 1) 0 0, .ptr (H.next + 4) 0 0]) (by show E 24 = _; rw [hE]; rfl) ?_
  refine ⟨_, lay_next _ _, ?_⟩
  refine blk_gen (fun B => ACall _ _ _ _ (ext HB [B]) _) fun B hB => ?_
  obtain ⟨idy, hidy⟩ : ∃ idy, idy = HB.next := ⟨_, rfl⟩
  let J : List (List (List Int)) → AHeap → Prop := fun acc Hx => Hx.get idy = some B ∧ Hx.get H.next = some (.arr 0 46 [vecI (rowsOf t)]) ∧ Hx.get (H.next + 1) = some (.arr 0 46 [vecI (colsOf t)]) ∧ Hx.get (H.next + 4) = some (.arr 0 46 [vecI (rowsOf t)]) ∧ Hx.get (H.next + 4 + 1) = some (.arr 0 46 [vecI (colsOf t)]) ∧
    Over H Hx ∧ H.next + 7 ≤ Hx.next ∧ ∃ g cs, Hx.get (H.next + 3) = some (.arr 0 31 [.own (H.next + 2) g 0 cs.length 1]) ∧ Hx.get (H.next + 2) = some (.arr g 26 cs) ∧ cs.length = acc.length ∧
      ∀ (k : Nat) (x : List (List Int)) (c : AVal), acc[k]? = some x → cs[k]? = some c → OwnG (H.next + 12) Hx 46 c (x.map vecI)
  have nB1 : (ext HB [B]).next = H.next + 7 := by rw [ext_next, nB]; rfl
  have hsumRC : (rowsOf t).sum = (colsOf t).sum := by
    have : (colsOf t).sum = (rowsOf t).sum := by unfold colsOf; rw [colSum fun r hm => (rows_ok hok r hm).1]; rfl
    exact this.symm
  refine iter_spec (rowsOf t) (colsOf t) hR hC (fun s hs => ⟨r2 s hs, Int.le_trans (le_sum r2 s hs) r3⟩) (cols_cap hok) hsumRC J HB.next (H.next + 4) (H.next + 4 + 1) (ext HB [B]) _ (fun acc H1 h => ⟨h.2.2.2.1, h.2.2.2.2.1⟩) (by omega) (by omega)
    (by rw [ext1_get_old (by omega)]; exact g4) (by rw [ext1_get_old (by omega)]; exact g5) (fun H' ho => ?_) (fun acc H1 id x h1 h2 hj => ?_) (fun acc x H1 K1 hj hn hf hk => ?_) fun H' hj hn => ?_
  · have old : ∀ k, k < 6 → H'.get (H.next + k) = HB.get (H.next + k) := fun k hk => by rw [ho.old _ (by omega), ext1_get_old (by omega)]
    refine ⟨by rw [ho.old _ (by omega), hidy]; exact ext1_get_new, by have := old 0 (by omega); rw [Nat.add_zero] at this; rw [this]; exact g0, by rw [old 1 (by omega)]; exact g1, by rw [old 4 (by omega)]; exact g4, (old 5 (by omega)).trans g5,
      (ovB.trans (Over.ext _ _)).trans ho, by have := ho.next; omega, 0, [], by rw [old 3 (by omega)]; exact g3, by rw [old 2 (by omega)]; exact g2, rfl, fun k x c h => by simp at h⟩
  · rw [nB1] at h1 h2
    have ne : ∀ k, k < H.next + 7 → (H1.upd id x).get k = H1.get k := fun k hk => by rw [upd_get, if_neg (by omega)]
    obtain ⟨a1, a2, a3, a4, a5, a6, a7, g, cs, b1, b2, b3, b4⟩ := hj
    refine ⟨by rw [ne _ (by omega)]; exact a1, by rw [ne _ (by omega)]; exact a2, by rw [ne _ (by omega)]; exact a3, by rw [ne _ (by omega)]; exact a4, by rw [ne _ (by omega)]; exact a5, ⟨by rw [upd_next]; exact a6.next, fun k hk => by rw [ne _ (by omega)]; exact a6.old k hk⟩, by rw [upd_next]; exact a7, g, cs, by rw [ne _ (by omega)]; exact b1, by rw [ne _ (by omega)]; exact b2, b3, fun k y c h h' => ?_⟩
    exact (b4 k y c h h').keep (Nat.le_refl _) (Nat.le_refl _) fun id' g' h3 _ _ _ => by rw [upd_get, if_neg (by omega)]
  · obtain ⟨a1, a2, a3, a4, a5, a6, a7, g, cs, b1, b2, b3, b4⟩ := hj
    have hxm : x ∈ allT t := by
      obtain ⟨tl, htl⟩ := hf
      show x ∈ tablesL (rowsOf t) (colsOf t)
      rw [htl]; simp
    obtain ⟨x1, x2, x3, x4, x5⟩ := mem_allT hok hxm
    have a1' : H1.get HB.next = some B := by rw [← hidy]; exact a1
    obtain ⟨B2, hB2, hB2l⟩ : ∃ B2, beginA (some B) = some B2 ∧ ∃ st pd n en ps as' bo, B2 = Blk.loop st pd n en ps as' bo := by rw [hB]; exact ⟨_, rfl, _, _, _, _, _, _, _, rfl⟩
    obtain ⟨B3, hB3, hB3e⟩ : ∃ B3, setLoop .ready none (some B2) = some B3 ∧ B3 = B := by
      rw [hB] at hB2 ⊢
      cases hB2
      exact ⟨_, rfl, rfl⟩
    refine AApply.yld (a1'.trans (congrArg some hB)) rfl (by decide) ?_
    have hgx : ∀ L, (ext H1 L).get HB.next = some B := fun L => by rw [get_ext_old _ _ _ (by omega)]; exact a1'
    refine vc_sound _ _ _ (by rfl) ?_
    simp (config := { maxSteps := 1000000 }) only [go_sem, Int.reduceToNat, Int.reduceLE, Int.reduceLT, Int.reduceAdd, Int.reduceSub, Int.reduceMul, Int.reduceEq, Int.reduceNe, Nat.reduceEqDiff, Nat.reducePow, Nat.reduceDiv, Nat.reduceMod, Nat.reduceAdd, Nat.reduceMul, Nat.reduceSub, Nat.reduceLT, Nat.reduceLeDiff, reduceIte, reduceCtorEq, setPs, envN, asgQ, hgx, hB2, grid9_len, List.foldl_cons, List.foldl_nil, List.zip_cons_cons, List.zip_nil_right, appendA_U]
    refine ⟨all_one_ints _, ?_⟩
    obtain ⟨H3, hH3⟩ : ∃ H3, H3 = (ext H1 [.arr 0 76 (ints (grid9 x))]).upd HB.next B2 := ⟨_, rfl⟩
    rw [← hH3]
    have n3 : H3.next = H1.next + 1 := by rw [hH3]; rfl
    have h3old : ∀ id, id < H1.next → id ≠ HB.next → H3.get id = H1.get id := fun id h1 h2 => by rw [hH3, upd_get, if_neg h2, ext1_get_old h1]
    have h3g : H3.get H1.next = some (.arr 0 76 (ints (grid9 x))) := by rw [hH3, upd_get, if_neg (by omega)]; exact ext1_get_new
    have h3l : H3.get HB.next = some B2 := by rw [hH3, upd_get, if_pos rfl]
    have lrow : H3.live H.next 0 = some (46, [vecI (rowsOf t)]) := get_live ((h3old _ (by omega) (by omega)).trans a2)
    obtain ⟨R, hRe⟩ : ∃ R, R = t.length := ⟨_, rfl⟩
    obtain ⟨C, hCe⟩ : ∃ C, C = (colsOf t).length := ⟨_, rfl⟩
    have hrl : (rowsOf t).length = R := by rw [hRe]; simp [rowsOf]
    have q1 := hok.1
    have q2 := hok.2.1
    refine vc_sound _ _ _ (by rfl) ?_
    simp (config := { maxSteps := 1000000 }) only [go_sem, Int.reduceToNat, Int.reduceLE, Int.reduceLT, Int.reduceAdd, Int.reduceSub, Int.reduceMul, Int.reduceEq, Int.reduceNe, Nat.reduceEqDiff, Nat.reducePow, Nat.reduceDiv, Nat.reduceMod, Nat.reduceAdd, Nat.reduceMul, Nat.reduceSub, Nat.reduceLT, Nat.reduceLeDiff, reduceIte, reduceCtorEq, envN, e5, lrow, hrl, appendA_U]
    repeat (refine And.intro (by first | omega | (simp; done) | (simp; omega) | (intros; omega) | exact ⟨rfl, by omega, by omega, all_one_ints _⟩) ?_)
    have hxr : ∀ r, r ∈ x → r.length = C := fun r hr => by rw [hCe, colsOf_len, ← x4]; exact (rows_ok x1 r hr).1
    have lcol : (H3.get (H.next + 1)) = some (.arr 0 46 [vecI (colsOf t)]) := (h3old _ (by omega) (by omega)).trans a3
    refine W.loop 35182224606208 (by rfl) (fun ρ H' => ∃ i : Nat, ρ 31 = lin i ∧ i ≤ R ∧ (∀ id, id < H3.next → H'.get id = H3.get id) ∧ H'.get H3.next = some (.arr 0 46 ((x.take i).map vecI ++ List.replicate (R - i) (.lit (.slice none 0 0)))) ∧ H3.next + 1 ≤ H'.next) (fun ρ H' => R - (iv (ρ 31)).toNat) ?_ ?_
    · simp (config := { maxSteps := 1000000 }) only [go_sem, Int.reduceToNat, Int.reduceLE, Int.reduceLT, Int.reduceAdd, Int.reduceSub, Int.reduceMul, Int.reduceEq, Int.reduceNe, Nat.reduceEqDiff, Nat.reducePow, Nat.reduceDiv, Nat.reduceMod, Nat.reduceAdd, Nat.reduceMul, Nat.reduceSub, Nat.reduceLT, Nat.reduceLeDiff, reduceIte, reduceCtorEq, appendA_U]
      exact ⟨0, rfl, by omega, fun id h => ext1_get_old h, by simpa using ext1_get_new⟩
    rintro ρ H' ⟨i, h31, hi, hold, hone, hnx⟩
    refine vc_sound _ _ _ (by rfl) ?_
    by_cases hb : (i : Int) < R
    · obtain ⟨r, hri⟩ : ∃ r, x[i]? = some r := ⟨_, List.getElem?_eq_getElem (by omega)⟩
      have hrC := hxr r (List.mem_of_getElem? hri)
      have w1 := IntWalk.i64_in ((i : Int) + 1) (by omega)
      have m1 : H'.live (H.next + 1) 0 = some (46, [vecI (colsOf t)]) := get_live ((hold _ (by omega)).trans lcol)
      have m2 : H'.live H1.next 0 = some (76, ints (grid9 x)) := get_live ((hold _ (by omega)).trans h3g)
      have m3 := get_live hone
      have k1 : ∀ L, (ext H' L).live (H.next + 1) 0 = some (46, [vecI (colsOf t)]) := fun L => by rw [ext_live_old (by omega)]; exact m1
      have k2 : ∀ L, (ext H' L).live H1.next 0 = some (76, ints (grid9 x)) := fun L => by rw [ext_live_old (by omega)]; exact m2
      have k3 : ∀ L, (ext H' L).live H3.next 0 = some (46, (x.take i).map vecI ++ List.replicate (R - i) (.lit (.slice none 0 0))) := fun L => by rw [ext_live_old (by omega)]; exact m3
      have hC0 : ¬ C = 0 := by omega
      have hrone := all_one_ints r
      have hg9 := grid9_len x
      have hi3 : (i : Int) < 3 := by omega
      have hC3 : (C : Int) ≤ 3 := by omega
      have hrow : ((ints (grid9 x)).drop (i * 3)).take C = ints r := by
        rw [ints_drop, ints_take]
        congr 1
        refine List.ext_getElem? fun k => ?_
        rw [List.getElem?_take]
        split
        · rename_i hk
          have e1 : (i * 3 + k) / 3 = i := by omega
          have e2 : (i * 3 + k) % 3 = k := by omega
          rw [List.getElem?_drop, grid9_get (by omega), e1, e2, getD_some hri, List.getD_eq_getElem?_getD, List.getElem?_eq_getElem (by omega : k < r.length)]; rfl
        · rw [List.getElem?_eq_none (by omega)]
      simp (config := { maxSteps := 1000000 }) only [go_sem, Int.reduceToNat, Int.reduceLE, Int.reduceLT, Int.reduceAdd, Int.reduceSub, Int.reduceMul, Int.reduceEq, Int.reduceNe, Nat.reduceEqDiff, Nat.reducePow, Nat.reduceDiv, Nat.reduceMod, Nat.reduceAdd, Nat.reduceMul, Nat.reduceSub, Nat.reduceLT, Nat.reduceLeDiff, reduceIte, reduceCtorEq, h31, hb, envN, appendA_U]
      refine W.draw 9 [0, 0, 0, 0, 8, 0, 32, 120, 252] Tryd.mixed (by kernel_rfl) (by kernel_rfl) ?_
      simp (config := { maxSteps := 1000000 }) only [go_sem, Int.reduceToNat, Int.reduceLE, Int.reduceLT, Int.reduceAdd, Int.reduceSub, Int.reduceMul, Int.reduceEq, Int.reduceNe, Nat.reduceEqDiff, Nat.reducePow, Nat.reduceDiv, Nat.reduceMod, Nat.reduceAdd, Nat.reduceMul, Nat.reduceSub, Nat.reduceLT, Nat.reduceLeDiff, reduceIte, reduceCtorEq, h31, hb, envN, e6, k1, k2, k3, m1, m2, m3, ← hCe, hg9, hi3, hC3, hrow, hC0, w1, appendA_U]
      repeat (refine And.intro (by first | omega | (simp; done) | (simp; omega) | (intros; omega) | exact ⟨rfl, by omega, by omega, all_one_ints _⟩) ?_)
      have hrep : List.replicate (R - i) (AVal.lit (Value.slice none 0 0)) = .lit (.slice none 0 0) :: List.replicate (R - (i + 1)) (.lit (.slice none 0 0)) := by
        have : R - i = (R - (i + 1)) + 1 := by omega
        rw [this, List.replicate_succ]
      have hAl : (List.map vecI (x.take i)).length = i := by simp; omega
      rw [hrep, setAt_mid hAl]
      have hzr : List.replicate 0 (AVal.lit (Value.int IntKind.i64 0)) ++ ints r = ints r := rfl
      rw [hzr]
      obtain ⟨H6, hH6⟩ : ∃ H6, H6 = (ext H' [.arr 1 3 (ints r)]).upd H3.next (.arr 0 46 (List.map vecI (x.take i) ++ .own H'.next 1 0 C 1 :: List.replicate (R - (i + 1)) (.lit (.slice none 0 0)))) := ⟨_, rfl⟩
      rw [← hH6]
      have n6 : H6.next = H'.next + 1 := by rw [hH6]; rfl
      have g6o : H6.get H3.next = some (.arr 0 46 (List.map vecI (x.take i) ++ .own H'.next 1 0 C 1 :: List.replicate (R - (i + 1)) (.lit (.slice none 0 0)))) := by rw [hH6, upd_get, if_pos rfl]
      have g6r : H6.get H'.next = some (.arr 1 3 (ints r)) := by rw [hH6, upd_get, if_neg (by omega)]; exact ext1_get_new
      have g6b : ∀ id, id < H3.next → H6.get id = H3.get id := fun id h => by rw [hH6, upd_get, if_neg (by omega), ext1_get_old (by omega), hold id h]
      refine ⟨_, WeakS.melt (rk := H'.next) (ob := H3.next) (cells' := List.map vecI (x.take i) ++ vecI r :: List.replicate (R - (i + 1)) (.lit (.slice none 0 0))) G0_ok g6o (by omega) (by simp) (fz_mid (fun v hv => ?_) ?_ fun v hv => ?_), ?_⟩
      · obtain ⟨q, _, rfl⟩ := List.mem_map.1 hv; exact .keepInts _
      · have := Fz.ints (S := fun id => id = H'.next) (nx := H6.next) (x := r) (n := C) (o := 0) rfl g6r hrC.symm fun k hk => by rw [Nat.zero_add, ints_get, List.getElem?_eq_getElem hk]; rfl
        exact this
      · rw [(List.mem_replicate.1 hv).2]; exact .lit _
      · have hlen1 : (x.take (i + 1)).map vecI = (x.take i).map vecI ++ [vecI r] := by rw [take_succ_of hri]; simp
        have mo : (H6.melt H'.next H3.next (.arr 0 46 (List.map vecI (x.take i) ++ vecI r :: List.replicate (R - (i + 1)) (.lit (.slice none 0 0))))).get H3.next = some (.arr 0 46 ((x.take (i + 1)).map vecI ++ List.replicate (R - (i + 1)) (.lit (.slice none 0 0)))) := by
          rw [melt_ob (by omega), hlen1, List.append_assoc]; rfl
        refine ⟨by show H3.next + 1 ≤ H6.next; omega, ?_, ⟨i + 1, by simp [putA], by omega, fun id h => by rw [melt_other (by omega) (by omega)]; exact g6b id h, mo, by show H3.next + 1 ≤ H6.next; omega⟩, by show R - (iv (.lit (.int .i64 ((i : Int) + 1)))).toNat < R - i; rw [iv_int]; omega⟩
        obtain ⟨st, pd, n', en, ps, as', bo, hh⟩ := hB2l
        exact ⟨st, pd, n', en, ps, as', bo, by rw [melt_other (by omega) (by omega), g6b _ (by omega), h3l, hh]⟩
    · have hiR : i = R := by omega
      have hxl : x.take i = x := List.take_of_length_le (by omega)
      rw [hxl, hiR, Nat.sub_self, List.replicate_zero, List.append_nil] at hone
      have hfull : acc.length ≤ 9261 ^ 3 := by
        obtain ⟨tl, htl⟩ := hf
        have h1 := allT_len hok
        have h2 : (allT t).length = (acc ++ x :: tl).length := congrArg List.length htl
        rw [List.length_append] at h2; omega
      have hcs : cs.length ≤ 9261 ^ 3 := by omega
      have p1 : H'.live (H.next + 3) 0 = some (31, [.own (H.next + 2) g 0 cs.length 1]) := get_live ((hold _ (by omega)).trans ((h3old _ (by omega) (by omega)).trans b1))
      have p2 : ∀ L, (ext H' L).live (H.next + 2) g = some (26, cs) := fun L => by rw [ext_live_old (by omega)]; exact get_live ((hold _ (by omega)).trans ((h3old _ (by omega) (by omega)).trans b2))
      have p3 : ∀ L b, ((ext H' L).upd (H.next + 2) b).live (H.next + 3) 0 = some (31, [.own (H.next + 2) g 0 cs.length 1]) := fun L b => by rw [live_upd, if_neg (by omega), ext_live_old (by omega)]; exact p1
      have p4 : ∀ L b b', (((ext H' L).upd (H.next + 2) b).upd (H.next + 3) b').get HB.next = some B2 := fun L b b' => by
        rw [upd_get, if_neg (by omega), upd_get, if_neg (by omega), get_ext_old _ _ _ (by omega), hold _ (by omega)]; exact h3l
      simp (config := { maxSteps := 1000000 }) only [go_sem, Int.reduceToNat, Int.reduceLE, Int.reduceLT, Int.reduceAdd, Int.reduceSub, Int.reduceMul, Int.reduceEq, Int.reduceNe, Nat.reduceEqDiff, Nat.reducePow, Nat.reduceDiv, Nat.reduceMod, Nat.reduceAdd, Nat.reduceMul, Nat.reduceSub, Nat.reduceLT, Nat.reduceLeDiff, reduceIte, reduceCtorEq, h31, hb, envN, e7, p1, p2, p3, p4, roundQ, hB3, appendA_U]
      obtain ⟨Hf, hHf⟩ : ∃ Hf, Hf = (((ext H' [.arr 0 26 [.own H3.next 0 0 R 1]]).upd (H.next + 2) (.arr (g + 1) 26 (cs ++ [.own H3.next 0 0 R 1]))).upd (H.next + 3) (.arr 0 31 [.own (H.next + 2) (g + 1) 0 (cs.length + 1) 1])).upd HB.next B3 := ⟨_, rfl⟩
      rw [← hHf]
      have nf : Hf.next = H'.next + 1 := by rw [hHf]; rfl
      have fo : ∀ id, id < H'.next → id ≠ H.next + 2 → id ≠ H.next + 3 → id ≠ HB.next → Hf.get id = H'.get id := fun id h1 h2 h3 h4 => by
        rw [hHf, upd_get, if_neg h4, upd_get, if_neg h3, upd_get, if_neg h2, ext1_get_old h1]
      have fo1 : ∀ id, id < H1.next → id ≠ H.next + 2 → id ≠ H.next + 3 → id ≠ HB.next → Hf.get id = H1.get id := fun id h1 h2 h3 h4 => by
        rw [fo id (by omega) h2 h3 h4, hold id (by omega), h3old id h1 h4]
      have f2 : Hf.get (H.next + 2) = some (.arr (g + 1) 26 (cs ++ [.own H3.next 0 0 R 1])) := by rw [hHf, upd_get, if_neg (by omega), upd_get, if_neg (by omega), upd_get, if_pos rfl]
      have f3 : Hf.get (H.next + 3) = some (.arr 0 31 [.own (H.next + 2) (g + 1) 0 (cs.length + 1) 1]) := by rw [hHf, upd_get, if_neg (by omega), upd_get, if_pos rfl]
      have fB : Hf.get HB.next = some B := by rw [hHf, upd_get, if_pos rfl, hB3e]
      refine ⟨⟨by omega, by omega⟩, hk Hf ⟨by rw [hidy]; exact fB, by rw [fo1 _ (by omega) (by omega) (by omega) (by omega)]; exact a2, by rw [fo1 _ (by omega) (by omega) (by omega) (by omega)]; exact a3, by rw [fo1 _ (by omega) (by omega) (by omega) (by omega)]; exact a4,
        by rw [fo1 _ (by omega) (by omega) (by omega) (by omega)]; exact a5, ⟨by omega, fun id h => by rw [fo1 _ (by omega) (by omega) (by omega) (by omega)]; exact a6.old id h⟩, by omega, g + 1, cs ++ [.own H3.next 0 0 R 1], by rw [f3]; simp, f2, by simp [b3], fun k y c hy hc => ?_⟩ (fun id h1 h2 => fo1 id (by omega) (by omega) (by omega) (by omega)) (by omega)⟩
      rcases Nat.lt_or_ge k acc.length with hk1 | hk1
      · rw [List.getElem?_append_left hk1] at hy
        rw [List.getElem?_append_left (by omega)] at hc
        exact (b4 k y c hy hc).keep (Nat.le_refl _) (by omega) fun id' g' h3 h4 _ _ => fo1 id' h4 (by omega) (by omega) (by omega)
      · rw [List.getElem?_append_right hk1] at hy
        rw [List.getElem?_append_right (by omega)] at hc
        have hk0 : k - acc.length = 0 := by
          rcases Nat.eq_zero_or_pos (k - acc.length) with h | h
          · exact h
          · rw [List.getElem?_eq_none (by simp; omega)] at hy; cases hy
        have hk1 : k - cs.length = 0 := by omega
        rw [hk0] at hy
        rw [hk1] at hc
        cases hy
        cases hc
        refine .inr ⟨H3.next, 0, by omega, by omega, ?_, by rw [fo _ (by omega) (by omega) (by omega) (by omega)]; exact hone⟩
        rw [List.length_map, x5, hRe]
  · obtain ⟨a1, a2, a3, a4, a5, a6, a7, g, cs, b1, b2, b3, b4⟩ := hj
    have hend : ∃ st, endA (H'.get HB.next) = some (none, st) := by rw [← hidy, a1, hB]; exact ⟨_, rfl⟩
    obtain ⟨st, hst⟩ := hend
    refine ⟨trivial, _, hst, ?_⟩
    have l7 : (H'.upd HB.next st).live (H.next + 3) 0 = some (31, [.own (H.next + 2) g 0 cs.length 1]) := by rw [live_upd, if_neg (by omega)]; exact get_live b1
    show jumpQ _ ⟨E, H'.upd HB.next st⟩ none
    simp (config := { maxSteps := 1000000 }) only [go_sem, Int.reduceToNat, Int.reduceLE, Int.reduceLT, Int.reduceAdd, Int.reduceSub, Int.reduceMul, Int.reduceEq, Int.reduceNe, Nat.reduceEqDiff, Nat.reducePow, Nat.reduceDiv, Nat.reduceMod, Nat.reduceAdd, Nat.reduceMul, Nat.reduceSub, Nat.reduceLT, Nat.reduceLeDiff, reduceIte, reduceCtorEq, jumpQ, e7, l7, appendA_U]
    refine FinV.dropO (v' := .tup [vecT (allT t), .lit (.int .i64 0)]) G0_ok hcl ⟨by rw [upd_next]; exact a6.next, fun k hk => by rw [upd_get, if_neg (by omega)]; exact a6.old k hk⟩ (.tup rfl fun i hi _ => ?_) hK
    match i, hi with
    | 0, _ =>
      show Fz _ _ _ (.own (H.next + 2) g 0 cs.length 1) (.vec (allT t).length ((allT t).map vecV))
      have e : (tablesL (rowsOf t) (colsOf t)).length = (allT t).length := rfl
      rw [← e, ← b3]
      refine .frz (cells := cs) (g := g) (e := 26) (by show H.next ≤ _; omega) (by rw [upd_get, if_neg (by omega)]; exact b2) (by simp [b3, e]) fun k hk h2 h' => ?_
      simp only [Nat.zero_add]
      have hk1 : k < (allT t).length := by simpa using h'
      have hb := b4 k (allT t)[k] cs[k] (List.getElem?_eq_getElem hk1) (List.getElem?_eq_getElem (by omega))
      have hb' : OwnG (H.next + 12) (H'.upd HB.next st) 46 cs[k] ((allT t)[k].map vecI) := hb.keep (Nat.le_refl _) (Nat.le_refl _) fun id' g' h3 _ _ _ => by rw [upd_get, if_neg (by omega)]
      have := hb'.fz (S := fun id => H.next ≤ id) (nx := H.next) (cs' := (allT t)[k].map vecI) (fun i hi => by show H.next ≤ _; omega) rfl fun i hi _ => by simp only [List.getElem_map]; exact .keepInts _
      simpa [vecV] using this
    | 1, _ => exact .lit _
end Go.Proofs
set_option linter.unusedSimpArgs false
namespace Go.Proofs
open Go.Hx

set_option maxHeartbeats 2000000 in
theorem lists_spec (hi wi mo : Int) (ns : List Int) (hn : ns.length = 9) (hh : 0 ≤ hi ∧ hi ≤ 255) (hw : 0 ≤ wi ∧ wi ≤ 255) (hm : 0 ≤ mo ∧ mo ≤ 255) (hns : ∀ c, c ∈ ns → 0 ≤ c ∧ c ≤ 255) (at' n : Int) (ha : 0 ≤ at' ∧ at' ≤ 255) (raw : List (List Int)) (H : AHeap) (K : ARes → AHeap → Prop)
    (hK : K (.ret (.lit (.bool true))) H) : ACall Tryd.prog G0 6 [.agg (u8L (hi :: wi :: (ns ++ [mo]))), .lit (.int .u8 at'), .lit (.int .i64 n), vecV raw] H K := by
  refine ACall.argsBelow ⟨_, Tryd.func6, rfl, rfl⟩ fun hcl hbel => ?_
  obtain ⟨D, hD⟩ : ∃ D, D = u8L (hi :: wi :: (ns ++ [mo])) := ⟨_, rfl⟩
  have dl : D.length = 12 := by rw [hD]; simp [u8L, hn]
  refine ACall.of_body (n := 71) (rs := [.tmp 8]) Tryd.func6 rfl rfl rfl (by decide) (by kernel_rfl) (by simp) ?_
  have dt : D.take 12 = D := List.take_of_length_le (by omega)
  have hT : ∀ H K, (∀ t, TableOk t → K (.ret (vecV t)) H) → ACall Tryd.prog G0 11 [.agg D] H K := fun H K h => by rw [hD]; exact Table_spec hi wi mo ns hn hh hw hm hns H K h
  rw [← hD] at hbel ⊢
  simp (config := { maxSteps := 1000000 }) only [go_sem, Int.reduceToNat, Int.reduceLE, Int.reduceLT, Int.reduceAdd, Int.reduceSub, Int.reduceMul, Int.reduceEq, Int.reduceNe, Nat.reduceEqDiff, Nat.reducePow, Nat.reduceDiv, Nat.reduceMod, Nat.reduceAdd, Nat.reduceMul, Nat.reduceSub, Nat.reduceLT, Nat.reduceLeDiff, reduceIte, reduceCtorEq, dt, appendA_U]
  obtain ⟨H1, hH1⟩ : ∃ H1, H1 = ext H [.arr 0 24 D] := ⟨_, rfl⟩
  rw [← hH1]
  repeat (refine And.intro (by first | omega | (simp; done) | (simp; omega) | (intros; omega) | exact ⟨rfl, by omega, by omega, all_one_ints _⟩) ?_)
  refine AApply.clo (hT _ _ fun t ht => ⟨trivial, ?_⟩)
  simp (config := { maxSteps := 1000000 }) only [go_sem, Int.reduceToNat, Int.reduceLE, Int.reduceLT, Int.reduceAdd, Int.reduceSub, Int.reduceMul, Int.reduceEq, Int.reduceNe, Nat.reduceEqDiff, Nat.reducePow, Nat.reduceDiv, Nat.reduceMod, Nat.reduceAdd, Nat.reduceMul, Nat.reduceSub, Nat.reduceLT, Nat.reduceLeDiff, reduceIte, reduceCtorEq, appendA_U]
  refine AApply.clo (few_spec t _ _ fun v L hv => ⟨trivial, ?_⟩)
  rw [few_ok ht] at hv
  simp (config := { maxSteps := 1000000 }) only [go_sem, Int.reduceToNat, Int.reduceLE, Int.reduceLT, Int.reduceAdd, Int.reduceSub, Int.reduceMul, Int.reduceEq, Int.reduceNe, Nat.reduceEqDiff, Nat.reducePow, Nat.reduceDiv, Nat.reduceMod, Nat.reduceAdd, Nat.reduceMul, Nat.reduceSub, Nat.reduceLT, Nat.reduceLeDiff, reduceIte, reduceCtorEq, appendA_U]
  refine W.draw 17 [0, 0, 2, 0, 8, 30, 63, 127, 0, 256, 768, 0, 2048, 6144, 14336, 32512, 0] Tryd.mixed (by kernel_rfl) (by kernel_rfl) ?_
  obtain ⟨i, g, cs, rfl, v2, v3, v4, v5⟩ := hv.open (by rintro rfl; exact absurd ht.1 (by simp))
  have q1 := ht.1
  have q2 := ht.2.1
  obtain ⟨r0, hr0⟩ : ∃ r, t[0]? = some r := ⟨_, List.getElem?_eq_getElem (by omega)⟩
  have k0 := (ht.2.2.1 r0 (List.mem_of_getElem? hr0))
  have hr0d : t.headD [] = r0 := by
    cases t with
    | nil => simp at q1
    | cons a t => simpa using hr0
  rw [hr0d] at k0
  obtain ⟨p, hp⟩ : ∃ p : Nat, (p : Int) = at'.tmod t.length := ⟨(at'.tmod t.length).toNat, Int.toNat_of_nonneg (Int.tmod_nonneg _ ha.1)⟩
  have hpl : (p : Int) < t.length := by rw [hp]; exact Int.tmod_lt_of_pos _ (by omega)
  obtain ⟨r, hr⟩ : ∃ r, t[p]? = some r := ⟨_, List.getElem?_eq_getElem (by omega)⟩
  have k1 := (ht.2.2.1 r (List.mem_of_getElem? hr))
  rw [hr0d] at k1
  have a4 : 0 ≤ at'.tdiv 4 ∧ at'.tdiv 4 ≤ 255 := by rw [Int.tdiv_eq_ediv_of_nonneg ha.1]; omega
  obtain ⟨q, hq⟩ : ∃ q : Nat, (q : Int) = (at'.tdiv 4).tmod r0.length := ⟨((at'.tdiv 4).tmod r0.length).toNat, Int.toNat_of_nonneg (Int.tmod_nonneg _ a4.1)⟩
  have hql : (q : Int) < r0.length := by rw [hq]; exact Int.tmod_lt_of_pos _ (by have := k0.2.1; omega)
  have hql2 : (q : Int) < r.length := by have := k1.1; omega
  obtain ⟨i0, g0, b1, b2, b3, _⟩ := v5 0 r0 hr0 (ne_of_len k0.2.1)
  obtain ⟨i1, g1, c1, c2, c3, c4⟩ := v5 p r hr (ne_of_len k1.2.1)
  have hv1 := c4 q n (by omega)
  have l0 := live_extL (H := H1) v3
  have l1 := live_extL (H := H1) b3
  have l2 := live_extL (H := H1) c3
  have w1 := IntWalk.i64_in at' (by omega)
  have w2 := IntWalk.u8_in (at'.tdiv 4) (by omega)
  have w3 := IntWalk.i64_in (at'.tdiv 4) (by omega)
  have z1 : ¬ (t.length : Int) = 0 := by omega
  have z2 : ¬ (r0.length : Int) = 0 := by omega
  have z3 : (0 : Int) < t.length := by omega
  have z4 : 0 < (r0.length : Int) := by omega
  have z5 : ¬ r = [] := ne_of_len k1.2.1
  simp (config := { maxSteps := 1000000 }) only [go_sem, Int.reduceToNat, Int.reduceLE, Int.reduceLT, Int.reduceAdd, Int.reduceSub, Int.reduceMul, Int.reduceEq, Int.reduceNe, Nat.reduceEqDiff, Nat.reducePow, Nat.reduceDiv, Nat.reduceMod, Nat.reduceAdd, Nat.reduceMul, Nat.reduceSub, Nat.reduceLT, Nat.reduceLeDiff, reduceIte, reduceCtorEq, w1, w2, w3, l0, l1, l2, b1, c1, v4, z1, z2, z3, z4, ← hp, ← hq, hpl, hql2, z5, appendA_U]
  repeat (refine And.intro (by first | omega | (simp; done) | (simp; omega) | (intros; omega) | exact ⟨rfl, by omega, by omega, all_one_ints _⟩) ?_)
  rw [setAt_ints _ (by omega), upd_ext H1 L i1 _ c2]
  obtain ⟨L1, hL1⟩ : ∃ L1, L1 = L.set i1 (.arr g1 3 (ints (r.set q n))) := ⟨_, rfl⟩
  rw [← hL1] at hv1 ⊢
  refine AApply.clo (few_spec raw _ _ fun vr L2 hvr => ⟨trivial, ?_⟩)
  have m1 := hvr.toV
  obtain ⟨crs, hcr, _⟩ := hvr
  have hcell := hcr.cellsE
  have hone := hcr.oneE
  simp (config := { maxSteps := 1000000 }) only [go_sem, Int.reduceToNat, Int.reduceLE, Int.reduceLT, Int.reduceAdd, Int.reduceSub, Int.reduceMul, Int.reduceEq, Int.reduceNe, Nat.reduceEqDiff, Nat.reducePow, Nat.reduceDiv, Nat.reduceMod, Nat.reduceAdd, Nat.reduceMul, Nat.reduceSub, Nat.reduceLT, Nat.reduceLeDiff, reduceIte, reduceCtorEq, hcell, hone, vecV_cells, vecV_one, appendA_U]
  obtain ⟨Z, hZ⟩ : ∃ Z, Z = ext (ext H1 L1) L2 := ⟨_, rfl⟩
  have n1 : H1.next = H.next + 1 := by rw [hH1]; rfl
  have n2 : L1.length = L.length := by rw [hL1]; simp
  have nz : Z.next = H.next + 1 + L.length + L2.length := by rw [hZ]; simp [ext_next, n1, n2]
  have hov : Over H Z := by rw [hZ, hH1]; exact ((Over.ext _ _).trans (Over.ext _ _)).trans (Over.ext _ _)
  have hagg : Fz (fun id => H.next ≤ id) Z Z.next (.agg [vecV t, .own (H1.next + i) g 0 t.length 1, vr]) (.agg [vecV t, vecV (t.set p (r.set q n)), vecV (few raw)]) := by
    refine .agg rfl fun j hj _ => ?_
    match j, hj with
    | 0, _ => exact .vecV _
    | 1, _ =>
      have h1 := (hv1.toV).fz (S := fun id => H.next ≤ id) (nx := Z.next) fun i => by simp only [n1]; omega
      rw [hZ, ext_ext]
      refine OwnV.fz (L := L1 ++ L2) ?_ fun i => by simp only [n1]; omega
      obtain ⟨cs, c1, c2, c3⟩ := hv1.toV
      refine ⟨cs, c1.keep (Nat.le_refl _) (by simp) fun i _ _ hi _ => List.getElem?_append_left hi, c2, fun j r c hr hc => (c3 j r c hr hc).keep (Nat.le_refl _) (by simp) fun i _ _ hi _ => List.getElem?_append_left hi⟩
    | 2, _ =>
      rw [hZ]
      exact m1.fz fun i => by simp only [ext_next, n1]; omega
  have hvr : Fz (fun id => H.next ≤ id) Z Z.next vr (vecV (few raw)) := by
    rw [hZ]
    exact m1.fz fun i => by simp only [ext_next, n1]; omega
  have hDz : Fz (fun id => H.next ≤ id) Z Z.next (.agg D) (.agg D) := .old (hbel _ (by simp)) (by omega)
  rw [← hZ]
  apply W.letGo (H := H) G0_ok hcl hov
  · repeat first | exact Fz.envOld hbel (by omega) | (apply Fz.put'; · first | exact .lit _ | assumption | exact .vecV _ | exact .keepInts _ | exact .deadOwn (by omega) (by show H.next ≤ _; omega) | exact .deadPtr (by omega) (by show H.next ≤ _; omega))
  · trivial
  obtain ⟨Hg, hHg⟩ : ∃ Hg, Hg = gap H (Z.next - H.next) := ⟨_, rfl⟩
  rw [← hHg]
  have hog : Over H Hg := by rw [hHg]; exact .gap _ _
  refine W.loop0 1180591616319364821248 (by rfl) (fun ρ H' => H' = Hg ∧ ∃ k : Nat, ρ 42 = lin k ∧ k ≤ 3) (fun ρ H => 3 - (iv (ρ 42)).toNat) ?_ ?_
  · simp (config := { maxSteps := 1000000 }) only [go_sem, Int.reduceToNat, Int.reduceLE, Int.reduceLT, Int.reduceAdd, Int.reduceSub, Int.reduceMul, Int.reduceEq, Int.reduceNe, Nat.reduceEqDiff, Nat.reducePow, Nat.reduceDiv, Nat.reduceMod, Nat.reduceAdd, Nat.reduceMul, Nat.reduceSub, Nat.reduceLT, Nat.reduceLeDiff, reduceIte, reduceCtorEq, appendA_U]
    exact ⟨0, rfl, by omega⟩
  rintro ρ H' ⟨rfl, k, h42, hk⟩
  refine vc_sound _ _ _ (by rfl) ?_
  by_cases hb : (k : Int) < 3
  · obtain ⟨X, hX, hX1, hX2⟩ : ∃ X, ([vecV t, vecV (t.set p (r.set q n)), vecV (few raw)])[k]? = some (vecV X) ∧ X.length ≤ 4 ∧ ∀ r, r ∈ X → r.length ≤ 4 := by
      have few_le : ∀ t r, r ∈ few t → r.length ≤ 4 := fun t r hr => by
        obtain ⟨r', _, rfl⟩ := List.mem_map.1 hr
        simp only [List.length_take]; omega
      have few_len : ∀ t, (few t).length ≤ 4 := fun t => by simp only [few, List.length_map, List.length_take]; omega
      have ht4 : ∀ r, r ∈ t → r.length ≤ 4 := fun r hr => by have := (ht.2.2.1 r hr).2.2.1; omega
      match k, hb with
      | 0, _ => exact ⟨t, rfl, by omega, ht4⟩
      | 1, _ => exact ⟨_, rfl, by simp; omega, fun r' hr' => by
          rcases List.mem_or_eq_of_mem_set hr' with h | rfl
          · exact ht4 _ h
          · have := k1.2.2.1; simp; omega⟩
      | 2, _ => exact ⟨_, rfl, few_len _, few_le _⟩
    have w4 := IntWalk.i64_in ((k : Int) + 1) (by omega)
    have x1 : (X.length : Int) < 2 ^ 40 := by omega
    have x2 : ∀ r, r ∈ X → (r.length : Int) < 2 ^ 40 := fun r hr => by have := hX2 r hr; omega
    simp (config := { maxSteps := 1000000 }) only [go_sem, Int.reduceToNat, Int.reduceLE, Int.reduceLT, Int.reduceAdd, Int.reduceSub, Int.reduceMul, Int.reduceEq, Int.reduceNe, Nat.reduceEqDiff, Nat.reducePow, Nat.reduceDiv, Nat.reduceMod, Nat.reduceAdd, Nat.reduceMul, Nat.reduceSub, Nat.reduceLT, Nat.reduceLeDiff, reduceIte, reduceCtorEq, h42, hb, hX, appendA_U]
    repeat (refine And.intro (by first | omega | (simp; done) | (simp; omega) | (intros; omega) | exact ⟨rfl, by omega, by omega, all_one_ints _⟩) ?_)
    refine AApply.clo (All_spec X x1 x2 _ _ ⟨trivial, ?_⟩)
    by_cases hok : TableOk X
    · rw [if_pos hok]
      simp (config := { maxSteps := 1000000 }) only [go_sem, Int.reduceToNat, Int.reduceLE, Int.reduceLT, Int.reduceAdd, Int.reduceSub, Int.reduceMul, Int.reduceEq, Int.reduceNe, Nat.reduceEqDiff, Nat.reducePow, Nat.reduceDiv, Nat.reduceMod, Nat.reduceAdd, Nat.reduceMul, Nat.reduceSub, Nat.reduceLT, Nat.reduceLeDiff, reduceIte, reduceCtorEq, vecT, appendA_U]
      refine AApply.clo (Right_spec X x1 x2 _ _ ⟨trivial, ?_⟩)
      rw [decide_eq_true hok]
      simp (config := { maxSteps := 1000000 }) only [go_sem, Int.reduceToNat, Int.reduceLE, Int.reduceLT, Int.reduceAdd, Int.reduceSub, Int.reduceMul, Int.reduceEq, Int.reduceNe, Nat.reduceEqDiff, Nat.reducePow, Nat.reduceDiv, Nat.reduceMod, Nat.reduceAdd, Nat.reduceMul, Nat.reduceSub, Nat.reduceLT, Nat.reduceLeDiff, reduceIte, reduceCtorEq, w4, appendA_U]
      refine AApply.clo (refAll_spec X hok _ _ ⟨trivial, ?_⟩)
      simp (config := { maxSteps := 1000000 }) only [go_sem, Int.reduceToNat, Int.reduceLE, Int.reduceLT, Int.reduceAdd, Int.reduceSub, Int.reduceMul, Int.reduceEq, Int.reduceNe, Nat.reduceEqDiff, Nat.reducePow, Nat.reduceDiv, Nat.reduceMod, Nat.reduceAdd, Nat.reduceMul, Nat.reduceSub, Nat.reduceLT, Nat.reduceLeDiff, reduceIte, reduceCtorEq, vecT, appendA_U]
      have hal := allT_len hok
      refine AApply.clo (eqFunc_spec (allT X) (allT X) (by omega) (fun y hy => ?_) _ _ ⟨trivial, ?_⟩)
      · obtain ⟨y1, _, _, _, y5⟩ := mem_allT hok hy
        have := y1.2.1
        exact ⟨by omega, fun r hr => by have := (rows_ok y1 r hr).2.2.1; omega⟩
      rw [decide_eq_true rfl]
      simp (config := { maxSteps := 1000000 }) only [go_sem, Int.reduceToNat, Int.reduceLE, Int.reduceLT, Int.reduceAdd, Int.reduceSub, Int.reduceMul, Int.reduceEq, Int.reduceNe, Nat.reduceEqDiff, Nat.reducePow, Nat.reduceDiv, Nat.reduceMod, Nat.reduceAdd, Nat.reduceMul, Nat.reduceSub, Nat.reduceLT, Nat.reduceLeDiff, reduceIte, reduceCtorEq, w4, h42, appendA_U]
      exact ⟨⟨k + 1, by simp, by omega⟩, by omega⟩
    · rw [if_neg hok]
      simp (config := { maxSteps := 1000000 }) only [go_sem, Int.reduceToNat, Int.reduceLE, Int.reduceLT, Int.reduceAdd, Int.reduceSub, Int.reduceMul, Int.reduceEq, Int.reduceNe, Nat.reduceEqDiff, Nat.reducePow, Nat.reduceDiv, Nat.reduceMod, Nat.reduceAdd, Nat.reduceMul, Nat.reduceSub, Nat.reduceLT, Nat.reduceLeDiff, reduceIte, reduceCtorEq, vecT, appendA_U]
      refine AApply.clo (Right_spec X x1 x2 _ _ ⟨trivial, ?_⟩)
      rw [decide_eq_false hok]
      simp (config := { maxSteps := 1000000 }) only [go_sem, Int.reduceToNat, Int.reduceLE, Int.reduceLT, Int.reduceAdd, Int.reduceSub, Int.reduceMul, Int.reduceEq, Int.reduceNe, Nat.reduceEqDiff, Nat.reducePow, Nat.reduceDiv, Nat.reduceMod, Nat.reduceAdd, Nat.reduceMul, Nat.reduceSub, Nat.reduceLT, Nat.reduceLeDiff, reduceIte, reduceCtorEq, w4, h42, appendA_U]
      exact ⟨⟨k + 1, by simp, by omega⟩, by omega⟩
  · simp (config := { maxSteps := 1000000 }) only [go_sem, Int.reduceToNat, Int.reduceLE, Int.reduceLT, Int.reduceAdd, Int.reduceSub, Int.reduceMul, Int.reduceEq, Int.reduceNe, Nat.reduceEqDiff, Nat.reducePow, Nat.reduceDiv, Nat.reduceMod, Nat.reduceAdd, Nat.reduceMul, Nat.reduceSub, Nat.reduceLT, Nat.reduceLeDiff, reduceIte, reduceCtorEq, h42, hb, appendA_U]
    refine AApply.clo (works_ok _ _ ⟨trivial, ?_⟩)
    simp (config := { maxSteps := 1000000 }) only [go_sem, Int.reduceToNat, Int.reduceLE, Int.reduceLT, Int.reduceAdd, Int.reduceSub, Int.reduceMul, Int.reduceEq, Int.reduceNe, Nat.reduceEqDiff, Nat.reducePow, Nat.reduceDiv, Nat.reduceMod, Nat.reduceAdd, Nat.reduceMul, Nat.reduceSub, Nat.reduceLT, Nat.reduceLeDiff, reduceIte, reduceCtorEq, appendA_U]
    exact FinV.dropO G0_ok hcl hog (.lit _) hK
end Go.Proofs
