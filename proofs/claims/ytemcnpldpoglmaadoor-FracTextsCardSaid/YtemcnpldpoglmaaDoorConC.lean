/- Own work: contracts. -/
import Derived.Test.YtemcnpldpoglmaaDoorConB
set_option linter.all false
set_option linter.unusedSimpArgs false
set_option maxRecDepth 100000
namespace Go.Proofs
open Go.Hx
def val : List Int → Nat
  | [] => 0
  | a :: l => a.toNat + 10000 * val l
def dig (n : Nat) : List Int := if h : n = 0 then [] else ((n % 10000 : Nat) : Int) :: dig (n / 10000)
termination_by n
decreasing_by omega
theorem dig_zero : dig 0 = [] := by rw [dig]; rfl
theorem dig_pos {n : Nat} (h : n ≠ 0) : dig n = ((n % 10000 : Nat) : Int) :: dig (n / 10000) := by
  conv => lhs; rw [dig]
  rw [dif_neg h]
theorem val_dig : ∀ n : Nat, val (dig n) = n := by
  intro n
  induction n using Nat.strongRecOn with
  | _ n ih =>
    by_cases h : n = 0
    · subst h; rw [dig_zero]; rfl
    · rw [dig_pos h, val, ih _ (by omega)]
      omega
/-- Digits. -/
def Dg (l : List Int) : Prop := ∀ c, c ∈ l → 0 ≤ c ∧ c ≤ 9999
theorem dg_dig : ∀ n : Nat, Dg (dig n) := by
  intro n
  induction n using Nat.strongRecOn with
  | _ n ih =>
    by_cases h : n = 0
    · subst h; rw [dig_zero]; intro c hc; cases hc
    · rw [dig_pos h]
      intro c hc
      rcases List.mem_cons.1 hc with rfl | hc
      · omega
      · exact ih _ (by omega) c hc
theorem val_append : ∀ (l m : List Int), val (l ++ m) = val l + 10000 ^ l.length * val m
  | [], m => by simp [val]
  | a :: l, m => by
    simp only [List.cons_append, val, val_append l m, List.length_cons, Nat.pow_succ, Nat.mul_add]
    rw [show 10000 * (10000 ^ l.length * val m) = 10000 ^ l.length * 10000 * val m by ac_rfl]
    omega
theorem val_lt : ∀ {l : List Int}, Dg l → val l < 10000 ^ l.length
  | [], _ => by simp [val]
  | a :: l, h => by
    have ih := val_lt (l := l) fun c hc => h c (by simp [hc])
    have ha := h a (by simp)
    simp only [val, List.length_cons, Nat.pow_succ]
    omega
theorem dig_len {n k : Nat} (h : n < 10000 ^ k) : (dig n).length ≤ k := by
  induction k generalizing n with
  | zero => have : n = 0 := by simpa using h
            subst this; rw [dig_zero]; simp
  | succ k ih =>
    by_cases h0 : n = 0
    · subst h0; rw [dig_zero]; simp
    · rw [dig_pos h0, List.length_cons]
      have : n / 10000 < 10000 ^ k := by
        rw [Nat.pow_succ] at h
        exact Nat.div_lt_of_lt_mul (by rw [Nat.mul_comm]; exact h)
      have := ih this
      omega
/-- The zeros at the end, removed. -/
theorem dig_of : ∀ {l : List Int}, Dg l → (∀ a, l.getLast? = some a → a ≠ 0) → dig (val l) = l
  | [], _, _ => dig_zero
  | a :: l, h, hl => by
    have ha := h a (by simp)
    have hd : Dg l := fun c hc => h c (by simp [hc])
    have ih := dig_of (l := l) hd fun b hb => hl b (by
      cases l with
      | nil => cases hb
      | cons c l => simpa [List.getLast?_cons_cons] using hb)
    by_cases h0 : val (a :: l) = 0
    · exfalso
      simp only [val] at h0
      have a0 : a = 0 := by omega
      have v0 : val l = 0 := by omega
      rw [v0, dig_zero] at ih
      exact hl a (by rw [← ih]; rfl) a0
    · rw [dig_pos h0]
      have e1 : val (a :: l) % 10000 = a.toNat := by simp only [val]; omega
      have e2 : val (a :: l) / 10000 = val l := by simp only [val]; omega
      rw [e1, e2, ih]
      congr 1
      omega
theorem val_zeros (k : Nat) : val (List.replicate k 0) = 0 := by
  induction k with
  | zero => rfl
  | succ k ih => simp [List.replicate_succ, val, ih]
theorem dig_nil {n : Nat} : dig n = [] ↔ n = 0 := by
  constructor
  · intro h
    have := val_dig n
    rw [h] at this
    exact this.symm
  · rintro rfl; exact dig_zero
theorem dig_lb (b : Nat) : b ≠ 0 → 10000 ^ ((dig b).length - 1) ≤ b := by
  induction b using Nat.strongRecOn with
  | _ b ih =>
    intro hb
    rw [dig_pos hb, List.length_cons, Nat.add_sub_cancel]
    by_cases h1 : b / 10000 = 0
    · rw [h1, dig_zero]; simp; omega
    · have := ih _ (by omega) h1
      have hl : (dig (b / 10000)).length ≠ 0 := by
        intro h
        exact h1 (dig_nil.1 (List.eq_nil_of_length_eq_zero h))
      obtain ⟨k, hk⟩ : ∃ k, (dig (b / 10000)).length = k + 1 := ⟨_, (Nat.succ_pred_eq_of_ne_zero hl).symm⟩
      rw [hk] at this ⊢
      rw [Nat.add_sub_cancel] at this
      rw [Nat.pow_succ]
      omega
/-- Longer lists of digits are greater numbers. -/
theorem dig_lt_len {a b : Nat} (h : (dig a).length < (dig b).length) : a < b := by
  rcases Nat.lt_or_ge a b with h1 | h1
  · exact h1
  · exfalso
    have h2 := dig_lb b (by intro h0; rw [h0, dig_zero] at h; simp at h)
    have h3 := val_lt (dg_dig a)
    rw [val_dig] at h3
    have h4 : 10000 ^ (dig a).length ≤ 10000 ^ ((dig b).length - 1) := Nat.pow_le_pow_right (by decide) (by omega)
    omega
end Go.Proofs
set_option linter.unusedSimpArgs false
set_option maxRecDepth 100000
namespace Go.Proofs
open Go.Hx
theorem take_succ_of {α : Type} {l : List α} {i : Nat} {a : α} (h : l[i]? = some a) : l.take (i + 1) = l.take i ++ [a] := by
  rw [List.take_add_one, h]; rfl
theorem over_app {H H' H2 : AHeap} {v : AVal} {cs : List AVal} {e : TypeId} (ov : Over H H') (h : OwnG H.next H' e v cs) (hn : H'.next ≤ H2.next) (hp : ∀ k, k < H'.next → (∀ g n, v ≠ .own k g 0 n 1) → H2.get k = H'.get k) : Over H H2 :=
  ⟨by have := ov.next; omega, fun id hid => by
    rw [hp id (by have := ov.next; omega) fun g n he => ?_, ov.old id hid]
    rcases h with ⟨h, _⟩ | ⟨i2, g2, a1, _, h, _⟩
    · rw [h] at he; cases he
    · rw [h] at he; have := AVal.own.inj he; omega⟩
theorem digits_spec (n : Int) (hn : -9223372036854775808 ≤ n ∧ n ≤ 9223372036854775807) (H : AHeap) (K : ARes → AHeap → Prop) (hK : K (.ret (vecI (dig n.natAbs))) H) : ACall Tryd.prog G0 46 [.lit (.int .i64 n)] H K := by
  refine ACall.clo ⟨_, Tryd.func46, rfl, rfl⟩ fun hcl => ?_
  refine ACall.of_body (n := 19) (rs := [.tmp 2]) Tryd.func46 rfl rfl rfl (by decide) (by kernel_rfl) (by simp) ?_
  simp (config := { maxSteps := 1000000 }) only [go_sem, Int.reduceToNat, Int.reduceLE, Int.reduceLT, Int.reduceAdd, Int.reduceSub, Int.reduceMul, Int.reduceEq, Int.reduceNe, Nat.reduceEqDiff, Nat.reducePow, Nat.reduceDiv, Nat.reduceMod, Nat.reduceAdd, Nat.reduceMul, Nat.reduceSub, Nat.reduceLT, Nat.reduceLeDiff, reduceIte, reduceCtorEq, appendA_U]
  refine W.loop0 262137 (by rfl) (fun ρ H' => ∃ (c : Int) (done : List Int), ρ 0 = lin c ∧ Over H H' ∧ OwnG H.next H' 3 (ρ 3) (ints done) ∧ dig n.natAbs = done ++ dig c.natAbs ∧ c.natAbs ≤ n.natAbs) (fun ρ H => (iv (ρ 0)).natAbs) ?_ ?_
  · simp (config := { maxSteps := 1000000 }) only [go_sem, Int.reduceToNat, Int.reduceLE, Int.reduceLT, Int.reduceAdd, Int.reduceSub, Int.reduceMul, Int.reduceEq, Int.reduceNe, Nat.reduceEqDiff, Nat.reducePow, Nat.reduceDiv, Nat.reduceMod, Nat.reduceAdd, Nat.reduceMul, Nat.reduceSub, Nat.reduceLT, Nat.reduceLeDiff, reduceIte, reduceCtorEq, appendA_U]
    exact ⟨n, [], rfl, .refl _, .nil, by simp, by omega⟩
  rintro ρ H' ⟨c, done, h0, ov, h3, hd, hc⟩
  refine vc_sound _ _ _ (by rfl) ?_
  by_cases hz : c = 0
  · subst hz
    simp (config := { maxSteps := 1000000 }) only [go_sem, Int.reduceToNat, Int.reduceLE, Int.reduceLT, Int.reduceAdd, Int.reduceSub, Int.reduceMul, Int.reduceEq, Int.reduceNe, Nat.reduceEqDiff, Nat.reducePow, Nat.reduceDiv, Nat.reduceMod, Nat.reduceAdd, Nat.reduceMul, Nat.reduceSub, Nat.reduceLT, Nat.reduceLeDiff, reduceIte, reduceCtorEq, h0, appendA_U]
    rw [show (0 : Int).natAbs = 0 from rfl, dig_zero, List.append_nil] at hd
    rw [hd] at hK
    exact FinV.dropO G0_ok hcl ov (h3.fzI fun i hi => hi) hK
  · have hq : (c.tdiv 10000).natAbs = c.natAbs / 10000 := by rw [Int.natAbs_tdiv]; rfl
    have hr : (c.tmod 10000).natAbs = c.natAbs % 10000 := by rw [Int.natAbs_tmod]; rfl
    have w1 := IntWalk.i64_in (c.tmod 10000) (by omega)
    have w2 := IntWalk.i64_in (0 - c.tmod 10000) (by omega)
    have w3 := IntWalk.i64_in (c.tdiv 10000) (by omega)
    have hmax : (if 0 - c.tmod 10000 > c.tmod 10000 then 0 - c.tmod 10000 else c.tmod 10000) = ((c.natAbs % 10000 : Nat) : Int) := by split <;> omega
    have h5 : (dig n.natAbs).length ≤ 5 := dig_len (by have : (10000 : Nat) ^ 5 = 100000000000000000000 := by decide
                                                       omega)
    have hlen : done.length ≤ 5 := by rw [hd, List.length_append] at h5; omega
    have hdc := dig_pos (n := c.natAbs) (by omega)
    obtain ⟨v', H2, hA, hO, hn2, hp⟩ := app_oneG (P := Tryd.prog) (H := H') (t := 73) (x := lin (c.natAbs % 10000 : Nat)) (n := H'.next + 1) Tryd.underlying73 Tryd.cells3 Tryd.zero3 rfl (by rw [Tryd.bytes3, ints_length]; omega) h3 ov.next rfl
    simp only [lin] at hA
    simp (config := { maxSteps := 1000000 }) only [go_sem, Int.reduceToNat, Int.reduceLE, Int.reduceLT, Int.reduceAdd, Int.reduceSub, Int.reduceMul, Int.reduceEq, Int.reduceNe, Nat.reduceEqDiff, Nat.reducePow, Nat.reduceDiv, Nat.reduceMod, Nat.reduceAdd, Nat.reduceMul, Nat.reduceSub, Nat.reduceLT, Nat.reduceLeDiff, reduceIte, reduceCtorEq, h0, hz, w1, w2, w3, hmax, hA]
    have ov2 : Over H H2 := over_app ov h3 hn2 hp
    refine ⟨ov2.next, ⟨c.tdiv 10000, done ++ [((c.natAbs % 10000 : Nat) : Int)], rfl, ov2, ?_, ?_, by omega⟩, by omega⟩
    · simpa [ints, lin] using hO
    · rw [hd, hdc, hq]; simp
theorem cut_spec (l : List Int) (hl : Dg l) (hn : (l.length : Int) < 2 ^ 40) (H : AHeap) (K : ARes → AHeap → Prop) (hK : K (.ret (vecI (dig (val l)))) H) : ACall Tryd.prog G0 78 [vecI l] H K := by
  refine ACall.of_body (n := 21) (rs := [.tmp 2]) Tryd.func78 rfl rfl rfl (by decide) (by kernel_rfl) (by simp) ?_
  simp (config := { maxSteps := 1000000 }) only [go_sem, Int.reduceToNat, Int.reduceLE, Int.reduceLT, Int.reduceAdd, Int.reduceSub, Int.reduceMul, Int.reduceEq, Int.reduceNe, Nat.reduceEqDiff, Nat.reducePow, Nat.reduceDiv, Nat.reduceMod, Nat.reduceAdd, Nat.reduceMul, Nat.reduceSub, Nat.reduceLT, Nat.reduceLeDiff, reduceIte, reduceCtorEq, appendA_U]
  refine W.loop0 1048569 (by rfl) (fun ρ H' => H = H' ∧ ∃ (m : List Int), ρ 0 = vecI m ∧ Dg m ∧ val m = val l ∧ m.length ≤ l.length) (fun ρ H => (match ρ 0 with | .vec n _ => n | _ => 0)) ?_ ?_
  · simp (config := { maxSteps := 1000000 }) only [go_sem, Int.reduceToNat, Int.reduceLE, Int.reduceLT, Int.reduceAdd, Int.reduceSub, Int.reduceMul, Int.reduceEq, Int.reduceNe, Nat.reduceEqDiff, Nat.reducePow, Nat.reduceDiv, Nat.reduceMod, Nat.reduceAdd, Nat.reduceMul, Nat.reduceSub, Nat.reduceLT, Nat.reduceLeDiff, reduceIte, reduceCtorEq, appendA_U]
    exact ⟨l, rfl, hl, rfl, Nat.le_refl _⟩
  rintro ρ H' ⟨rfl, m, h0, hd, hv, hm⟩
  refine vc_sound _ _ _ (by rfl) ?_
  unfold vecI at h0
  by_cases hz : m.length = 0
  · have hm0 : m = [] := List.eq_nil_of_length_eq_zero hz
    subst hm0
    have z1 : ¬ (0 : Int) < ((0 : Nat) : Int) := by omega
    simp (config := { maxSteps := 1000000 }) only [go_sem, Int.reduceToNat, Int.reduceLE, Int.reduceLT, Int.reduceAdd, Int.reduceSub, Int.reduceMul, Int.reduceEq, Int.reduceNe, Nat.reduceEqDiff, Nat.reducePow, Nat.reduceDiv, Nat.reduceMod, Nat.reduceAdd, Nat.reduceMul, Nat.reduceSub, Nat.reduceLT, Nat.reduceLeDiff, reduceIte, reduceCtorEq, h0, guardA_undef, List.length_nil, appendA_U]
    rw [← hv] at hK
    have : dig (val []) = [] := dig_zero
    rw [this] at hK
    exact FinV.mk (Nat.le_refl _) hK
  · obtain ⟨a, ha⟩ : ∃ a, m[m.length - 1]? = some a := ⟨_, List.getElem?_eq_getElem (by omega)⟩
    have hmn : ¬ m = [] := by rintro rfl; simp at hz
    have z1 : (0 : Int) < (m.length : Int) := by omega
    have w1 : IntKind.i64.wrap ((m.length : Int) - 1) = ((m.length - 1 : Nat) : Int) := by rw [IntWalk.i64_in _ (by omega)]; omega
    have b1 : ((m.length - 1 : Nat) : Int) < (m.length : Int) := by omega
    have b2 : ((m.length - 1 : Nat) : Int) ≤ (m.length : Int) := by omega
    by_cases h0a : a = 0
    · subst h0a
      simp (config := { maxSteps := 1000000 }) only [go_sem, Int.reduceToNat, Int.reduceLE, Int.reduceLT, Int.reduceAdd, Int.reduceSub, Int.reduceMul, Int.reduceEq, Int.reduceNe, Nat.reduceEqDiff, Nat.reducePow, Nat.reduceDiv, Nat.reduceMod, Nat.reduceAdd, Nat.reduceMul, Nat.reduceSub, Nat.reduceLT, Nat.reduceLeDiff, reduceIte, reduceCtorEq, h0, z1, w1, b1, b2, ha, hmn, appendA_U]
      have hs : m.take (m.length - 1) ++ [0] = m := by
        have h := take_succ_of ha
        rw [Nat.sub_add_cancel (by omega), List.take_length] at h
        exact h.symm
      refine ⟨⟨m.take (m.length - 1), ?_, fun c hc => hd c (List.mem_of_mem_take hc), ?_, by simp; omega⟩, by omega⟩
      · simp only [List.length_take, ints_take]; congr 1; omega
      · rw [← hv]
        conv => rhs; rw [← hs]
        rw [val_append]; simp [val]
    · simp (config := { maxSteps := 1000000 }) only [go_sem, Int.reduceToNat, Int.reduceLE, Int.reduceLT, Int.reduceAdd, Int.reduceSub, Int.reduceMul, Int.reduceEq, Int.reduceNe, Nat.reduceEqDiff, Nat.reducePow, Nat.reduceDiv, Nat.reduceMod, Nat.reduceAdd, Nat.reduceMul, Nat.reduceSub, Nat.reduceLT, Nat.reduceLeDiff, reduceIte, reduceCtorEq, h0, z1, w1, b1, b2, ha, hmn, h0a, appendA_U]
      have hlast : m.getLast? = some a := by rw [List.getLast?_eq_getElem?]; exact ha
      have := dig_of hd fun b hb => by rw [hlast] at hb; cases hb; exact h0a
      rw [← hv, this] at hK
      exact FinV.mk (Nat.le_refl _) hK
/-- Lists of digits, compared from the end. -/
theorem val_cmp {x y : List Int} (hx : Dg x) (hy : Dg y) (hl : x.length = y.length) {k : Nat} {a b : Int} (ha : x[k]? = some a) (hb : y[k]? = some b) (he : ∀ j, k < j → x[j]? = y[j]?) (hab : a < b) : val x < val y := by
  have sp : ∀ {l : List Int} {c : Int}, l[k]? = some c → l = l.take k ++ c :: l.drop (k + 1) := fun {l c} h => by
    have hk := (List.getElem?_eq_some_iff.1 h).1
    have h2 := (List.getElem?_eq_some_iff.1 h).2
    conv => lhs; rw [← List.take_append_drop k l]
    rw [List.drop_eq_getElem_cons hk, h2]
  have e1 : x.drop (k + 1) = y.drop (k + 1) := by
    apply List.ext_getElem?
    intro i
    rw [List.getElem?_drop, List.getElem?_drop]
    exact he _ (by omega)
  have hk := (List.getElem?_eq_some_iff.1 ha).1
  have hk2 := (List.getElem?_eq_some_iff.1 hb).1
  rw [sp ha, sp hb, val_append, val_append, e1]
  have l1 : (x.take k).length = k := by simp; omega
  have l2 : (y.take k).length = k := by simp; omega
  rw [l1, l2]
  have v1 := val_lt (l := x.take k) fun c hc => hx c (List.mem_of_mem_take hc)
  have v2 : 0 ≤ val (y.take k) := Nat.zero_le _
  rw [l1] at v1
  have pa := hx a (List.mem_of_getElem? ha)
  have pb := hy b (List.mem_of_getElem? hb)
  simp only [val]
  have h3 : 10000 ^ k * (a.toNat + 10000 * val (y.drop (k + 1))) + 10000 ^ k ≤ 10000 ^ k * (b.toNat + 10000 * val (y.drop (k + 1))) := by
    have : a.toNat + 10000 * val (y.drop (k + 1)) + 1 ≤ b.toNat + 10000 * val (y.drop (k + 1)) := by omega
    calc _ = 10000 ^ k * (a.toNat + 10000 * val (y.drop (k + 1)) + 1) := (Nat.mul_succ _ _).symm
      _ ≤ _ := Nat.mul_le_mul_left _ this
  omega
theorem compare_spec (x y : Nat) (hx : ((dig x).length : Int) < 2 ^ 40) (H : AHeap) (K : ARes → AHeap → Prop) (hK : K (.ret (.lit (.int .i64 (cmpI x y)))) H) : ACall Tryd.prog G0 44 [vecI (dig x), vecI (dig y)] H K := by
  obtain ⟨p, hp⟩ : ∃ p, p = dig x := ⟨_, rfl⟩
  obtain ⟨q, hq⟩ : ∃ q, q = dig y := ⟨_, rfl⟩
  have dx := dg_dig x
  have dy := dg_dig y
  have vx := val_dig x
  have vy := val_dig y
  have lt1 : p.length < q.length → x < y := fun h => dig_lt_len (by rw [← hp, ← hq]; exact h)
  have lt2 : q.length < p.length → y < x := fun h => dig_lt_len (by rw [← hp, ← hq]; exact h)
  rw [← hp] at hx dx vx ⊢
  rw [← hq] at dy vy ⊢
  refine ACall.of_body (n := 41) (rs := [.tmp 4]) Tryd.func44 rfl rfl rfl (by decide) (by kernel_rfl) (by simp) ?_
  by_cases hl : (p.length : Int) = q.length
  rotate_left
  · by_cases hl2 : (p.length : Int) < q.length
    · have : cmpI x y = -1 := by unfold cmpI; rw [if_pos (by have := lt1 (by omega); omega)]
      rw [this] at hK
      simp (config := { maxSteps := 1000000 }) only [go_sem, Int.reduceToNat, Int.reduceLE, Int.reduceLT, Int.reduceAdd, Int.reduceSub, Int.reduceMul, Int.reduceEq, Int.reduceNe, Nat.reduceEqDiff, Nat.reducePow, Nat.reduceDiv, Nat.reduceMod, Nat.reduceAdd, Nat.reduceMul, Nat.reduceSub, Nat.reduceLT, Nat.reduceLeDiff, reduceIte, reduceCtorEq, hl, hl2, appendA_U]
      exact FinV.mk (Nat.le_refl _) hK
    · have := lt2 (by omega)
      have : cmpI x y = 1 := by unfold cmpI; rw [if_neg (by omega), if_neg (by omega)]
      rw [this] at hK
      simp (config := { maxSteps := 1000000 }) only [go_sem, Int.reduceToNat, Int.reduceLE, Int.reduceLT, Int.reduceAdd, Int.reduceSub, Int.reduceMul, Int.reduceEq, Int.reduceNe, Nat.reduceEqDiff, Nat.reducePow, Nat.reduceDiv, Nat.reduceMod, Nat.reduceAdd, Nat.reduceMul, Nat.reduceSub, Nat.reduceLT, Nat.reduceLeDiff, reduceIte, reduceCtorEq, hl, hl2, appendA_U]
      exact FinV.mk (Nat.le_refl _) hK
  have hln : p.length = q.length := by omega
  have w0 := IntWalk.i64_in ((p.length : Int) - 1) (by omega)
  simp (config := { maxSteps := 1000000 }) only [go_sem, Int.reduceToNat, Int.reduceLE, Int.reduceLT, Int.reduceAdd, Int.reduceSub, Int.reduceMul, Int.reduceEq, Int.reduceNe, Nat.reduceEqDiff, Nat.reducePow, Nat.reduceDiv, Nat.reduceMod, Nat.reduceAdd, Nat.reduceMul, Nat.reduceSub, Nat.reduceLT, Nat.reduceLeDiff, reduceIte, reduceCtorEq, hl, w0, appendA_U]
  rw [← hl, w0]
  refine W.loop0 2199022731312 (by rfl) (fun ρ H' => H = H' ∧ ∃ (k : Nat), ρ 5 = lin ((k : Int) - 1) ∧ k ≤ p.length ∧ ∀ j, k ≤ j → p[j]? = q[j]?) (fun ρ H => (iv (ρ 5) + 1).toNat) ?_ ?_
  · simp (config := { maxSteps := 1000000 }) only [go_sem, Int.reduceToNat, Int.reduceLE, Int.reduceLT, Int.reduceAdd, Int.reduceSub, Int.reduceMul, Int.reduceEq, Int.reduceNe, Nat.reduceEqDiff, Nat.reducePow, Nat.reduceDiv, Nat.reduceMod, Nat.reduceAdd, Nat.reduceMul, Nat.reduceSub, Nat.reduceLT, Nat.reduceLeDiff, reduceIte, reduceCtorEq, appendA_U]
    exact ⟨p.length, by simp, Nat.le_refl _, fun j hj => by rw [List.getElem?_eq_none hj, List.getElem?_eq_none (by omega)]⟩
  rintro ρ H' ⟨rfl, k, h5, hk, he⟩
  refine vc_sound _ _ _ (by rfl) ?_
  by_cases hz : k = 0
  · subst hz
    have z1 : ¬ (0 : Int) ≤ ((0 : Nat) : Int) - 1 := by omega
    have e0 : p = q := List.ext_getElem? fun j => he j (Nat.zero_le _)
    have : x = y := by rw [← vx, ← vy, e0]
    have : cmpI x y = 0 := by unfold cmpI; rw [if_neg (by omega), if_pos (by omega)]
    rw [this] at hK
    simp (config := { maxSteps := 1000000 }) only [go_sem, Int.reduceToNat, Int.reduceLE, Int.reduceLT, Int.reduceAdd, Int.reduceSub, Int.reduceMul, Int.reduceEq, Int.reduceNe, Nat.reduceEqDiff, Nat.reducePow, Nat.reduceDiv, Nat.reduceMod, Nat.reduceAdd, Nat.reduceMul, Nat.reduceSub, Nat.reduceLT, Nat.reduceLeDiff, reduceIte, reduceCtorEq, h5, z1, appendA_U]
    exact FinV.mk (Nat.le_refl _) hK
  · obtain ⟨j, rfl⟩ : ∃ j, k = j + 1 := ⟨k - 1, by omega⟩
    obtain ⟨a, ha⟩ : ∃ a, p[j]? = some a := ⟨_, List.getElem?_eq_getElem (by omega)⟩
    obtain ⟨b, hb⟩ : ∃ b, q[j]? = some b := ⟨_, List.getElem?_eq_getElem (by omega)⟩
    have hpn : ¬ p = [] := by rintro rfl; simp at ha
    have hqn : ¬ q = [] := by rintro rfl; simp at hb
    have ej : ((j + 1 : Nat) : Int) - 1 = (j : Int) := by omega
    rw [ej] at h5
    have z1 : (0 : Int) ≤ (j : Int) := by omega
    have b1 : (j : Int) < p.length := by omega
    have b2 : (j : Int) < q.length := by omega
    have w2 := IntWalk.i64_in ((j : Int) - 1) (by omega)
    simp (config := { maxSteps := 1000000 }) only [go_sem, Int.reduceToNat, Int.reduceLE, Int.reduceLT, Int.reduceAdd, Int.reduceSub, Int.reduceMul, Int.reduceEq, Int.reduceNe, Nat.reduceEqDiff, Nat.reducePow, Nat.reduceDiv, Nat.reduceMod, Nat.reduceAdd, Nat.reduceMul, Nat.reduceSub, Nat.reduceLT, Nat.reduceLeDiff, reduceIte, reduceCtorEq, h5, z1, appendA_U]
    refine W.draw 8 [0, 0, 3, 7, 0, 0, 48, 112] Tryd.mixed (by kernel_rfl) (by kernel_rfl) ?_
    by_cases hab : a = b
    · subst hab
      simp (config := { maxSteps := 1000000 }) only [go_sem, Int.reduceToNat, Int.reduceLE, Int.reduceLT, Int.reduceAdd, Int.reduceSub, Int.reduceMul, Int.reduceEq, Int.reduceNe, Nat.reduceEqDiff, Nat.reducePow, Nat.reduceDiv, Nat.reduceMod, Nat.reduceAdd, Nat.reduceMul, Nat.reduceSub, Nat.reduceLT, Nat.reduceLeDiff, reduceIte, reduceCtorEq, h5, z1, b1, b2, ha, hb, hpn, hqn, w2, appendA_U]
      exact ⟨⟨j, rfl, by omega, fun i hi => by
        rcases Nat.lt_or_ge j i with h | h
        · exact he i (by omega)
        · obtain rfl : i = j := by omega
          rw [ha, hb]⟩, by omega⟩
    · simp (config := { maxSteps := 1000000 }) only [go_sem, Int.reduceToNat, Int.reduceLE, Int.reduceLT, Int.reduceAdd, Int.reduceSub, Int.reduceMul, Int.reduceEq, Int.reduceNe, Nat.reduceEqDiff, Nat.reducePow, Nat.reduceDiv, Nat.reduceMod, Nat.reduceAdd, Nat.reduceMul, Nat.reduceSub, Nat.reduceLT, Nat.reduceLeDiff, reduceIte, reduceCtorEq, h5, z1, b1, b2, ha, hb, hpn, hqn, hab, appendA_U]
      refine W.draw 8 [0, 0, 3, 7, 0, 0, 48, 112] Tryd.mixed (by kernel_rfl) (by kernel_rfl) ?_
      by_cases hlt : a < b
      · have h1 := val_cmp dx dy hln ha hb (fun i hi => he i (by omega)) hlt
        rw [vx, vy] at h1
        have : cmpI x y = -1 := by unfold cmpI; rw [if_pos (by omega)]
        rw [this] at hK
        simp (config := { maxSteps := 1000000 }) only [go_sem, Int.reduceToNat, Int.reduceLE, Int.reduceLT, Int.reduceAdd, Int.reduceSub, Int.reduceMul, Int.reduceEq, Int.reduceNe, Nat.reduceEqDiff, Nat.reducePow, Nat.reduceDiv, Nat.reduceMod, Nat.reduceAdd, Nat.reduceMul, Nat.reduceSub, Nat.reduceLT, Nat.reduceLeDiff, reduceIte, reduceCtorEq, h5, z1, b1, b2, ha, hb, hpn, hqn, hlt, appendA_U]
        exact FinV.mk (Nat.le_refl _) hK
      · have h1 := val_cmp dy dx hln.symm hb ha (fun i hi => (he i (by omega)).symm) (by omega)
        rw [vx, vy] at h1
        have : cmpI x y = 1 := by unfold cmpI; rw [if_neg (by omega), if_neg (by omega)]
        rw [this] at hK
        simp (config := { maxSteps := 1000000 }) only [go_sem, Int.reduceToNat, Int.reduceLE, Int.reduceLT, Int.reduceAdd, Int.reduceSub, Int.reduceMul, Int.reduceEq, Int.reduceNe, Nat.reduceEqDiff, Nat.reducePow, Nat.reduceDiv, Nat.reduceMod, Nat.reduceAdd, Nat.reduceMul, Nat.reduceSub, Nat.reduceLT, Nat.reduceLeDiff, reduceIte, reduceCtorEq, h5, z1, b1, b2, ha, hb, hpn, hqn, hlt, appendA_U]
        exact FinV.mk (Nat.le_refl _) hK
end Go.Proofs
set_option linter.unusedSimpArgs false
set_option maxRecDepth 100000
namespace Go.Proofs
open Go.Hx
theorem dig_get {l : List Int} {i X : Nat} (h : l.drop i = dig X) : (i < l.length ↔ X ≠ 0) ∧ (X ≠ 0 → l[i]? = some ((X % 10000 : Nat) : Int)) ∧ l.drop (i + 1) = dig (X / 10000) := by
  have hl : l.length - i = (dig X).length := by rw [← h, List.length_drop]
  by_cases h0 : X = 0
  · subst h0
    rw [dig_zero] at h hl
    simp only [List.length_nil] at hl
    refine ⟨⟨fun h => by omega, fun h => absurd rfl h⟩, fun h => absurd rfl h, ?_⟩
    rw [dig_zero, List.drop_eq_nil_iff.2 (by omega)]
  · rw [dig_pos h0] at h hl
    simp only [List.length_cons] at hl
    refine ⟨⟨fun _ => h0, fun _ => by omega⟩, fun _ => ?_, ?_⟩
    · have := congrArg (fun m => m[0]?) h
      simpa [List.getElem?_drop] using this
    · have := congrArg List.tail h
      simpa [List.tail_drop] using this
theorem len_of_dig {n : Nat} {k : Nat} (h : (dig n).length ≤ k) : n < 10000 ^ k := by
  have := val_lt (dg_dig n)
  rw [val_dig] at this
  exact Nat.lt_of_lt_of_le this (Nat.pow_le_pow_right (by decide) h)
set_option maxHeartbeats 1000000 in
theorem plus_spec (x y : Nat) (hx : (dig x).length ≤ 200) (hy : (dig y).length ≤ 200) (H : AHeap) (K : ARes → AHeap → Prop) (hK : K (.ret (vecI (dig (x + y)))) H) : ACall Tryd.prog G0 55 [vecI (dig x), vecI (dig y)] H K := by
  refine ACall.clo ⟨_, Tryd.func55, rfl, rfl⟩ fun hcl => ?_
  have hS : (dig (x + y)).length ≤ 201 := dig_len (by
    have h1 := len_of_dig hx
    have h2 := len_of_dig hy
    rw [Nat.pow_succ]
    generalize 10000 ^ 200 = P at *
    omega)
  obtain ⟨p, hp⟩ : ∃ p, p = dig x := ⟨_, rfl⟩
  obtain ⟨q, hq⟩ : ∃ q, q = dig y := ⟨_, rfl⟩
  rw [← hp] at hx ⊢
  rw [← hq] at hy ⊢
  refine ACall.of_body (n := 52) (rs := [.tmp 4]) Tryd.func55 rfl rfl rfl (by decide) (by kernel_rfl) (by simp) ?_
  simp (config := { maxSteps := 1000000 }) only [go_sem, Int.reduceToNat, Int.reduceLE, Int.reduceLT, Int.reduceAdd, Int.reduceSub, Int.reduceMul, Int.reduceEq, Int.reduceNe, Nat.reduceEqDiff, Nat.reducePow, Nat.reduceDiv, Nat.reduceMod, Nat.reduceAdd, Nat.reduceMul, Nat.reduceSub, Nat.reduceLT, Nat.reduceLeDiff, reduceIte, reduceCtorEq, appendA_U]
  refine W.loop0 2251799813685216 (by rfl) (fun ρ H' => ∃ (i c X Y : Nat) (done : List Int), ρ 7 = lin i ∧ ρ 6 = lin c ∧ c ≤ 1 ∧ Over H H' ∧ OwnG H.next H' 3 (ρ 5) (ints done) ∧ done.length = i ∧ p.drop i = dig X ∧ q.drop i = dig Y ∧ dig (x + y) = done ++ dig (c + X + Y)) (fun ρ H => 201 - (iv (ρ 7)).toNat) ?_ ?_
  · simp (config := { maxSteps := 1000000 }) only [go_sem, Int.reduceToNat, Int.reduceLE, Int.reduceLT, Int.reduceAdd, Int.reduceSub, Int.reduceMul, Int.reduceEq, Int.reduceNe, Nat.reduceEqDiff, Nat.reducePow, Nat.reduceDiv, Nat.reduceMod, Nat.reduceAdd, Nat.reduceMul, Nat.reduceSub, Nat.reduceLT, Nat.reduceLeDiff, reduceIte, reduceCtorEq, appendA_U]
    exact ⟨0, 0, x, y, [], rfl, rfl, by omega, .refl _, .nil, rfl, by simpa using hp, by simpa using hq, by simp⟩
  rintro ρ H' ⟨i, c, X, Y, done, h7, h6, hc, ov, h5, hl, hX, hY, hd⟩
  refine vc_sound _ _ _ (by rfl) ?_
  obtain ⟨a1, a2, a3⟩ := dig_get hX
  obtain ⟨b1, b2, b3⟩ := dig_get hY
  by_cases hR : c + X + Y = 0
  · have n1 : ¬ (i : Int) < p.length := by have := fun h => a1.1 h; omega
    have n2 : ¬ (i : Int) < q.length := by have := fun h => b1.1 h; omega
    have n3 : ¬ (0 : Int) < (c : Int) := by omega
    simp (config := { maxSteps := 1000000 }) only [go_sem, Int.reduceToNat, Int.reduceLE, Int.reduceLT, Int.reduceAdd, Int.reduceSub, Int.reduceMul, Int.reduceEq, Int.reduceNe, Nat.reduceEqDiff, Nat.reducePow, Nat.reduceDiv, Nat.reduceMod, Nat.reduceAdd, Nat.reduceMul, Nat.reduceSub, Nat.reduceLT, Nat.reduceLeDiff, reduceIte, reduceCtorEq, h7, h6, n1, n2, n3, appendA_U]
    rw [hR, dig_zero, List.append_nil] at hd
    rw [hd] at hK
    exact FinV.dropO G0_ok hcl ov (h5.fzI fun i hi => hi) hK
  · have hdR := dig_pos hR
    have hlen : done.length ≤ 200 := by rw [hd, hdR, List.length_append, List.length_cons] at hS; omega
    obtain ⟨t, ht⟩ : ∃ t, t = c + X % 10000 + Y % 10000 := ⟨_, rfl⟩
    have e1 : (c + X + Y) % 10000 = t % 10000 := by omega
    have e2 : (c + X + Y) / 10000 = t / 10000 + X / 10000 + Y / 10000 := by omega
    have tm : ((t : Int)).tmod 10000 = ((t % 10000 : Nat) : Int) := by rw [Int.tmod_eq_emod_of_nonneg (by omega)]; rfl
    have td : ((t : Int)).tdiv 10000 = ((t / 10000 : Nat) : Int) := by rw [Int.tdiv_eq_ediv_of_nonneg (by omega)]; rfl
    have w1 := IntWalk.i64_in ((t % 10000 : Nat) : Int) (by omega)
    have w2 := IntWalk.i64_in ((t / 10000 : Nat) : Int) (by omega)
    have w3 := IntWalk.i64_in ((i : Int) + 1) (by omega)
    obtain ⟨v', H2, hA, hO, hn2, hpr⟩ := app_oneG (P := Tryd.prog) (H := H') (t := 73) (x := lin (t % 10000 : Nat)) (n := H'.next + 1) Tryd.underlying73 Tryd.cells3 Tryd.zero3 rfl (by rw [Tryd.bytes3, ints_length]; omega) h5 ov.next rfl
    simp only [lin] at hA
    have ov2 : Over H H2 := over_app ov h5 hn2 hpr
    have fin : ∃ (i' c' X' Y' : Nat) (done' : List Int), AVal.lit (.int .i64 ((i : Int) + 1)) = lin i' ∧ AVal.lit (.int .i64 ((t / 10000 : Nat) : Int)) = lin c' ∧ c' ≤ 1 ∧ Over H H2 ∧ OwnG H.next H2 3 v' (ints done') ∧ done'.length = i' ∧ p.drop i' = dig X' ∧ q.drop i' = dig Y' ∧ dig (x + y) = done' ++ dig (c' + X' + Y') := by
      refine ⟨i + 1, t / 10000, X / 10000, Y / 10000, done ++ [((t % 10000 : Nat) : Int)], by simp [lin], rfl, by omega, ov2, by simpa [ints, lin] using hO, by simp [hl], a3, b3, ?_⟩
      rw [hd, hdR, e1, e2]; simp
    by_cases hx0 : X = 0
    · have n1 : ¬ (i : Int) < p.length := by have := fun h => a1.1 h; omega
      by_cases hy0 : Y = 0
      · have n2 : ¬ (i : Int) < q.length := by have := fun h => b1.1 h; omega
        have n3 : (0 : Int) < (c : Int) := by omega
        have tc : (c : Int) = (t : Int) := by omega
        rw [tc] at h6 n3
        simp (config := { maxSteps := 1000000 }) only [go_sem, Int.reduceToNat, Int.reduceLE, Int.reduceLT, Int.reduceAdd, Int.reduceSub, Int.reduceMul, Int.reduceEq, Int.reduceNe, Nat.reduceEqDiff, Nat.reducePow, Nat.reduceDiv, Nat.reduceMod, Nat.reduceAdd, Nat.reduceMul, Nat.reduceSub, Nat.reduceLT, Nat.reduceLeDiff, reduceIte, reduceCtorEq, h7, h6, n1, n2, n3, tm, td, w1, w2, w3, hA]
        exact ⟨ov2.next, fin, by omega⟩
      · have n2 : (i : Int) < q.length := by have := b1.2 hy0; omega
        have g2 := b2 hy0
        have qn : ¬ q = [] := by rintro rfl; simp at n2; omega
        have tc : (c : Int) + ((Y % 10000 : Nat) : Int) = (t : Int) := by omega
        have w4 := IntWalk.i64_in (t : Int) (by omega)
        simp (config := { maxSteps := 1000000 }) only [go_sem, Int.reduceToNat, Int.reduceLE, Int.reduceLT, Int.reduceAdd, Int.reduceSub, Int.reduceMul, Int.reduceEq, Int.reduceNe, Nat.reduceEqDiff, Nat.reducePow, Nat.reduceDiv, Nat.reduceMod, Nat.reduceAdd, Nat.reduceMul, Nat.reduceSub, Nat.reduceLT, Nat.reduceLeDiff, reduceIte, reduceCtorEq, h7, h6, n1, n2, g2, qn, tc, tm, td, w1, w2, w3, w4, hA]
        exact ⟨ov2.next, fin, by omega⟩
    · have n1 : (i : Int) < p.length := by have := a1.2 hx0; omega
      have g1 := a2 hx0
      have pn : ¬ p = [] := by rintro rfl; simp at n1; omega
      have w5 := IntWalk.i64_in ((c : Int) + ((X % 10000 : Nat) : Int)) (by omega)
      have w4 := IntWalk.i64_in (t : Int) (by omega)
      by_cases hy0 : Y = 0
      · have n2 : ¬ (i : Int) < q.length := by have := fun h => b1.1 h; omega
        have tc : (c : Int) + ((X % 10000 : Nat) : Int) = (t : Int) := by omega
        simp (config := { maxSteps := 1000000 }) only [go_sem, Int.reduceToNat, Int.reduceLE, Int.reduceLT, Int.reduceAdd, Int.reduceSub, Int.reduceMul, Int.reduceEq, Int.reduceNe, Nat.reduceEqDiff, Nat.reducePow, Nat.reduceDiv, Nat.reduceMod, Nat.reduceAdd, Nat.reduceMul, Nat.reduceSub, Nat.reduceLT, Nat.reduceLeDiff, reduceIte, reduceCtorEq, h7, h6, n1, n2, g1, pn, tc, tm, td, w1, w2, w3, w4, hA]
        exact ⟨ov2.next, fin, by omega⟩
      · have n2 : (i : Int) < q.length := by have := b1.2 hy0; omega
        have g2 := b2 hy0
        have qn : ¬ q = [] := by rintro rfl; simp at n2; omega
        have tc : (c : Int) + ((X % 10000 : Nat) : Int) + ((Y % 10000 : Nat) : Int) = (t : Int) := by omega
        simp (config := { maxSteps := 1000000 }) only [go_sem, Int.reduceToNat, Int.reduceLE, Int.reduceLT, Int.reduceAdd, Int.reduceSub, Int.reduceMul, Int.reduceEq, Int.reduceNe, Nat.reduceEqDiff, Nat.reducePow, Nat.reduceDiv, Nat.reduceMod, Nat.reduceAdd, Nat.reduceMul, Nat.reduceSub, Nat.reduceLT, Nat.reduceLeDiff, reduceIte, reduceCtorEq, h7, h6, n1, n2, g1, g2, pn, qn, w5, tc, tm, td, w1, w2, w3, w4, hA]
        exact ⟨ov2.next, fin, by omega⟩
set_option maxHeartbeats 1000000 in
theorem minus_spec (x y : Nat) (hxy : y ≤ x) (hx : (dig x).length ≤ 200) (H : AHeap) (K : ARes → AHeap → Prop) (hK : K (.ret (vecI (dig (x - y)))) H) : ACall Tryd.prog G0 56 [vecI (dig x), vecI (dig y)] H K := by
  refine ACall.clo ⟨_, Tryd.func56, rfl, rfl⟩ fun hcl => ?_
  have vx := val_dig x
  obtain ⟨p, hp⟩ : ∃ p, p = dig x := ⟨_, rfl⟩
  obtain ⟨q, hq⟩ : ∃ q, q = dig y := ⟨_, rfl⟩
  rw [← hp] at hx vx ⊢
  rw [← hq]
  refine ACall.of_body (n := 41) (rs := [.tmp 4]) Tryd.func56 rfl rfl rfl (by decide) (by kernel_rfl) (by simp) ?_
  simp (config := { maxSteps := 1000000 }) only [go_sem, Int.reduceToNat, Int.reduceLE, Int.reduceLT, Int.reduceAdd, Int.reduceSub, Int.reduceMul, Int.reduceEq, Int.reduceNe, Nat.reduceEqDiff, Nat.reducePow, Nat.reduceDiv, Nat.reduceMod, Nat.reduceAdd, Nat.reduceMul, Nat.reduceSub, Nat.reduceLT, Nat.reduceLeDiff, reduceIte, reduceCtorEq, appendA_U]
  refine W.loop0 549755813856 (by rfl) (fun ρ H' => ∃ (i c X Y : Nat) (done : List Int), ρ 7 = lin i ∧ ρ 6 = lin c ∧ c ≤ 1 ∧ i ≤ p.length ∧ Over H H' ∧ OwnG H.next H' 3 (ρ 5) (ints done) ∧ done.length = i ∧ Dg done ∧ p.drop i = dig X ∧ q.drop i = dig Y ∧ val done + 10000 ^ i * X = (x - y) + 10000 ^ i * (Y + c)) (fun ρ H => p.length - (iv (ρ 7)).toNat) ?_ ?_
  · simp (config := { maxSteps := 1000000 }) only [go_sem, Int.reduceToNat, Int.reduceLE, Int.reduceLT, Int.reduceAdd, Int.reduceSub, Int.reduceMul, Int.reduceEq, Int.reduceNe, Nat.reduceEqDiff, Nat.reducePow, Nat.reduceDiv, Nat.reduceMod, Nat.reduceAdd, Nat.reduceMul, Nat.reduceSub, Nat.reduceLT, Nat.reduceLeDiff, reduceIte, reduceCtorEq, appendA_U]
    exact ⟨0, 0, x, y, [], rfl, rfl, by omega, by omega, .refl _, .nil, rfl, (fun c hc => by cases hc), by simpa using hp, by simpa using hq, by simp [val]; omega⟩
  rintro ρ H' ⟨i, c, X, Y, done, h7, h6, hc, hi, ov, h5, hl, hdg, hX, hY, he⟩
  refine vc_sound _ _ _ (by rfl) ?_
  obtain ⟨a1, a2, a3⟩ := dig_get hX
  obtain ⟨b1, b2, b3⟩ := dig_get hY
  by_cases hb : (i : Int) < p.length
  rotate_left
  · simp (config := { maxSteps := 1000000 }) only [go_sem, Int.reduceToNat, Int.reduceLE, Int.reduceLT, Int.reduceAdd, Int.reduceSub, Int.reduceMul, Int.reduceEq, Int.reduceNe, Nat.reduceEqDiff, Nat.reducePow, Nat.reduceDiv, Nat.reduceMod, Nat.reduceAdd, Nat.reduceMul, Nat.reduceSub, Nat.reduceLT, Nat.reduceLeDiff, reduceIte, reduceCtorEq, h7, hb, appendA_U]
    have hX0 : X = 0 := by
      rcases Nat.eq_zero_or_pos X with h | h
      · exact h
      · have := a1.2 (by omega); omega
    have hv := val_lt hdg
    rw [hl] at hv
    have hYc : Y + c = 0 := by
      rcases Nat.eq_zero_or_pos (Y + c) with h | h
      · exact h
      · have : 10000 ^ i * 1 ≤ 10000 ^ i * (Y + c) := Nat.mul_le_mul_left _ h
        rw [hX0] at he
        omega
    have hvd : val done = x - y := by rw [hX0, hYc] at he; omega
    refine AApply.cutArgs H.next (args' := [vecI done]) G0_ok rfl (fun j hj _ => match j, hj with | 0, _ => h5.fzI fun i hi => hi) (cut_spec done hdg (by omega) _ _ ⟨trivial, ?_⟩)
    rw [hvd]
    have ov3 : Over H (H'.cut H.next) := ov.cutO (Nat.le_refl _)
    simp (config := { maxSteps := 1000000 }) only [go_sem, Int.reduceToNat, Int.reduceLE, Int.reduceLT, Int.reduceAdd, Int.reduceSub, Int.reduceMul, Int.reduceEq, Int.reduceNe, Nat.reduceEqDiff, Nat.reducePow, Nat.reduceDiv, Nat.reduceMod, Nat.reduceAdd, Nat.reduceMul, Nat.reduceSub, Nat.reduceLT, Nat.reduceLeDiff, reduceIte, reduceCtorEq, appendA_U]
    exact FinV.dropO G0_ok hcl ov3 (.keepInts _) hK
  have hx0 : X ≠ 0 := a1.1 (by omega)
  have g1 := a2 hx0
  have pn : ¬ p = [] := by rintro rfl; simp at hb; omega
  have w3 := IntWalk.i64_in ((i : Int) + 1) (by omega)
  obtain ⟨d, c', hd, hd2, hc'⟩ : ∃ d c' : Nat, (d : Int) = ((X % 10000 : Nat) : Int) - c - ((Y % 10000 : Nat) : Int) + 10000 * (c' : Int) ∧ d ≤ 9999 ∧ c' ≤ 1 := by
    by_cases h : ((X % 10000 : Nat) : Int) - c - ((Y % 10000 : Nat) : Int) < 0
    · exact ⟨(((X % 10000 : Nat) : Int) - c - ((Y % 10000 : Nat) : Int) + 10000).toNat, 1, by omega, by omega, by omega⟩
    · exact ⟨(((X % 10000 : Nat) : Int) - c - ((Y % 10000 : Nat) : Int)).toNat, 0, by omega, by omega, by omega⟩
  obtain ⟨v', H2, hA, hO, hn2, hpr⟩ := app_oneG (P := Tryd.prog) (H := H') (t := 73) (x := lin (d : Nat)) (n := H'.next + 1) Tryd.underlying73 Tryd.cells3 Tryd.zero3 rfl (by rw [Tryd.bytes3, ints_length]; omega) h5 ov.next rfl
  simp only [lin] at hA
  have ov2 : Over H H2 := over_app ov h5 hn2 hpr
  have fin : ∃ (i' c'' X' Y' : Nat) (done' : List Int), AVal.lit (.int .i64 ((i : Int) + 1)) = lin i' ∧ AVal.lit (.int .i64 (c' : Int)) = lin c'' ∧ c'' ≤ 1 ∧ i' ≤ p.length ∧ Over H H2 ∧ OwnG H.next H2 3 v' (ints done') ∧ done'.length = i' ∧ Dg done' ∧ p.drop i' = dig X' ∧ q.drop i' = dig Y' ∧ val done' + 10000 ^ i' * X' = (x - y) + 10000 ^ i' * (Y' + c'') := by
    refine ⟨i + 1, c', X / 10000, Y / 10000, done ++ [(d : Int)], by simp [lin], rfl, hc', by omega, ov2, by simpa [ints, lin] using hO, by simp [hl], fun z hz => ?_, a3, b3, ?_⟩
    · rcases List.mem_append.1 hz with hz | hz
      · exact hdg z hz
      · obtain rfl := List.mem_singleton.1 hz; omega
    · rw [val_append, hl, Nat.pow_succ]
      have e : d + 10000 * (X / 10000) + (Y + c) = X + 10000 * (Y / 10000 + c') := by omega
      have e2 := congrArg (10000 ^ i * ·) e
      simp only [Nat.mul_add, val, Int.toNat_natCast, Nat.mul_zero, Nat.add_zero, Nat.mul_assoc] at e2 he ⊢
      generalize 10000 ^ i * d = P1 at *
      generalize 10000 ^ i * (10000 * (X / 10000)) = P2 at *
      generalize 10000 ^ i * Y = P3 at *
      generalize 10000 ^ i * c = P4 at *
      generalize 10000 ^ i * X = P5 at *
      generalize 10000 ^ i * (10000 * (Y / 10000)) = P6 at *
      generalize 10000 ^ i * (10000 * c') = P7 at *
      omega
  have w4 := IntWalk.i64_in (((X % 10000 : Nat) : Int) - (c : Int)) (by omega)
  have w5 := IntWalk.i64_in (((X % 10000 : Nat) : Int) - (c : Int) - ((Y % 10000 : Nat) : Int)) (by omega)
  by_cases hy0 : Y = 0
  · have n2 : ¬ (i : Int) < q.length := by have := fun h => b1.1 h; omega
    by_cases hneg : ((X % 10000 : Nat) : Int) - (c : Int) < 0
    · obtain rfl : c' = 1 := by omega
      have ed : ((X % 10000 : Nat) : Int) - (c : Int) + 10000 = (d : Int) := by omega
      have w6 := IntWalk.i64_in (d : Int) (by omega)
      simp (config := { maxSteps := 1000000 }) only [go_sem, Int.reduceToNat, Int.reduceLE, Int.reduceLT, Int.reduceAdd, Int.reduceSub, Int.reduceMul, Int.reduceEq, Int.reduceNe, Nat.reduceEqDiff, Nat.reducePow, Nat.reduceDiv, Nat.reduceMod, Nat.reduceAdd, Nat.reduceMul, Nat.reduceSub, Nat.reduceLT, Nat.reduceLeDiff, reduceIte, reduceCtorEq, h7, h6, hb, n2, g1, pn, w4, hneg, ed, w6, w3, hA]
      exact ⟨ov2.next, fin, by omega⟩
    · obtain rfl : c' = 0 := by omega
      have ed : ((X % 10000 : Nat) : Int) - (c : Int) = (d : Int) := by omega
      rw [ed] at hneg w4
      simp (config := { maxSteps := 1000000 }) only [go_sem, Int.reduceToNat, Int.reduceLE, Int.reduceLT, Int.reduceAdd, Int.reduceSub, Int.reduceMul, Int.reduceEq, Int.reduceNe, Nat.reduceEqDiff, Nat.reducePow, Nat.reduceDiv, Nat.reduceMod, Nat.reduceAdd, Nat.reduceMul, Nat.reduceSub, Nat.reduceLT, Nat.reduceLeDiff, reduceIte, reduceCtorEq, h7, h6, hb, n2, g1, pn, ed, w4, hneg, w3, hA]
      exact ⟨ov2.next, fin, by omega⟩
  · have n2 : (i : Int) < q.length := by have := b1.2 hy0; omega
    have g2 := b2 hy0
    have qn : ¬ q = [] := by rintro rfl; simp at n2; omega
    by_cases hneg : ((X % 10000 : Nat) : Int) - (c : Int) - ((Y % 10000 : Nat) : Int) < 0
    · obtain rfl : c' = 1 := by omega
      have ed : ((X % 10000 : Nat) : Int) - (c : Int) - ((Y % 10000 : Nat) : Int) + 10000 = (d : Int) := by omega
      have w6 := IntWalk.i64_in (d : Int) (by omega)
      simp (config := { maxSteps := 1000000 }) only [go_sem, Int.reduceToNat, Int.reduceLE, Int.reduceLT, Int.reduceAdd, Int.reduceSub, Int.reduceMul, Int.reduceEq, Int.reduceNe, Nat.reduceEqDiff, Nat.reducePow, Nat.reduceDiv, Nat.reduceMod, Nat.reduceAdd, Nat.reduceMul, Nat.reduceSub, Nat.reduceLT, Nat.reduceLeDiff, reduceIte, reduceCtorEq, h7, h6, hb, n2, g1, g2, pn, qn, w4, w5, hneg, ed, w6, w3, hA]
      exact ⟨ov2.next, fin, by omega⟩
    · obtain rfl : c' = 0 := by omega
      have ed : ((X % 10000 : Nat) : Int) - (c : Int) - ((Y % 10000 : Nat) : Int) = (d : Int) := by omega
      rw [ed] at hneg w5
      simp (config := { maxSteps := 1000000 }) only [go_sem, Int.reduceToNat, Int.reduceLE, Int.reduceLT, Int.reduceAdd, Int.reduceSub, Int.reduceMul, Int.reduceEq, Int.reduceNe, Nat.reduceEqDiff, Nat.reducePow, Nat.reduceDiv, Nat.reduceMod, Nat.reduceAdd, Nat.reduceMul, Nat.reduceSub, Nat.reduceLT, Nat.reduceLeDiff, reduceIte, reduceCtorEq, h7, h6, hb, n2, g1, g2, pn, qn, w4, ed, w5, hneg, w3, hA]
      exact ⟨ov2.next, fin, by omega⟩
end Go.Proofs
set_option linter.unusedSimpArgs false
set_option maxRecDepth 100000
namespace Go.Proofs
open Go.Hx
theorem setAt_ints {l : List Int} {k : Nat} (v : Int) (h : k < l.length) : setAt (ints l) k [.lit (.int .i64 v)] = ints (l.set k v) := by
  unfold setAt ints
  rw [List.map_set, List.set_eq_take_append_cons_drop, if_pos (by simpa using h)]
  simp [lin]
theorem val_set : ∀ {l : List Int} {j : Nat} {a : Int} (v : Int), l[j]? = some a → val (l.set j v) + 10000 ^ j * a.toNat = val l + 10000 ^ j * v.toNat
  | b :: l, 0, a, v, h => by
    simp only [List.getElem?_cons_zero, Option.some.injEq] at h
    subst h
    simp only [List.set_cons_zero, val, Nat.pow_zero, Nat.one_mul]
    omega
  | b :: l, j + 1, a, v, h => by
    simp only [List.getElem?_cons_succ] at h
    have ih := val_set (l := l) v h
    simp only [List.set_cons_succ, val, Nat.pow_succ]
    have e1 : 10000 ^ j * 10000 * a.toNat = 10000 * (10000 ^ j * a.toNat) := by ac_rfl
    have e2 : 10000 ^ j * 10000 * v.toNat = 10000 * (10000 ^ j * v.toNat) := by ac_rfl
    rw [e1, e2]
    omega
theorem val_take_succ {l : List Int} {i : Nat} {a : Int} (h : l[i]? = some a) : val (l.take (i + 1)) = val (l.take i) + 10000 ^ i * a.toNat := by
  have hi := (List.getElem?_eq_some_iff.1 h).1
  rw [take_succ_of h, val_append, List.length_take, Nat.min_eq_left (by omega)]
  simp [val]
set_option maxHeartbeats 2000000 in
theorem dtimes_spec (p q : List Int) (hp : Dg p) (hq : ∀ c, c ∈ q → 0 ≤ c ∧ c ≤ 10000) (hqv : val q ≤ 10000 ^ q.length) (lp : p.length ≤ 200) (lq : q.length ≤ 200) (H : AHeap) (K : ARes → AHeap → Prop) (hK : K (.ret (vecI (dig (val p * val q)))) H) : ACall Tryd.prog G0 54 [vecI p, vecI q] H K := by
  refine ACall.clo ⟨_, Tryd.func54, rfl, rfl⟩ fun hcl => ?_
  have w0 := IntWalk.i64_in ((p.length : Int) + (q.length : Int)) (by omega)
  refine ACall.of_body (n := 65) (rs := [.tmp 4]) Tryd.func54 rfl rfl rfl (by decide) (by kernel_rfl) (by simp) ?_
  simp (config := { maxSteps := 1000000 }) only [go_sem, Int.reduceToNat, Int.reduceLE, Int.reduceLT, Int.reduceAdd, Int.reduceSub, Int.reduceMul, Int.reduceEq, Int.reduceNe, Nat.reduceEqDiff, Nat.reducePow, Nat.reduceDiv, Nat.reduceMod, Nat.reduceAdd, Nat.reduceMul, Nat.reduceSub, Nat.reduceLT, Nat.reduceLeDiff, reduceIte, reduceCtorEq, w0, appendA_U]
  obtain ⟨L, hL⟩ : ∃ L, L = p.length + q.length := ⟨_, rfl⟩
  have eL : ((p.length : Int) + (q.length : Int)).toNat = L := by omega
  have eL2 : (p.length : Int) + (q.length : Int) = (L : Int) := by omega
  rw [eL, eL2]
  have eR : List.replicate L (AVal.lit (.int .i64 0)) = ints (List.replicate L 0) := by simp [ints, lin]
  rw [eR]
  refine ⟨⟨by omega, by omega, by omega⟩, ?_⟩
  have dr : Dg (List.replicate L 0) := fun c hc => by obtain ⟨_, rfl⟩ := List.mem_replicate.1 hc; omega
  refine W.loop0 9223372036854743488 (by rfl) (fun ρ H' => ∃ (i : Nat) (o : List Int), ρ 6 = lin i ∧ i ≤ p.length ∧ H' = ext H [.arr 0 3 (ints o)] ∧ Dg o ∧ o.length = L ∧ val o = val (p.take i) * val q) (fun ρ H => p.length - (iv (ρ 6)).toNat) ?_ ?_
  · simp (config := { maxSteps := 1000000 }) only [go_sem, Int.reduceToNat, Int.reduceLE, Int.reduceLT, Int.reduceAdd, Int.reduceSub, Int.reduceMul, Int.reduceEq, Int.reduceNe, Nat.reduceEqDiff, Nat.reducePow, Nat.reduceDiv, Nat.reduceMod, Nat.reduceAdd, Nat.reduceMul, Nat.reduceSub, Nat.reduceLT, Nat.reduceLeDiff, reduceIte, reduceCtorEq, appendA_U]
    exact ⟨0, _, rfl, by omega, rfl, dr, by simp, by simp [val_zeros, val]⟩
  rintro ρ H' ⟨i, o, h6, hi, rfl, ho, hol, hv⟩
  refine vc_sound _ _ _ (by rfl) ?_
  by_cases hb : (i : Int) < p.length
  rotate_left
  · simp (config := { maxSteps := 1000000 }) only [go_sem, Int.reduceToNat, Int.reduceLE, Int.reduceLT, Int.reduceAdd, Int.reduceSub, Int.reduceMul, Int.reduceEq, Int.reduceNe, Nat.reduceEqDiff, Nat.reducePow, Nat.reduceDiv, Nat.reduceMod, Nat.reduceAdd, Nat.reduceMul, Nat.reduceSub, Nat.reduceLT, Nat.reduceLeDiff, reduceIte, reduceCtorEq, h6, hb, appendA_U]
    have hO : OwnG H.next (ext H [.arr 0 3 (ints o)]) 3 (.own H.next 0 0 L 1) (ints o) := .inr ⟨H.next, 0, Nat.le_refl _, by simp [ext_next], by rw [ints_length, hol], get_ext0 _ _ _⟩
    refine AApply.cutArgs H.next (args' := [vecI o]) G0_ok rfl (fun j hj _ => match j, hj with | 0, _ => hO.fzI fun i hi => hi) (cut_spec o ho (by omega) _ _ ⟨trivial, ?_⟩)
    rw [hv, List.take_of_length_le (by omega)]
    have ov3 : Over H ((ext H [.arr 0 3 (ints o)]).cut H.next) := (Over.ext _ _).cutO (Nat.le_refl _)
    simp (config := { maxSteps := 1000000 }) only [go_sem, Int.reduceToNat, Int.reduceLE, Int.reduceLT, Int.reduceAdd, Int.reduceSub, Int.reduceMul, Int.reduceEq, Int.reduceNe, Nat.reduceEqDiff, Nat.reducePow, Nat.reduceDiv, Nat.reduceMod, Nat.reduceAdd, Nat.reduceMul, Nat.reduceSub, Nat.reduceLT, Nat.reduceLeDiff, reduceIte, reduceCtorEq, appendA_U]
    exact FinV.dropO G0_ok hcl ov3 (.keepInts _) hK
  obtain ⟨a, ha⟩ : ∃ a, p[i]? = some a := ⟨_, List.getElem?_eq_getElem (by omega)⟩
  have ha9 := hp a (List.mem_of_getElem? ha)
  obtain ⟨A, rfl⟩ := Int.eq_ofNat_of_zero_le ha9.1
  have pn : ¬ p = [] := by rintro rfl; simp at ha
  have vt := val_take_succ ha
  rw [Int.toNat_natCast] at vt
  have w1 := IntWalk.i64_in ((i : Int) + 1) (by omega)
  simp (config := { maxSteps := 1000000 }) only [go_sem, Int.reduceToNat, Int.reduceLE, Int.reduceLT, Int.reduceAdd, Int.reduceSub, Int.reduceMul, Int.reduceEq, Int.reduceNe, Nat.reduceEqDiff, Nat.reducePow, Nat.reduceDiv, Nat.reduceMod, Nat.reduceAdd, Nat.reduceMul, Nat.reduceSub, Nat.reduceLT, Nat.reduceLeDiff, reduceIte, reduceCtorEq, h6, hb, appendA_U]
  refine W.loop0 9223372036852679040 (by rfl) (fun ρ' H' => ∃ (k c : Nat) (o2 : List Int), ρ' 8 = lin k ∧ ρ' 7 = lin c ∧ c ≤ 10000 ∧ k ≤ L ∧ H' = ext H [.arr 0 3 (ints o2)] ∧ Dg o2 ∧ o2.length = L ∧ val o2 + 10000 ^ (i + k) * c = val (p.take i) * val q + 10000 ^ i * (A * val (q.take k))) (fun ρ' H => L - (iv (ρ' 8)).toNat) ?_ ?_
  · simp (config := { maxSteps := 1000000 }) only [go_sem, Int.reduceToNat, Int.reduceLE, Int.reduceLT, Int.reduceAdd, Int.reduceSub, Int.reduceMul, Int.reduceEq, Int.reduceNe, Nat.reduceEqDiff, Nat.reducePow, Nat.reduceDiv, Nat.reduceMod, Nat.reduceAdd, Nat.reduceMul, Nat.reduceSub, Nat.reduceLT, Nat.reduceLeDiff, reduceIte, reduceCtorEq, appendA_U]
    exact ⟨0, 0, o, rfl, rfl, by omega, by omega, rfl, ho, hol, by simp [val, hv]⟩
  rintro ρ' H' ⟨k, c, o2, h8, h7, hc, hk, rfl, ho2, hol2, hv2⟩
  refine vc_sound _ _ _ (by rfl) ?_
  by_cases hend : ¬ k < q.length ∧ c = 0
  · obtain ⟨hk2, rfl⟩ := hend
    have n1 : ¬ (k : Int) < q.length := by omega
    have n2 : ¬ (0 : Int) < ((0 : Nat) : Int) := by omega
    simp (config := { maxSteps := 1000000 }) only [go_sem, Int.reduceToNat, Int.reduceLE, Int.reduceLT, Int.reduceAdd, Int.reduceSub, Int.reduceMul, Int.reduceEq, Int.reduceNe, Nat.reduceEqDiff, Nat.reducePow, Nat.reduceDiv, Nat.reduceMod, Nat.reduceAdd, Nat.reduceMul, Nat.reduceSub, Nat.reduceLT, Nat.reduceLeDiff, reduceIte, reduceCtorEq, h8, h7, n1, n2, h6, w1, appendA_U]
    refine ⟨⟨i + 1, o2, by simp, by omega, rfl, ho2, hol2, ?_⟩, by omega⟩
    rw [List.take_of_length_le (l := q) (i := k) (by omega)] at hv2
    rw [vt, Nat.add_mul]
    simp only [Nat.mul_zero, Nat.add_zero] at hv2
    rw [hv2, Nat.mul_assoc]
  have hik : i + k < L := by
    by_cases hkq : k < q.length
    · omega
    · have hc1 : 1 ≤ c := by omega
      rw [List.take_of_length_le (l := q) (i := k) (by omega)] at hv2
      have e : val (p.take i) * val q + 10000 ^ i * (A * val q) = val (p.take (i + 1)) * val q := by rw [vt, Nat.add_mul, Nat.mul_assoc]
      rw [e] at hv2
      have b1 : val (p.take (i + 1)) < 10000 ^ (i + 1) := by
        have := val_lt (l := p.take (i + 1)) fun c hc => hp c (List.mem_of_mem_take hc)
        rwa [List.length_take, Nat.min_eq_left (by omega)] at this
      have b2 : val (p.take (i + 1)) * val q < 10000 ^ (i + 1) * 10000 ^ q.length := by
        have p0 : 0 < 10000 ^ q.length := Nat.pow_pos (by decide)
        calc val (p.take (i + 1)) * val q ≤ val (p.take (i + 1)) * 10000 ^ q.length := Nat.mul_le_mul_left _ hqv
          _ < 10000 ^ (i + 1) * 10000 ^ q.length := Nat.mul_lt_mul_of_pos_right b1 p0
      rw [← Nat.pow_add] at b2
      have b3 : 10000 ^ (i + k) * 1 ≤ 10000 ^ (i + k) * c := Nat.mul_le_mul_left _ hc1
      have b4 : 10000 ^ (i + k) < 10000 ^ (i + 1 + q.length) := by omega
      have := (Nat.pow_lt_pow_iff_right (by decide : 1 < 10000)).1 b4
      omega
  obtain ⟨b, hbk⟩ : ∃ b, o2[i + k]? = some b := ⟨_, List.getElem?_eq_getElem (by omega)⟩
  have hb9 := ho2 b (List.mem_of_getElem? hbk)
  obtain ⟨B, rfl⟩ := Int.eq_ofNat_of_zero_le hb9.1
  have o2n : ¬ o2 = [] := by rintro rfl; simp at hbk
  have w2 := IntWalk.i64_in ((i : Int) + (k : Int)) (by omega)
  have w3 := IntWalk.i64_in ((k : Int) + 1) (by omega)
  have eik : (i : Int) + (k : Int) = ((i + k : Nat) : Int) := by omega
  rw [eik] at w2
  have bik : ((i + k : Nat) : Int) < (L : Int) := by omega
  have w4 := IntWalk.i64_in ((c : Int) + (B : Int)) (by omega)
  by_cases hkq : k < q.length
  · obtain ⟨d, hdk⟩ : ∃ d, q[k]? = some d := ⟨_, List.getElem?_eq_getElem (by omega)⟩
    have hd9 := hq d (List.mem_of_getElem? hdk)
    obtain ⟨D, rfl⟩ := Int.eq_ofNat_of_zero_le hd9.1
    have qn : ¬ q = [] := by rintro rfl; simp at hdk
    have n1 : (k : Int) < q.length := by omega
    have mAD : A * D ≤ 9999 * 10000 := Nat.mul_le_mul (by omega) (by omega)
    have cAD : (A : Int) * (D : Int) = ((A * D : Nat) : Int) := (Int.natCast_mul _ _).symm
    obtain ⟨t, ht⟩ : ∃ t, t = c + B + A * D := ⟨_, rfl⟩
    have et : (c : Int) + (B : Int) + ((A * D : Nat) : Int) = (t : Int) := by omega
    have w5 := IntWalk.i64_in ((A * D : Nat) : Int) (by omega)
    have w6 := IntWalk.i64_in (t : Int) (by omega)
    have tm : ((t : Int)).tmod 10000 = ((t % 10000 : Nat) : Int) := by rw [Int.tmod_eq_emod_of_nonneg (by omega)]; rfl
    have td : ((t : Int)).tdiv 10000 = ((t / 10000 : Nat) : Int) := by rw [Int.tdiv_eq_ediv_of_nonneg (by omega)]; rfl
    have w7 := IntWalk.i64_in ((t % 10000 : Nat) : Int) (by omega)
    have w8 := IntWalk.i64_in ((t / 10000 : Nat) : Int) (by omega)
    have hs := val_set ((t % 10000 : Nat) : Int) hbk
    rw [Int.toNat_natCast, Int.toNat_natCast] at hs
    have vq := val_take_succ hdk
    rw [Int.toNat_natCast] at vq
    have fin : ∃ (k' c' : Nat) (o3 : List Int), AVal.lit (.int .i64 ((k : Int) + 1)) = lin k' ∧ AVal.lit (.int .i64 ((t / 10000 : Nat) : Int)) = lin c' ∧ c' ≤ 10000 ∧ k' ≤ L ∧ ext H [.arr 0 3 (ints (o2.set (i + k) ((t % 10000 : Nat) : Int)))] = ext H [.arr 0 3 (ints o3)] ∧ Dg o3 ∧ o3.length = L ∧ val o3 + 10000 ^ (i + k') * c' = val (p.take i) * val q + 10000 ^ i * (A * val (q.take k')) := by
      refine ⟨k + 1, t / 10000, _, by simp [lin], rfl, by omega, by omega, rfl, fun z hz => ?_, by simp [hol2], ?_⟩
      · rcases List.mem_or_eq_of_mem_set hz with h | h
        · exact ho2 z h
        · omega
      · rw [vq, ← Nat.add_assoc, Nat.pow_succ]
        have e1 : t = t % 10000 + 10000 * (t / 10000) := by omega
        have e2 := congrArg (10000 ^ (i + k) * ·) (show c + B + A * D = t % 10000 + 10000 * (t / 10000) by omega)
        have e3 : 10000 ^ i * (A * (val (q.take k) + 10000 ^ k * D)) = 10000 ^ i * (A * val (q.take k)) + 10000 ^ (i + k) * (A * D) := by
          rw [Nat.mul_add, Nat.mul_add, Nat.pow_add]
          congr 1
          ac_rfl
        rw [e3]
        simp only [Nat.mul_add, Nat.mul_assoc] at e2 hv2 hs ⊢
        omega
    simp (config := { maxSteps := 1000000 }) only [go_sem, Int.reduceToNat, Int.reduceLE, Int.reduceLT, Int.reduceAdd, Int.reduceSub, Int.reduceMul, Int.reduceEq, Int.reduceNe, Nat.reduceEqDiff, Nat.reducePow, Nat.reduceDiv, Nat.reduceMod, Nat.reduceAdd, Nat.reduceMul, Nat.reduceSub, Nat.reduceLT, Nat.reduceLeDiff, reduceIte, reduceCtorEq, h8, h7, n1, h6, w2, w4, eik, bik, hbk, o2n, appendA_U]
    refine W.draw 10 [0, 0, 0, 6, 14, 0, 0, 96, 224, 510] Tryd.mixed (by kernel_rfl) (by kernel_rfl) ?_
    simp (config := { maxSteps := 1000000 }) only [go_sem, Int.reduceToNat, Int.reduceLE, Int.reduceLT, Int.reduceAdd, Int.reduceSub, Int.reduceMul, Int.reduceEq, Int.reduceNe, Nat.reduceEqDiff, Nat.reducePow, Nat.reduceDiv, Nat.reduceMod, Nat.reduceAdd, Nat.reduceMul, Nat.reduceSub, Nat.reduceLT, Nat.reduceLeDiff, reduceIte, reduceCtorEq, h8, h7, n1, h6, w2, w4, eik, bik, hbk, o2n, ha, hdk, pn, qn, hb, cAD, w5, et, w6, appendA_U]
    rw [w3, td, w8, tm, setAt_ints _ (by omega)]
    exact ⟨by omega, fin, by omega⟩
  · have n1 : ¬ (k : Int) < q.length := by omega
    have n2 : (0 : Int) < (c : Int) := by omega
    obtain ⟨t, ht⟩ : ∃ t, t = c + B := ⟨_, rfl⟩
    have et : (c : Int) + (B : Int) = (t : Int) := by omega
    have w6 := IntWalk.i64_in (t : Int) (by omega)
    have tm : ((t : Int)).tmod 10000 = ((t % 10000 : Nat) : Int) := by rw [Int.tmod_eq_emod_of_nonneg (by omega)]; rfl
    have td : ((t : Int)).tdiv 10000 = ((t / 10000 : Nat) : Int) := by rw [Int.tdiv_eq_ediv_of_nonneg (by omega)]; rfl
    have w7 := IntWalk.i64_in ((t % 10000 : Nat) : Int) (by omega)
    have w8 := IntWalk.i64_in ((t / 10000 : Nat) : Int) (by omega)
    have hs := val_set ((t % 10000 : Nat) : Int) hbk
    rw [Int.toNat_natCast, Int.toNat_natCast] at hs
    have fin : ∃ (k' c' : Nat) (o3 : List Int), AVal.lit (.int .i64 ((k : Int) + 1)) = lin k' ∧ AVal.lit (.int .i64 ((t / 10000 : Nat) : Int)) = lin c' ∧ c' ≤ 10000 ∧ k' ≤ L ∧ ext H [.arr 0 3 (ints (o2.set (i + k) ((t % 10000 : Nat) : Int)))] = ext H [.arr 0 3 (ints o3)] ∧ Dg o3 ∧ o3.length = L ∧ val o3 + 10000 ^ (i + k') * c' = val (p.take i) * val q + 10000 ^ i * (A * val (q.take k')) := by
      refine ⟨k + 1, t / 10000, _, by simp [lin], rfl, by omega, by omega, rfl, fun z hz => ?_, by simp [hol2], ?_⟩
      · rcases List.mem_or_eq_of_mem_set hz with h | h
        · exact ho2 z h
        · omega
      · rw [List.take_of_length_le (l := q) (i := k) (by omega)] at hv2
        rw [List.take_of_length_le (l := q) (i := k + 1) (by omega), ← Nat.add_assoc, Nat.pow_succ]
        have e2 := congrArg (10000 ^ (i + k) * ·) (show c + B = t % 10000 + 10000 * (t / 10000) by omega)
        simp only [Nat.mul_add, Nat.mul_assoc] at e2 hv2 hs ⊢
        omega
    simp (config := { maxSteps := 1000000 }) only [go_sem, Int.reduceToNat, Int.reduceLE, Int.reduceLT, Int.reduceAdd, Int.reduceSub, Int.reduceMul, Int.reduceEq, Int.reduceNe, Nat.reduceEqDiff, Nat.reducePow, Nat.reduceDiv, Nat.reduceMod, Nat.reduceAdd, Nat.reduceMul, Nat.reduceSub, Nat.reduceLT, Nat.reduceLeDiff, reduceIte, reduceCtorEq, h8, h7, n1, n2, h6, w2, eik, bik, hbk, o2n, et, w6, hol2, appendA_U]
    rw [w3, td, w8, tm, setAt_ints _ (by omega)]
    exact ⟨by omega, fin, by omega⟩
end Go.Proofs
set_option linter.unusedSimpArgs false
set_option maxRecDepth 100000
namespace Go.Proofs
open Go.Hx
theorem dtimes_dig (x y : Nat) (hx : (dig x).length ≤ 200) (hy : (dig y).length ≤ 200) (H : AHeap) (K : ARes → AHeap → Prop) (hK : K (.ret (vecI (dig (x * y)))) H) : ACall Tryd.prog G0 54 [vecI (dig x), vecI (dig y)] H K :=
  dtimes_spec (dig x) (dig y) (dg_dig x) (fun c hc => by have := dg_dig y c hc; omega) (Nat.le_of_lt (val_lt (dg_dig y))) hx hy H K (by rw [val_dig, val_dig]; exact hK)
theorem dtimes_one (x d : Nat) (hd : d ≤ 10000) (hx : (dig x).length ≤ 200) (H : AHeap) (K : ARes → AHeap → Prop) (hK : K (.ret (vecI (dig (x * d)))) H) : ACall Tryd.prog G0 54 [vecI (dig x), vecI [(d : Int)]] H K := by
  have e : val [(d : Int)] = d := by simp [val]
  refine dtimes_spec (dig x) [(d : Int)] (dg_dig x) (fun c hc => ?_) (by rw [e]; simpa using hd) hx (by simp) H K (by rw [val_dig, e]; exact hK)
  obtain rfl := List.mem_singleton.1 hc
  omega
theorem dig_drop (n : Nat) : ∀ k : Nat, (dig n).drop k = dig (n / 10000 ^ k)
  | 0 => by simp
  | k + 1 => by
    have h := (dig_get (dig_drop n k)).2.2
    rw [h, Nat.pow_succ, Nat.div_div_eq_div_mul]
theorem dig_nth {n k : Nat} (h : k < (dig n).length) : (dig n)[k]? = some ((n / 10000 ^ k % 10000 : Nat) : Int) := (dig_get (dig_drop n k)).2.1 ((dig_get (dig_drop n k)).1.1 h)
theorem dig_out {n k : Nat} (h : ¬ k < (dig n).length) : n / 10000 ^ k = 0 := by
  rcases Nat.eq_zero_or_pos (n / 10000 ^ k) with h0 | h0
  · exact h0
  · exact absurd ((dig_get (dig_drop n k)).1.2 (by omega)) h
/-- What the first digits tell of a quotient. -/
theorem quo_hi {N y P : Nat} (hP : 0 < P) (ht : 0 < y / P) : N / y ≤ N / P / (y / P) := by
  rw [Nat.le_div_iff_mul_le ht, Nat.le_div_iff_mul_le hP]
  calc N / y * (y / P) * P = N / y * (y / P * P) := Nat.mul_assoc ..
    _ ≤ N / y * y := Nat.mul_le_mul_left _ (Nat.div_mul_le_self _ _)
    _ ≤ N := Nat.div_mul_le_self _ _
theorem quo_lo {N y P : Nat} (hP : 0 < P) (hy : 0 < y) : N / P / (y / P + 1) ≤ N / y := by
  rw [Nat.le_div_iff_mul_le hy]
  have h1 : y ≤ (y / P + 1) * P := by
    have := Nat.lt_mul_div_succ y hP
    rw [Nat.mul_comm] at this
    omega
  calc N / P / (y / P + 1) * y ≤ N / P / (y / P + 1) * ((y / P + 1) * P) := Nat.mul_le_mul_left _ h1
    _ = N / P / (y / P + 1) * (y / P + 1) * P := (Nat.mul_assoc ..).symm
    _ ≤ N / P * P := Nat.mul_le_mul_right _ (Nat.div_mul_le_self _ _)
    _ ≤ N := Nat.div_mul_le_self _ _
theorem quo_cap {N y n : Nat} (hN : N < 10000 * y) (hy : 10000 ^ n ≤ y) : N / 10000 ^ (n - 1) / (y / 10000 ^ (n - 1)) ≤ 10000 := by
  have hP : 0 < 10000 ^ (n - 1) := Nat.pow_pos (by decide)
  rcases Nat.eq_zero_or_pos n with h0 | h0
  · subst h0
    have hy0 : 0 < y := by simp at hy; omega
    simp only [Nat.zero_sub, Nat.pow_zero, Nat.div_one]
    exact Nat.le_of_lt (Nat.div_lt_of_lt_mul (by rw [Nat.mul_comm]; exact hN))
  · have ht : 10000 ≤ y / 10000 ^ (n - 1) := by
      rw [Nat.le_div_iff_mul_le hP]
      have : 10000 * 10000 ^ (n - 1) = 10000 ^ n := by rw [Nat.mul_comm, ← Nat.pow_succ]; congr 1; omega
      omega
    generalize 10000 ^ (n - 1) = P at *
    refine Nat.le_of_lt_succ (Nat.div_lt_of_lt_mul ?_)
    refine Nat.div_lt_of_lt_mul ?_
    have h1 := Nat.lt_mul_div_succ y hP
    generalize y / P = T at *
    have h2 : P * (T + 1) * 10000 ≤ P * (T * 10001) := by
      rw [Nat.mul_assoc]
      exact Nat.mul_le_mul_left _ (by omega)
    have h3 : y < P * (T + 1) := h1
    generalize P * (T + 1) = Z at *
    generalize hW : P * (T * 10001) = W at *
    have h4 : N < W := by omega
    first | exact h4 | (rw [← hW] at h4; simpa [Nat.mul_comm, Nat.mul_left_comm, Nat.mul_assoc] using h4)
/-- One step of the division. -/
theorem quo_step {X a y Q R : Nat} (hX : X = y * Q + R) (hR : R < y) : (a + 10000 * X) / y = 10000 * Q + (a + 10000 * R) / y ∧ (a + 10000 * X) % y = (a + 10000 * R) % y := by
  have e : a + 10000 * X = (a + 10000 * R) + y * (10000 * Q) := by
    rw [hX, Nat.mul_add]
    have : 10000 * (y * Q) = y * (10000 * Q) := by ac_rfl
    omega
  rw [e, Nat.add_mul_div_left _ _ (by omega), Nat.add_mul_mod_self_left]
  exact ⟨Nat.add_comm _ _, rfl⟩
end Go.Proofs
set_option linter.unusedSimpArgs false
set_option maxRecDepth 100000
namespace Go.Proofs
open Go.Hx
theorem cmpI_le {a b : Int} (h : a ≤ b) : cmpI a b ≤ 0 := by
  unfold cmpI
  split
  · omega
  · split <;> omega
theorem cmpI_gt {a b : Int} (h : b < a) : ¬ cmpI a b ≤ 0 := by
  unfold cmpI
  split
  · omega
  · split <;> omega
set_option maxHeartbeats 4000000 in
theorem divide_spec (x y : Nat) (hy : y ≠ 0) (hx : (dig x).length ≤ 100) (hyl : (dig y).length ≤ 100) (H : AHeap) (K : ARes → AHeap → Prop) (hK : K (.ret (.tup [vecI (dig (x / y)), vecI (dig (x % y))])) H) : ACall Tryd.prog G0 70 [vecI (dig x), vecI (dig y)] H K := by
  refine ACall.argsBelow ⟨_, Tryd.func70, rfl, rfl⟩ fun hcl hbel => ?_
  obtain ⟨p, hp⟩ : ∃ p, p = dig x := ⟨_, rfl⟩
  obtain ⟨q, hq⟩ : ∃ q, q = dig y := ⟨_, rfl⟩
  have hqn : q.length ≠ 0 := by intro h; exact hy (dig_nil.1 (by rw [← hq]; exact List.eq_nil_of_length_eq_zero h))
  obtain ⟨n, hn⟩ : ∃ n, q.length = n + 1 := ⟨q.length - 1, by omega⟩
  have ylb := dig_lb y hy
  have yub := len_of_dig (n := y) (k := n + 1) (by rw [← hq, hn]; exact Nat.le_refl _)
  rw [← hq, hn, Nat.add_sub_cancel] at ylb
  have hx1 := hx
  have hy1 := hyl
  rw [← hp] at hx
  rw [← hq] at hyl
  have w1 := IntWalk.i64_in ((q.length : Int) - 1) (by omega)
  have en : (q.length : Int) - 1 = (n : Int) := by omega
  rw [en] at w1
  rw [← hp, ← hq] at hbel ⊢
  have rep0 : ∀ v : AVal, List.replicate 0 v = [] := fun _ => rfl
  refine ACall.of_body (n := 124) (rs := [.tmp 4, .tmp 5]) Tryd.func70 rfl rfl rfl (by decide) (by kernel_rfl) (by simp) ?_
  by_cases hs : (p.length : Int) ≤ (n : Int)
  · have hlt : x < y := dig_lt_len (by rw [← hp, ← hq]; omega)
    rw [Nat.div_eq_of_lt hlt, Nat.mod_eq_of_lt hlt, dig_zero, ← hp] at hK
    obtain ⟨v', H3, hA, hO, hn3, hpr⟩ := app_vecG (P := Tryd.prog) (H := ext H [.arr 0 3 []]) (t := 73) (lo := H.next) (n := H.next + 1) (v := .own H.next 0 0 0 1) (cs := []) (src := ints p) Tryd.underlying73 Tryd.cells3 Tryd.zero3 (all_one_ints p) (by rw [Tryd.bytes3, ints_length]; simp; omega) (.inr ⟨H.next, 0, Nat.le_refl _, by simp [ext_next], rfl, get_ext0 _ _ _⟩) (by simp [ext_next]) (by simp [ext_next])
    rw [ints_length] at hA
    have ov3 : Over H H3 := ⟨by simp only [ext_next] at hn3; omega, fun id hid => by
      rw [hpr id (by simp only [ext_next]; omega) fun g n he => by have := AVal.own.inj he; omega, ext1_get_old hid]⟩
    simp (config := { maxSteps := 1000000 }) only [go_sem, Int.reduceToNat, Int.reduceLE, Int.reduceLT, Int.reduceAdd, Int.reduceSub, Int.reduceMul, Int.reduceEq, Int.reduceNe, Nat.reduceEqDiff, Nat.reducePow, Nat.reduceDiv, Nat.reduceMod, Nat.reduceAdd, Nat.reduceMul, Nat.reduceSub, Nat.reduceLT, Nat.reduceLeDiff, reduceIte, reduceCtorEq, en, w1, hs, rep0, hA]
    refine FinV.dropO (v' := .tup [vecI [], vecI p]) G0_ok hcl ov3 (.tup rfl fun i hi _ => ?_) hK
    match i, hi with
    | 0, _ => exact .nil
    | 1, _ => exact hO.fzI fun i hi => hi
  · have w2 := IntWalk.i64_in ((p.length : Int) - (n : Int)) (by omega)
    obtain ⟨m, hm⟩ : ∃ m, p.length = n + m ∧ 1 ≤ m := ⟨p.length - n, by omega, by omega⟩
    have em : (p.length : Int) - (n : Int) = (m : Int) := by omega
    rw [em] at w2
    have w3 := IntWalk.i64_in ((m : Int) - 1) (by omega)
    have esub : p.length - m = n := by omega
    have ede : List.take n (List.drop m (ints p)) = ints (p.drop m) := by rw [ints_drop]; exact List.take_of_length_le (by rw [ints_length, List.length_drop]; omega)
    have mle : (m : Int) ≤ (p.length : Int) := by omega
    have dl : (p.drop m).length = n := by simp; omega
    have eR : List.replicate m (AVal.lit (.int .i64 0)) = ints (List.replicate m 0) := by simp [ints, lin]
    obtain ⟨v', H3, hA, hO, hn3, hpr⟩ := app_vecG (P := Tryd.prog) (H := ext H [.arr 0 3 (ints (List.replicate m 0)), .arr 0 3 []]) (t := 73) (lo := H.next + 1) (n := H.next + 2) (v := .own (H.next + 1) 0 0 0 1) (cs := []) (src := ints (p.drop m)) Tryd.underlying73 Tryd.cells3 Tryd.zero3 (all_one_ints _) (by rw [Tryd.bytes3, ints_length]; simp; omega) (.inr ⟨H.next + 1, 0, Nat.le_refl _, by simp [ext_next], rfl, get_ext H _ 1 (by simp)⟩) (by show H.next + 1 ≤ H.next + 2; omega) rfl
    rw [ints_length, dl] at hA
    simp only [ext_next, List.length_cons, List.length_nil] at hn3 hpr
    obtain ⟨Hq, hHq⟩ : ∃ Hq, Hq = ext H [.arr 0 3 (ints (List.replicate m 0))] := ⟨_, rfl⟩
    have nq : Hq.next = H.next + 1 := by rw [hHq]; rfl
    have clq : Clo Hq := by
      rw [hHq]
      refine clo_ext hcl fun b hb => ?_
      obtain rfl := List.mem_singleton.1 hb
      exact belowB_lits fun c hc => by obtain ⟨x, _, rfl⟩ := List.mem_map.1 hc; exact ⟨_, rfl⟩
    have gq : Hq.get H.next = some (.arr 0 3 (ints (List.replicate m 0))) := by rw [hHq]; exact get_ext0 _ _ _
    have ovq : Over H Hq := by rw [hHq]; exact Over.ext _ _
    have ov3 : Over Hq H3 := ⟨by omega, fun id hid => by
      rw [hpr id (by omega) fun g n he => by have := AVal.own.inj he; omega]
      by_cases h : id = H.next
      · subst h; rw [gq, get_ext0]
      · rw [get_ext_old _ _ _ (by omega), ovq.old _ (by omega)]⟩
    have n3 := ov3.next
    have hvF : Fz (fun id => Hq.next ≤ id) H3 H3.next v' (vecI (p.drop m)) := hO.fzI fun i hi => by omega
    have hbq : ∀ v, v ∈ [vecI p, vecI q] → Below Hq.next v := fun v hv => (hbel v hv).mono (by omega)
    have h37 : Fz (fun id => Hq.next ≤ id) H3 H3.next (.vec n (ints (p.drop m))) (.vec n (ints (p.drop m))) := by rw [← dl]; exact .keepInts _
    have gq3 := (ov3.old H.next (by omega)).trans gq
    have lq3 := get_live gq3
    simp (config := { maxSteps := 1000000 }) only [go_sem, Int.reduceToNat, Int.reduceLE, Int.reduceLT, Int.reduceAdd, Int.reduceSub, Int.reduceMul, Int.reduceEq, Int.reduceNe, Nat.reduceEqDiff, Nat.reducePow, Nat.reduceDiv, Nat.reduceMod, Nat.reduceAdd, Nat.reduceMul, Nat.reduceSub, Nat.reduceLT, Nat.reduceLeDiff, reduceIte, reduceCtorEq, en, w1, hs, em, w2, rep0, mle, esub, ede, eR, hA, w3, lq3]
    refine ⟨⟨by omega, by omega⟩, ?_⟩
    apply W.letGo (H := Hq) G0_ok clq ov3
    · repeat first | exact Fz.envOld hbq (by omega) | (apply Fz.put'; · first | exact .lit _ | assumption | exact .keepInts _ | exact .ptr (by omega) (by omega) | exact .own (by omega) (by omega) | exact .deadOwn (by omega) (by show Hq.next ≤ _; omega))
    · trivial
    obtain ⟨Hg, hHg⟩ : ∃ Hg, Hg = gap Hq (H3.next - Hq.next) := ⟨_, rfl⟩
    rw [← hHg]
    have hog : Over Hq Hg := by rw [hHg]; exact .gap _ _
    have ng := hog.next
    have hgg := (hog.old H.next (by omega)).trans gq
    have pdm : p.drop m = dig (x / 10000 ^ m) := by rw [hp]; exact dig_drop x m
    have xlt : x / 10000 ^ m < y := dig_lt_len (by rw [← pdm, dl, ← hq]; omega)
    refine W.env fun E hE => ?_
    have e0 : E 0 = vecI p := by rw [hE]; rfl
    have e1 : E 1 = vecI q := by rw [hE]; rfl
    have e6 : E 6 = lin n := by rw [hE]; rfl
    have e7 : E 7 = .own H.next 0 0 m 1 := by rw [hE]; rfl
    have e8 : E 8 = vecI (p.drop m) := by rw [hE]; rfl
    have e9 : E 9 = lin ((m : Int) - 1) := by rw [hE]; rfl
    clear hE
    refine W.loop0 2658455991569831745807609722514243328 (by rfl) (fun ρ H' => ∃ (j : Nat) (qs : List Int), ρ 9 = lin ((j : Int) - 1) ∧ j ≤ m ∧ Over H H' ∧ Hg.next ≤ H'.next ∧ H'.get H.next = some (.arr 0 3 (ints qs)) ∧ qs.length = m ∧ Dg qs ∧ val (qs.drop j) = x / 10000 ^ j / y ∧ ρ 8 = vecI (dig (x / 10000 ^ j % y))) (fun ρ H => (iv (ρ 9) + 1).toNat) ?_ ?_
    · simp (config := { maxSteps := 1000000 }) only [go_sem, Int.reduceToNat, Int.reduceLE, Int.reduceLT, Int.reduceAdd, Int.reduceSub, Int.reduceMul, Int.reduceEq, Int.reduceNe, Nat.reduceEqDiff, Nat.reducePow, Nat.reduceDiv, Nat.reduceMod, Nat.reduceAdd, Nat.reduceMul, Nat.reduceSub, Nat.reduceLT, Nat.reduceLeDiff, reduceIte, reduceCtorEq, e9, e8, appendA_U]
      refine ⟨m, List.replicate m 0, by simp, by omega, ovq.trans hog, hgg, by simp, fun c hc => by obtain ⟨_, rfl⟩ := List.mem_replicate.1 hc; omega, ?_, ?_⟩
      · rw [Nat.div_eq_of_lt xlt, List.drop_eq_nil_iff.2 (by simp)]; rfl
      · rw [Nat.mod_eq_of_lt xlt, ← pdm]
    rintro ρ H' ⟨j, qs, h9, hj, ov, hnx, hg, hql, hqd, hv, h8⟩
    refine vc_sound _ _ _ (by rfl) ?_
    have lq := get_live hg
    by_cases hz : j = 0
    · subst hz
      have z1 : ¬ (0 : Int) ≤ ((0 : Nat) : Int) - 1 := by omega
      simp only [Nat.pow_zero, Nat.div_one, List.drop_zero] at hv h8
      simp (config := { maxSteps := 1000000 }) only [go_sem, Int.reduceToNat, Int.reduceLE, Int.reduceLT, Int.reduceAdd, Int.reduceSub, Int.reduceMul, Int.reduceEq, Int.reduceNe, Nat.reduceEqDiff, Nat.reducePow, Nat.reduceDiv, Nat.reduceMod, Nat.reduceAdd, Nat.reduceMul, Nat.reduceSub, Nat.reduceLT, Nat.reduceLeDiff, reduceIte, reduceCtorEq, h9, z1, e7, appendA_U]
      have hO2 : OwnG H.next H' 3 (.own H.next 0 0 m 1) (ints qs) := .inr ⟨H.next, 0, Nat.le_refl _, by omega, by rw [ints_length, hql], hg⟩
      refine AApply.cutArgs H.next (args' := [vecI qs]) G0_ok rfl (fun j hj _ => match j, hj with | 0, _ => hO2.fzI fun i hi => hi) (cut_spec qs hqd (by omega) _ _ ⟨trivial, ?_⟩)
      rw [hv]
      simp (config := { maxSteps := 1000000 }) only [go_sem, Int.reduceToNat, Int.reduceLE, Int.reduceLT, Int.reduceAdd, Int.reduceSub, Int.reduceMul, Int.reduceEq, Int.reduceNe, Nat.reduceEqDiff, Nat.reducePow, Nat.reduceDiv, Nat.reduceMod, Nat.reduceAdd, Nat.reduceMul, Nat.reduceSub, Nat.reduceLT, Nat.reduceLeDiff, reduceIte, reduceCtorEq, h8, appendA_U]
      have ovc : Over H (H'.cut H.next) := ov.cutO (Nat.le_refl _)
      refine FinV.dropO (v' := .tup [vecI (dig (x / y)), vecI (dig (x % y))]) G0_ok hcl ovc (.tup rfl fun i hi _ => ?_) hK
      match i, hi with
      | 0, _ => exact .keepInts _
      | 1, _ => exact .keepInts _
    obtain ⟨i, rfl⟩ : ∃ i, j = i + 1 := ⟨j - 1, by omega⟩
    have ei : ((i + 1 : Nat) : Int) - 1 = (i : Int) := by omega
    rw [ei] at h9
    have z1 : (0 : Int) ≤ (i : Int) := by omega
    obtain ⟨R, hR⟩ : ∃ R, R = x / 10000 ^ (i + 1) % y := ⟨_, rfl⟩
    rw [← hR] at h8
    have hRy : R < y := by rw [hR]; exact Nat.mod_lt _ (by omega)
    have hil : i < p.length := by omega
    obtain ⟨a, ha⟩ : ∃ a, a = x / 10000 ^ i % 10000 := ⟨_, rfl⟩
    have hpi : p[i]? = some ((a : Nat) : Int) := by rw [ha, hp]; exact dig_nth (by rw [← hp]; exact hil)
    have pn : ¬ p = [] := by rintro rfl; simp at hil
    have bil : (i : Int) < p.length := by omega
    obtain ⟨N, hN⟩ : ∃ N, N = a + 10000 * R := ⟨_, rfl⟩
    have yup : y < 10000 ^ (n + 1) := yub
    have rlen : (dig R).length ≤ n + 1 := dig_len (by omega)
    have hNy : N < 10000 * y := by omega
    have hN2 : N < 10000 ^ (n + 2) := by
      have : 10000 ^ (n + 2) = 10000 * 10000 ^ (n + 1) := by rw [Nat.pow_succ, Nat.mul_comm]
      omega
    have nlen : (dig N).length ≤ n + 2 := dig_len hN2
    obtain ⟨v', H3, hA, hO, hn3, hpr⟩ := app_vecG (P := Tryd.prog) (H := ext H' [.arr 0 3 [.lit (.int .i64 (a : Int))]]) (t := 73) (lo := H'.next) (n := H'.next + 1) (v := .own H'.next 0 0 1 1) (cs := ints [(a : Int)]) (src := ints (dig R)) Tryd.underlying73 Tryd.cells3 Tryd.zero3 (all_one_ints _) (by rw [Tryd.bytes3, ints_length, ints_length, List.length_singleton]; omega) (.inr ⟨H'.next, 0, Nat.le_refl _, by simp [ext_next], rfl, get_ext0 _ _ _⟩) (by simp [ext_next]) (by simp [ext_next])
    rw [ints_length] at hA
    have ov3 : Over H' H3 := ⟨by simp only [ext_next] at hn3; omega, fun id hid => by
      rw [hpr id (by simp only [ext_next]; omega) fun g n he => by have := AVal.own.inj he; omega, ext1_get_old hid]⟩
    have hcd : Dg ((a : Int) :: dig R) := fun c hc => by
      rcases List.mem_cons.1 hc with rfl | hc
      · omega
      · exact dg_dig R c hc
    have hcv : val ((a : Int) :: dig R) = N := by rw [val, val_dig, hN]; simp
    simp (config := { maxSteps := 1000000 }) only [go_sem, Int.reduceToNat, Int.reduceLE, Int.reduceLT, Int.reduceAdd, Int.reduceSub, Int.reduceMul, Int.reduceEq, Int.reduceNe, Nat.reduceEqDiff, Nat.reducePow, Nat.reduceDiv, Nat.reduceMod, Nat.reduceAdd, Nat.reduceMul, Nat.reduceSub, Nat.reduceLT, Nat.reduceLeDiff, reduceIte, reduceCtorEq, h9, z1, h8, e0, hpi, pn, bil, hA]
    refine AApply.cutArgs H'.next (args' := [vecI ((a : Int) :: dig R)]) G0_ok rfl (fun j hj _ => match j, hj with | 0, _ => hO.fzI fun i hi => hi) (cut_spec _ hcd (by rw [List.length_cons]; omega) _ _ ⟨trivial, ?_⟩)
    rw [hcv]
    have ovc : Over H' (H3.cut H'.next) := ov3.cut
    obtain ⟨Hc, hHc⟩ : ∃ Hc, Hc = H3.cut H'.next := ⟨_, rfl⟩
    rw [← hHc] at ovc ⊢
    clear hHc
    have w4 := IntWalk.i64_in ((n : Int) + 1) (by omega)
    simp (config := { maxSteps := 1000000 }) only [go_sem, Int.reduceToNat, Int.reduceLE, Int.reduceLT, Int.reduceAdd, Int.reduceSub, Int.reduceMul, Int.reduceEq, Int.reduceNe, Nat.reduceEqDiff, Nat.reducePow, Nat.reduceDiv, Nat.reduceMod, Nat.reduceAdd, Nat.reduceMul, Nat.reduceSub, Nat.reduceLT, Nat.reduceLeDiff, reduceIte, reduceCtorEq, e6, w4, appendA_U]
    have gqc := (ovc.old H.next (by omega)).trans hg
    have nc := ovc.next
    refine W.env fun E2 hE2 => ?_
    have f0 : E2 0 = vecI p := by rw [hE2]; exact e0
    have f1 : E2 1 = vecI q := by rw [hE2]; exact e1
    have f6 : E2 6 = lin n := by rw [hE2]; exact e6
    have f7 : E2 7 = .own H.next 0 0 m 1 := by rw [hE2]; exact e7
    have f8 : E2 8 = vecI (dig N) := by rw [hE2]; rfl
    have f9 : E2 9 = lin (i : Int) := by rw [hE2]; exact h9
    have f10 : E2 10 = lin 0 := by rw [hE2]; rfl
    have f11 : E2 11 = lin 0 := by rw [hE2]; rfl
    have f12 : E2 12 = lin ((n : Int) + 1) := by rw [hE2]; rfl
    clear hE2
    have hqy : q = dig y := hq
    have emax : (if (n : Int) - 1 > 0 then (n : Int) - 1 else 0) = ((n - 1 : Nat) : Int) := by split <;> omega
    have w5 := IntWalk.i64_in ((n : Int) - 1) (by omega)
    have yk2 : y / 10000 ^ (n + 2) = 0 := Nat.div_eq_of_lt (by rw [Nat.pow_succ]; omega)
    have Nk2 : N / 10000 ^ (n + 2) = 0 := Nat.div_eq_of_lt hN2
    have cube : ∀ z k : Nat, z < 10000 ^ (n + 2) → n - 1 ≤ k → z / 10000 ^ k < 1000000000000 := fun z k hz hk => by
      refine Nat.div_lt_of_lt_mul (Nat.lt_of_lt_of_le hz ?_)
      rw [show (1000000000000 : Nat) = 10000 ^ 3 by decide, ← Nat.pow_add]
      exact Nat.pow_le_pow_right (by decide) (by omega)
    have hy2 : y < 10000 ^ (n + 2) := by rw [Nat.pow_succ]; omega
    refine W.loop0 38685626155610539552676864 (by rfl) (fun ρ' H2 => ∃ k F T : Nat, ρ' 12 = lin ((k : Int) - 1) ∧ n - 1 ≤ k ∧ k ≤ n + 2 ∧ H2 = Hc ∧ ρ' 11 = lin F ∧ ρ' 10 = lin T ∧ F = N / 10000 ^ k ∧ T = y / 10000 ^ k) (fun ρ' H => (iv (ρ' 12) + 1).toNat) ?_ ?_
    · simp (config := { maxSteps := 1000000 }) only [go_sem, Int.reduceToNat, Int.reduceLE, Int.reduceLT, Int.reduceAdd, Int.reduceSub, Int.reduceMul, Int.reduceEq, Int.reduceNe, Nat.reduceEqDiff, Nat.reducePow, Nat.reduceDiv, Nat.reduceMod, Nat.reduceAdd, Nat.reduceMul, Nat.reduceSub, Nat.reduceLT, Nat.reduceLeDiff, reduceIte, reduceCtorEq, f12, f11, f10, appendA_U]
      exact ⟨n + 2, 0, 0, by simp; omega, by omega, by omega, rfl, rfl, Nk2.symm, yk2.symm⟩
    rintro ρ' H2 ⟨k, F, T, g12, hk1, hk2, rfl, g11, g10, hF, hT⟩
    refine vc_sound _ _ _ (by rfl) ?_
    by_cases hke : k = n - 1
    · have z2 : ¬ ((n - 1 : Nat) : Int) ≤ ((n - 1 : Nat) : Int) - 1 := by omega
      rw [hke] at g12
      simp (config := { maxSteps := 1000000 }) only [go_sem, Int.reduceToNat, Int.reduceLE, Int.reduceLT, Int.reduceAdd, Int.reduceSub, Int.reduceMul, Int.reduceEq, Int.reduceNe, Nat.reduceEqDiff, Nat.reducePow, Nat.reduceDiv, Nat.reduceMod, Nat.reduceAdd, Nat.reduceMul, Nat.reduceSub, Nat.reduceLT, Nat.reduceLeDiff, reduceIte, reduceCtorEq, g12, f6, w5, emax, z2, appendA_U]
      rw [hke] at hF hT
      have hP : 0 < 10000 ^ (n - 1) := Nat.pow_pos (by decide)
      have hT0 : 0 < T := by
        rw [hT]
        refine Nat.div_pos ?_ hP
        exact Nat.le_trans (Nat.pow_le_pow_right (by decide) (by omega)) ylb
      have cF := cube N (n - 1) hN2 (by omega)
      have cT := cube y (n - 1) hy2 (by omega)
      have qhi : N / y ≤ F / T := by rw [hF, hT]; exact quo_hi hP (by rw [← hT]; exact hT0)
      have qlo : F / (T + 1) ≤ N / y := by rw [hF, hT]; exact quo_lo hP (by omega)
      have qcap : F / T ≤ 10000 := by rw [hF, hT]; exact quo_cap hNy ylb
      rw [← hF] at cF
      rw [← hT] at cT
      have w6 := IntWalk.i64_in ((T : Int) + 1) (by omega)
      obtain ⟨lo, hlo⟩ : ∃ lo, lo = F / (T + 1) := ⟨_, rfl⟩
      obtain ⟨hi, hhi⟩ : ∃ hi, hi = F / T := ⟨_, rfl⟩
      have t1 : ((F : Int)).tdiv ((T : Int) + 1) = (lo : Int) := by rw [Int.tdiv_eq_ediv_of_nonneg (by omega), hlo]; rfl
      have t2 : ((F : Int)).tdiv (T : Int) = (hi : Int) := by rw [Int.tdiv_eq_ediv_of_nonneg (by omega), hhi]; rfl
      rw [← hlo] at qlo
      rw [← hhi] at qhi qcap
      have w7 := IntWalk.i64_in (lo : Int) (by omega)
      have w8 := IntWalk.i64_in (hi : Int) (by omega)
      have n1 : ¬ (T : Int) + 1 = 0 := by omega
      have n2 : ¬ (T : Int) = 0 := by omega
      refine W.env fun E3 hE3 => ?_
      have k0 : E3 0 = vecI p := by rw [hE3]; exact f0
      have k1 : E3 1 = vecI q := by rw [hE3]; exact f1
      have k6 : E3 6 = lin n := by rw [hE3]; exact f6
      have k7 : E3 7 = .own H.next 0 0 m 1 := by rw [hE3]; exact f7
      have k8 : E3 8 = vecI (dig N) := by rw [hE3]; exact f8
      have k9 : E3 9 = lin (i : Int) := by rw [hE3]; exact f9
      have k10 : E3 10 = lin T := by rw [hE3]; exact g10
      have k11 : E3 11 = lin F := by rw [hE3]; exact g11
      clear hE3
      refine W.draw 8 [0, 0, 2, 7, 0, 0, 48, 15] Tryd.mixed (by kernel_rfl) (by kernel_rfl) ?_
      simp (config := { maxSteps := 1000000 }) only [go_sem, Int.reduceToNat, Int.reduceLE, Int.reduceLT, Int.reduceAdd, Int.reduceSub, Int.reduceMul, Int.reduceEq, Int.reduceNe, Nat.reduceEqDiff, Nat.reducePow, Nat.reduceDiv, Nat.reduceMod, Nat.reduceAdd, Nat.reduceMul, Nat.reduceSub, Nat.reduceLT, Nat.reduceLeDiff, reduceIte, reduceCtorEq, k11, k10, w6, t1, t2, w7, w8, n1, n2, appendA_U]
      have gq2 : H2.get H.next = some (.arr 0 3 (ints qs)) := gqc
      obtain ⟨Q, hQ⟩ : ∃ Q, Q = N / y := ⟨_, rfl⟩
      rw [← hQ] at qlo qhi
      have hyl2 : (dig y).length ≤ 100 := hy1
      refine W.env fun E4 hE4 => ?_
      have l1 : E4 1 = vecI q := by rw [hE4]; exact k1
      have l7 : E4 7 = .own H.next 0 0 m 1 := by rw [hE4]; exact k7
      have l8 : E4 8 = vecI (dig N) := by rw [hE4]; exact k8
      have l9 : E4 9 = lin (i : Int) := by rw [hE4]; exact k9
      have l13 : E4 13 = lin (lo : Int) := by rw [hE4]; rfl
      have l14 : E4 14 = lin (hi : Int) := by rw [hE4]; rfl
      clear hE4
      have Nl : ((dig N).length : Int) < 2 ^ 40 := by omega
      refine W.loop0 1298069262873549765611524485865472 (by rfl) (fun ρ2 H3 => ∃ L U : Nat, ρ2 13 = lin L ∧ ρ2 14 = lin U ∧ L ≤ Q ∧ Q ≤ U ∧ U ≤ 10000 ∧ Over H2 H3) (fun ρ2 H => (iv (ρ2 14) - iv (ρ2 13)).toNat) ?_ ?_
      · simp (config := { maxSteps := 1000000 }) only [go_sem, Int.reduceToNat, Int.reduceLE, Int.reduceLT, Int.reduceAdd, Int.reduceSub, Int.reduceMul, Int.reduceEq, Int.reduceNe, Nat.reduceEqDiff, Nat.reducePow, Nat.reduceDiv, Nat.reduceMod, Nat.reduceAdd, Nat.reduceMul, Nat.reduceSub, Nat.reduceLT, Nat.reduceLeDiff, reduceIte, reduceCtorEq, l13, l14, appendA_U]
        exact ⟨lo, hi, rfl, rfl, qlo, qhi, qcap, .refl _⟩
      rintro ρ2 H4 ⟨L, U, m13, m14, hL, hU, hU2, ov4⟩
      refine vc_sound _ _ _ (by rfl) ?_
      have n4 := ov4.next
      by_cases hLU : (L : Int) < (U : Int)
      · obtain ⟨M, hM⟩ : ∃ M, M = (L + U + 1) / 2 := ⟨_, rfl⟩
        have eLU : (L : Int) + (U : Int) = ((L + U : Nat) : Int) := by omega
        have eLU1 : ((L + U : Nat) : Int) + 1 = ((L + U + 1 : Nat) : Int) := by omega
        have v1 := IntWalk.i64_in ((L + U : Nat) : Int) (by omega)
        have v2 := IntWalk.i64_in ((L + U + 1 : Nat) : Int) (by omega)
        have v3 : (((L + U + 1 : Nat) : Int)).tdiv 2 = (M : Int) := by rw [Int.tdiv_eq_ediv_of_nonneg (by omega), hM]; rfl
        have v4 := IntWalk.i64_in (M : Int) (by omega)
        have v5 := IntWalk.i64_in ((M : Int) - 1) (by omega)
        simp (config := { maxSteps := 1000000 }) only [go_sem, Int.reduceToNat, Int.reduceLE, Int.reduceLT, Int.reduceAdd, Int.reduceSub, Int.reduceMul, Int.reduceEq, Int.reduceNe, Nat.reduceEqDiff, Nat.reducePow, Nat.reduceDiv, Nat.reduceMod, Nat.reduceAdd, Nat.reduceMul, Nat.reduceSub, Nat.reduceLT, Nat.reduceLeDiff, reduceIte, reduceCtorEq, m13, m14, hLU, eLU, eLU1, v1, v2, v3, v4, l1, appendA_U]
        have hO4 : OwnG H4.next (ext H4 [.arr 0 3 [.lit (.int .i64 (M : Int))]]) 3 (.own H4.next 0 0 1 1) (ints [(M : Int)]) := .inr ⟨H4.next, 0, Nat.le_refl _, by simp [ext_next], rfl, get_ext0 _ _ _⟩
        rw [hqy]
        refine AApply.cutArgs H4.next (args' := [vecI (dig y), vecI [(M : Int)]]) G0_ok rfl (fun j hj _ => match j, hj with | 0, _ => .keepInts _ | 1, _ => hO4.fzI fun i hi => hi) (dtimes_one y M (by omega) (by omega) _ _ ⟨trivial, ?_⟩)
        have ylen : (dig (y * M)).length ≤ n + 2 := dig_len (by
          have h1 : y * M ≤ y * 10000 := Nat.mul_le_mul_left _ (by omega)
          rw [Nat.pow_succ]; omega)
        have ov5 : Over H2 ((ext H4 [.arr 0 3 [.lit (.int .i64 (M : Int))]]).cut H4.next) := ov4.trans ((Over.ext _ _).cut)
        simp (config := { maxSteps := 1000000 }) only [go_sem, Int.reduceToNat, Int.reduceLE, Int.reduceLT, Int.reduceAdd, Int.reduceSub, Int.reduceMul, Int.reduceEq, Int.reduceNe, Nat.reduceEqDiff, Nat.reducePow, Nat.reduceDiv, Nat.reduceMod, Nat.reduceAdd, Nat.reduceMul, Nat.reduceSub, Nat.reduceLT, Nat.reduceLeDiff, reduceIte, reduceCtorEq, l8, appendA_U]
        refine AApply.clo (compare_spec (y * M) N (by omega) _ _ ⟨trivial, ?_⟩)
        by_cases hc : y * M ≤ N
        · have hc1 : cmpI ((y * M : Nat) : Int) (N : Int) ≤ 0 := cmpI_le (by omega)
          have hMQ : M ≤ Q := by rw [hQ, Nat.le_div_iff_mul_le (by omega), Nat.mul_comm]; exact hc
          simp (config := { maxSteps := 1000000 }) only [go_sem, Int.reduceToNat, Int.reduceLE, Int.reduceLT, Int.reduceAdd, Int.reduceSub, Int.reduceMul, Int.reduceEq, Int.reduceNe, Nat.reduceEqDiff, Nat.reducePow, Nat.reduceDiv, Nat.reduceMod, Nat.reduceAdd, Nat.reduceMul, Nat.reduceSub, Nat.reduceLT, Nat.reduceLeDiff, reduceIte, reduceCtorEq, hc1, appendA_U]
          exact ⟨ov5.next, ⟨M, U, rfl, m14, hMQ, hU, hU2, ov5⟩, by rw [m14]; simp only [lin, iv]; omega⟩
        · have hc1 : ¬ cmpI ((y * M : Nat) : Int) (N : Int) ≤ 0 := cmpI_gt (by omega)
          have hMQ : Q < M := by rw [hQ, Nat.div_lt_iff_lt_mul (by omega), Nat.mul_comm]; omega
          simp (config := { maxSteps := 1000000 }) only [go_sem, Int.reduceToNat, Int.reduceLE, Int.reduceLT, Int.reduceAdd, Int.reduceSub, Int.reduceMul, Int.reduceEq, Int.reduceNe, Nat.reduceEqDiff, Nat.reducePow, Nat.reduceDiv, Nat.reduceMod, Nat.reduceAdd, Nat.reduceMul, Nat.reduceSub, Nat.reduceLT, Nat.reduceLeDiff, reduceIte, reduceCtorEq, hc1, v5, appendA_U]
          exact ⟨ov5.next, ⟨L, M - 1, m13, by simp; omega, hL, by omega, by omega, ov5⟩, by rw [m13]; simp only [lin, iv]; omega⟩
      · have LQ : L = Q := by omega
        subst LQ
        have g4 := (ov4.old H.next (by omega)).trans gq2
        have lq4 := get_live g4
        have him : i < m := by omega
        have zi : (i : Int) < (m : Int) := by omega
        have Q9 : L < 10000 := by rw [hQ]; exact Nat.div_lt_of_lt_mul (by omega)
        simp (config := { maxSteps := 1000000 }) only [go_sem, Int.reduceToNat, Int.reduceLE, Int.reduceLT, Int.reduceAdd, Int.reduceSub, Int.reduceMul, Int.reduceEq, Int.reduceNe, Nat.reduceEqDiff, Nat.reducePow, Nat.reduceDiv, Nat.reduceMod, Nat.reduceAdd, Nat.reduceMul, Nat.reduceSub, Nat.reduceLT, Nat.reduceLeDiff, reduceIte, reduceCtorEq, m13, m14, hLU, l7, l9, zi, lq4, appendA_U]
        rw [setAt_ints _ (by omega)]
        obtain ⟨H5, hH5⟩ : ∃ H5, H5 = H4.upd H.next (.arr 0 3 (ints (qs.set i (L : Int)))) := ⟨_, rfl⟩
        rw [← hH5]
        have g5 : H5.get H.next = some (.arr 0 3 (ints (qs.set i (L : Int)))) := by rw [hH5, upd_get, if_pos rfl]
        have n5 : H5.next = H4.next := by rw [hH5]; rfl
        have ov5 : Over H H5 := ⟨by have := ov.next; omega, fun id hid => by
          rw [hH5, upd_get, if_neg (by omega), ov4.old _ (by omega), ovc.old _ (by omega), ov.old _ hid]⟩
        clear hH5
        refine ⟨by omega, ?_⟩
        have dgL : Dg [(L : Int)] := fun c hc => by obtain rfl := List.mem_singleton.1 hc; omega
        have vL : val [(L : Int)] = L := by simp [val]
        have hO5 : OwnG H5.next (ext H5 [.arr 0 3 [.lit (.int .i64 (L : Int))]]) 3 (.own H5.next 0 0 1 1) (ints [(L : Int)]) := .inr ⟨H5.next, 0, Nat.le_refl _, by simp [ext_next], rfl, get_ext0 _ _ _⟩
        refine AApply.cutArgs H5.next (args' := [vecI [(L : Int)]]) G0_ok rfl (fun j hj _ => match j, hj with | 0, _ => hO5.fzI fun i hi => hi) (cut_spec _ dgL (by simp) _ _ ⟨trivial, ?_⟩)
        rw [vL]
        have ov6 : Over H5 ((ext H5 [.arr 0 3 [.lit (.int .i64 (L : Int))]]).cut H5.next) := (Over.ext _ _).cut
        obtain ⟨H6, hH6⟩ : ∃ H6, H6 = (ext H5 [.arr 0 3 [.lit (.int .i64 (L : Int))]]).cut H5.next := ⟨_, rfl⟩
        rw [← hH6] at ov6 ⊢
        clear hH6
        have n6 := ov6.next
        have lenL : (dig L).length ≤ 1 := dig_len (by omega)
        have hmul : y * L ≤ N := by rw [hQ]; exact Nat.mul_div_le N y
        simp (config := { maxSteps := 1000000 }) only [go_sem, Int.reduceToNat, Int.reduceLE, Int.reduceLT, Int.reduceAdd, Int.reduceSub, Int.reduceMul, Int.reduceEq, Int.reduceNe, Nat.reduceEqDiff, Nat.reducePow, Nat.reduceDiv, Nat.reduceMod, Nat.reduceAdd, Nat.reduceMul, Nat.reduceSub, Nat.reduceLT, Nat.reduceLeDiff, reduceIte, reduceCtorEq, l1, l8, appendA_U]
        rw [hqy]
        refine AApply.clo (dtimes_dig y L (by omega) (by omega) _ _ ⟨trivial, ?_⟩)
        simp (config := { maxSteps := 1000000 }) only [go_sem, Int.reduceToNat, Int.reduceLE, Int.reduceLT, Int.reduceAdd, Int.reduceSub, Int.reduceMul, Int.reduceEq, Int.reduceNe, Nat.reduceEqDiff, Nat.reducePow, Nat.reduceDiv, Nat.reduceMod, Nat.reduceAdd, Nat.reduceMul, Nat.reduceSub, Nat.reduceLT, Nat.reduceLeDiff, reduceIte, reduceCtorEq, appendA_U]
        refine AApply.clo (minus_spec N (y * L) hmul (by omega) _ _ ⟨trivial, ?_⟩)
        have wi := IntWalk.i64_in ((i : Int) - 1) (by omega)
        simp (config := { maxSteps := 1000000 }) only [go_sem, Int.reduceToNat, Int.reduceLE, Int.reduceLT, Int.reduceAdd, Int.reduceSub, Int.reduceMul, Int.reduceEq, Int.reduceNe, Nat.reduceEqDiff, Nat.reducePow, Nat.reduceDiv, Nat.reduceMod, Nat.reduceAdd, Nat.reduceMul, Nat.reduceSub, Nat.reduceLT, Nat.reduceLeDiff, reduceIte, reduceCtorEq, l9, wi, appendA_U]
        have eX := Nat.div_add_mod (x / 10000 ^ (i + 1)) y
        have eS : x / 10000 ^ i = a + 10000 * (x / 10000 ^ (i + 1)) := by
          rw [Nat.pow_succ, ← Nat.div_div_eq_div_mul, ha]; omega
        have qs2 := quo_step (X := x / 10000 ^ (i + 1)) (a := a) (y := y) (Q := x / 10000 ^ (i + 1) / y) (R := R) (by rw [hR]; exact eX.symm) hRy
        rw [← eS, ← hN] at qs2
        have eRN : N - y * L = x / 10000 ^ i % y := by rw [qs2.2, hQ]; have := Nat.div_add_mod N y; omega
        rw [eRN]
        refine ⟨by omega, ⟨i, qs.set i (L : Int), rfl, by omega, ov5.trans ov6, by omega, (ov6.old _ (by omega)).trans g5, by simp [hql], fun c hc => ?_, ?_, rfl⟩, by omega⟩
        · rcases List.mem_or_eq_of_mem_set hc with h | h
          · exact hqd c h
          · omega
        · rw [List.drop_eq_getElem_cons (by simp; omega), val, List.getElem_set_self, Int.toNat_natCast, List.drop_set_of_lt (by omega), hv, qs2.1, hQ]
          omega
    obtain ⟨j, rfl⟩ : ∃ j, k = j + 1 := ⟨k - 1, by omega⟩
    have ej : ((j + 1 : Nat) : Int) - 1 = (j : Int) := by omega
    rw [ej] at g12
    have z2 : ((n - 1 : Nat) : Int) ≤ (j : Int) := by omega
    have cF := cube N j hN2 (by omega)
    have cT := cube y j hy2 (by omega)
    rw [Nat.pow_succ, ← Nat.div_div_eq_div_mul] at hF hT
    have nF : N / 10000 ^ j = 0 ∨ j < (dig N).length := by
      by_cases h : j < (dig N).length
      · exact .inr h
      · exact .inl (dig_out h)
    have nT : y / 10000 ^ j = 0 ∨ j ≤ n := by
      by_cases h : j ≤ n
      · exact .inr h
      · exact .inl (dig_out (by rw [← hqy, hn]; omega))
    have dF : j < (dig N).length → (dig N)[j]? = some ((N / 10000 ^ j % 10000 : Nat) : Int) := fun h => dig_nth h
    have dT : j ≤ n → q[j]? = some ((y / 10000 ^ j % 10000 : Nat) : Int) := fun h => by rw [hqy]; exact dig_nth (by rw [← hqy, hn]; omega)
    obtain ⟨F', hF'⟩ : ∃ F', F' = N / 10000 ^ j := ⟨_, rfl⟩
    obtain ⟨T', hT'⟩ : ∃ T', T' = y / 10000 ^ j := ⟨_, rfl⟩
    rw [← hF'] at cF hF nF dF
    rw [← hT'] at cT hT nT dT
    obtain ⟨cf, hcf⟩ : ∃ cf, cf = F' % 10000 := ⟨_, rfl⟩
    obtain ⟨ct, hct⟩ : ∃ ct, ct = T' % 10000 := ⟨_, rfl⟩
    rw [← hcf] at dF
    rw [← hct] at dT
    have w6 := IntWalk.i64_in ((F : Int) * 10000) (by omega)
    have w7 := IntWalk.i64_in ((F : Int) * 10000 + (cf : Int)) (by omega)
    have w8 := IntWalk.i64_in ((T : Int) * 10000) (by omega)
    have w9 := IntWalk.i64_in ((T : Int) * 10000 + (ct : Int)) (by omega)
    have wj := IntWalk.i64_in ((j : Int) - 1) (by omega)
    by_cases hjl : j < (dig N).length
    · have dF1 := dF hjl
      have Nn : ¬ dig N = [] := by intro h; rw [h] at hjl; simp at hjl
      have z3 : (j : Int) < (dig N).length := by omega
      by_cases hjn : j ≤ n
      · have dT1 := dT hjn
        have qn : ¬ q = [] := by intro h; rw [h] at hn; simp at hn
        have z4 : (j : Int) ≤ (n : Int) := by omega
        have z5 : (j : Int) < q.length := by omega
        simp (config := { maxSteps := 1000000 }) only [go_sem, Int.reduceToNat, Int.reduceLE, Int.reduceLT, Int.reduceAdd, Int.reduceSub, Int.reduceMul, Int.reduceEq, Int.reduceNe, Nat.reduceEqDiff, Nat.reducePow, Nat.reduceDiv, Nat.reduceMod, Nat.reduceAdd, Nat.reduceMul, Nat.reduceSub, Nat.reduceLT, Nat.reduceLeDiff, reduceIte, reduceCtorEq, g12, f6, w5, emax, z2, g11, w6, f8, z3, Nn, dF1, w7, z4, z5, f1, dT1, qn, g10, w8, w9, wj, appendA_U]
        exact ⟨⟨j, F', T', rfl, by omega, by omega, by simp; omega, by simp; omega, hF', hT'⟩, by omega⟩
      · have z4 : ¬ (j : Int) ≤ (n : Int) := by omega
        simp (config := { maxSteps := 1000000 }) only [go_sem, Int.reduceToNat, Int.reduceLE, Int.reduceLT, Int.reduceAdd, Int.reduceSub, Int.reduceMul, Int.reduceEq, Int.reduceNe, Nat.reduceEqDiff, Nat.reducePow, Nat.reduceDiv, Nat.reduceMod, Nat.reduceAdd, Nat.reduceMul, Nat.reduceSub, Nat.reduceLT, Nat.reduceLeDiff, reduceIte, reduceCtorEq, g12, f6, w5, emax, z2, g11, w6, f8, z3, Nn, dF1, w7, z4, wj, appendA_U]
        exact ⟨⟨j, F', T', rfl, by omega, by omega, by simp; omega, by rw [g10, lin]; simp; omega, hF', hT'⟩, by omega⟩
    · have z3 : ¬ (j : Int) < (dig N).length := by omega
      by_cases hjn : j ≤ n
      · have dT1 := dT hjn
        have qn : ¬ q = [] := by intro h; rw [h] at hn; simp at hn
        have z4 : (j : Int) ≤ (n : Int) := by omega
        have z5 : (j : Int) < q.length := by omega
        simp (config := { maxSteps := 1000000 }) only [go_sem, Int.reduceToNat, Int.reduceLE, Int.reduceLT, Int.reduceAdd, Int.reduceSub, Int.reduceMul, Int.reduceEq, Int.reduceNe, Nat.reduceEqDiff, Nat.reducePow, Nat.reduceDiv, Nat.reduceMod, Nat.reduceAdd, Nat.reduceMul, Nat.reduceSub, Nat.reduceLT, Nat.reduceLeDiff, reduceIte, reduceCtorEq, g12, f6, w5, emax, z2, g11, w6, f8, z3, z4, z5, f1, dT1, qn, g10, w8, w9, wj, appendA_U]
        exact ⟨⟨j, F', T', rfl, by omega, by omega, by simp; omega, by simp; omega, hF', hT'⟩, by omega⟩
      · have z4 : ¬ (j : Int) ≤ (n : Int) := by omega
        simp (config := { maxSteps := 1000000 }) only [go_sem, Int.reduceToNat, Int.reduceLE, Int.reduceLT, Int.reduceAdd, Int.reduceSub, Int.reduceMul, Int.reduceEq, Int.reduceNe, Nat.reduceEqDiff, Nat.reducePow, Nat.reduceDiv, Nat.reduceMod, Nat.reduceAdd, Nat.reduceMul, Nat.reduceSub, Nat.reduceLT, Nat.reduceLeDiff, reduceIte, reduceCtorEq, g12, f6, w5, emax, z2, g11, w6, f8, z3, z4, wj, appendA_U]
        exact ⟨⟨j, F', T', rfl, by omega, by omega, by simp; omega, by rw [g10, lin]; simp; omega, hF', hT'⟩, by omega⟩
end Go.Proofs
set_option linter.unusedSimpArgs false
set_option maxRecDepth 100000
namespace Go.Proofs
open Go.Hx
def vn : AVal → Nat
  | .vec _ l => val (l.map iv)
  | _ => 0
theorem vn_dig (n : Nat) : vn (vecI (dig n)) = n := by
  have : (ints (dig n)).map iv = dig n := by simp [ints, lin, iv, Function.comp_def]
  show val ((ints (dig n)).map iv) = n
  rw [this, val_dig]
theorem rgcd_spec (x y : Nat) (hx : (dig x).length ≤ 100) (hy : (dig y).length ≤ 100) (H : AHeap) (K : ARes → AHeap → Prop) (hK : K (.ret (vecI (dig (Nat.gcd x y)))) H) : ACall Tryd.prog G0 45 [vecI (dig x), vecI (dig y)] H K := by
  refine ACall.clo ⟨_, Tryd.func45, rfl, rfl⟩ fun hcl => ?_
  refine ACall.of_body (n := 19) (rs := [.tmp 4]) Tryd.func45 rfl rfl rfl (by decide) (by kernel_rfl) (by simp) ?_
  simp (config := { maxSteps := 1000000 }) only [go_sem, Int.reduceToNat, Int.reduceLE, Int.reduceLT, Int.reduceAdd, Int.reduceSub, Int.reduceMul, Int.reduceEq, Int.reduceNe, Nat.reduceEqDiff, Nat.reducePow, Nat.reduceDiv, Nat.reduceMod, Nat.reduceAdd, Nat.reduceMul, Nat.reduceSub, Nat.reduceLT, Nat.reduceLeDiff, reduceIte, reduceCtorEq, appendA_U]
  refine W.loop0 262115 (by rfl) (fun ρ H' => ∃ X Y : Nat, ρ 0 = vecI (dig X) ∧ ρ 1 = vecI (dig Y) ∧ (dig X).length ≤ 100 ∧ (dig Y).length ≤ 100 ∧ H' = H ∧ Nat.gcd X Y = Nat.gcd x y) (fun ρ H => vn (ρ 1)) ?_ ?_
  · simp (config := { maxSteps := 1000000 }) only [go_sem, Int.reduceToNat, Int.reduceLE, Int.reduceLT, Int.reduceAdd, Int.reduceSub, Int.reduceMul, Int.reduceEq, Int.reduceNe, Nat.reduceEqDiff, Nat.reducePow, Nat.reduceDiv, Nat.reduceMod, Nat.reduceAdd, Nat.reduceMul, Nat.reduceSub, Nat.reduceLT, Nat.reduceLeDiff, reduceIte, reduceCtorEq, appendA_U]
    exact ⟨x, y, rfl, rfl, hx, hy, rfl⟩
  rintro ρ H' ⟨X, Y, h0, h1, hX, hY, rfl, hg⟩
  refine vc_sound _ _ _ (by rfl) ?_
  by_cases hz : Y = 0
  · subst hz
    have z1 : ¬ (0 : Int) < (dig 0).length := by rw [dig_zero]; simp
    rw [Nat.gcd_zero_right] at hg
    simp (config := { maxSteps := 1000000 }) only [go_sem, Int.reduceToNat, Int.reduceLE, Int.reduceLT, Int.reduceAdd, Int.reduceSub, Int.reduceMul, Int.reduceEq, Int.reduceNe, Nat.reduceEqDiff, Nat.reducePow, Nat.reduceDiv, Nat.reduceMod, Nat.reduceAdd, Nat.reduceMul, Nat.reduceSub, Nat.reduceLT, Nat.reduceLeDiff, reduceIte, reduceCtorEq, h0, h1, z1, appendA_U]
    rw [← hg] at hK
    exact FinV.dropO G0_ok hcl (.refl _) (.keepInts _) hK
  have z1 : (0 : Int) < (dig Y).length := by
    have : (dig Y).length ≠ 0 := fun h => hz (dig_nil.1 (List.eq_nil_of_length_eq_zero h))
    omega
  simp (config := { maxSteps := 1000000 }) only [go_sem, Int.reduceToNat, Int.reduceLE, Int.reduceLT, Int.reduceAdd, Int.reduceSub, Int.reduceMul, Int.reduceEq, Int.reduceNe, Nat.reduceEqDiff, Nat.reducePow, Nat.reduceDiv, Nat.reduceMod, Nat.reduceAdd, Nat.reduceMul, Nat.reduceSub, Nat.reduceLT, Nat.reduceLeDiff, reduceIte, reduceCtorEq, h0, h1, z1, appendA_U]
  refine AApply.clo (divide_spec X Y hz hX hY _ _ ⟨trivial, ?_⟩)
  have hlt : X % Y < Y := Nat.mod_lt _ (by omega)
  have hl : (dig (X % Y)).length ≤ 100 := by
    rcases Nat.lt_or_ge (dig Y).length (dig (X % Y)).length with h | h
    · exact absurd (dig_lt_len h) (by omega)
    · omega
  simp (config := { maxSteps := 1000000 }) only [go_sem, Int.reduceToNat, Int.reduceLE, Int.reduceLT, Int.reduceAdd, Int.reduceSub, Int.reduceMul, Int.reduceEq, Int.reduceNe, Nat.reduceEqDiff, Nat.reducePow, Nat.reduceDiv, Nat.reduceMod, Nat.reduceAdd, Nat.reduceMul, Nat.reduceSub, Nat.reduceLT, Nat.reduceLeDiff, reduceIte, reduceCtorEq, h1, appendA_U]
  refine ⟨⟨Y, X % Y, rfl, rfl, hY, hl, ?_⟩, ?_⟩
  · rw [← hg, Nat.gcd_comm Y, ← Nat.gcd_rec, Nat.gcd_comm]
  · have e1 := vn_dig (X % Y)
    have e2 := vn_dig Y
    rw [show AVal.vec (dig (X % Y)).length (ints (dig (X % Y))) = vecI (dig (X % Y)) from rfl, show AVal.vec (dig Y).length (ints (dig Y)) = vecI (dig Y) from rfl, e1, e2]
    exact hlt
theorem fz_tb {S : Nat → Prop} {H : AHeap} {nx : Nat} {n : Int} {b : Bool} : Fz S H nx (.tup [.lit (.int .i64 n), .lit (.bool b)]) (.tup [lin n, .lit (.bool b)]) := .tup rfl fun i hi _ => match i, hi with
  | 0, _ => .lit _
  | 1, _ => .lit _
def valR (n : Nat) : AVal := if n ≤ 4611686018427387903 then .tup [lin n, .lit (.bool true)] else .tup [lin 0, .lit (.bool false)]
theorem value_spec (n : Nat) (hn : (dig n).length ≤ 100) (H : AHeap) (K : ARes → AHeap → Prop) (hK : K (.ret (valR n)) H) : ACall Tryd.prog G0 72 [vecI (dig n)] H K := by
  refine ACall.clo ⟨_, Tryd.func72, rfl, rfl⟩ fun hcl => ?_
  obtain ⟨p, hp⟩ : ∃ p, p = dig n := ⟨_, rfl⟩
  refine ACall.of_body (n := 25) (rs := [.tmp 2, .tmp 3]) Tryd.func72 rfl rfl rfl (by decide) (by kernel_rfl) (by simp) ?_
  simp (config := { maxSteps := 1000000 }) only [go_sem, Int.reduceToNat, Int.reduceLE, Int.reduceLT, Int.reduceAdd, Int.reduceSub, Int.reduceMul, Int.reduceEq, Int.reduceNe, Nat.reduceEqDiff, Nat.reducePow, Nat.reduceDiv, Nat.reduceMod, Nat.reduceAdd, Nat.reduceMul, Nat.reduceSub, Nat.reduceLT, Nat.reduceLeDiff, reduceIte, reduceCtorEq, appendA_U]
  refine AApply.clo (digits_spec 4611686018427387903 (by omega) _ _ ⟨trivial, ?_⟩)
  simp (config := { maxSteps := 1000000 }) only [go_sem, Int.reduceToNat, Int.reduceLE, Int.reduceLT, Int.reduceAdd, Int.reduceSub, Int.reduceMul, Int.reduceEq, Int.reduceNe, Nat.reduceEqDiff, Nat.reducePow, Nat.reduceDiv, Nat.reduceMod, Nat.reduceAdd, Nat.reduceMul, Nat.reduceSub, Nat.reduceLT, Nat.reduceLeDiff, reduceIte, reduceCtorEq, appendA_U]
  refine AApply.clo (compare_spec n 4611686018427387903 (by omega) _ _ ⟨trivial, ?_⟩)
  unfold valR at hK
  by_cases hb : n ≤ 4611686018427387903
  rotate_left
  · have c1 : 0 < cmpI (n : Int) 4611686018427387903 := by have := cmpI_gt (a := (n : Int)) (b := 4611686018427387903) (by omega); omega
    rw [if_neg hb] at hK
    simp (config := { maxSteps := 1000000 }) only [go_sem, Int.reduceToNat, Int.reduceLE, Int.reduceLT, Int.reduceAdd, Int.reduceSub, Int.reduceMul, Int.reduceEq, Int.reduceNe, Nat.reduceEqDiff, Nat.reducePow, Nat.reduceDiv, Nat.reduceMod, Nat.reduceAdd, Nat.reduceMul, Nat.reduceSub, Nat.reduceLT, Nat.reduceLeDiff, reduceIte, reduceCtorEq, c1, appendA_U]
    exact FinV.dropO G0_ok hcl (.refl _) fz_tb hK
  have c1 : ¬ 0 < cmpI (n : Int) 4611686018427387903 := by have := cmpI_le (a := (n : Int)) (b := 4611686018427387903) (by omega); omega
  rw [if_pos hb] at hK
  have w1 := IntWalk.i64_in (((dig n).length : Int) - 1) (by omega)
  simp (config := { maxSteps := 1000000 }) only [go_sem, Int.reduceToNat, Int.reduceLE, Int.reduceLT, Int.reduceAdd, Int.reduceSub, Int.reduceMul, Int.reduceEq, Int.reduceNe, Nat.reduceEqDiff, Nat.reducePow, Nat.reduceDiv, Nat.reduceMod, Nat.reduceAdd, Nat.reduceMul, Nat.reduceSub, Nat.reduceLT, Nat.reduceLeDiff, reduceIte, reduceCtorEq, c1, w1, appendA_U]
  refine W.loop0 16769072 (by rfl) (fun ρ H' => ∃ k X : Nat, ρ 5 = lin ((k : Int) - 1) ∧ ρ 4 = lin X ∧ X = n / 10000 ^ k ∧ k ≤ (dig n).length ∧ H' = H) (fun ρ H => (iv (ρ 5) + 1).toNat) ?_ ?_
  · simp (config := { maxSteps := 1000000 }) only [go_sem, Int.reduceToNat, Int.reduceLE, Int.reduceLT, Int.reduceAdd, Int.reduceSub, Int.reduceMul, Int.reduceEq, Int.reduceNe, Nat.reduceEqDiff, Nat.reducePow, Nat.reduceDiv, Nat.reduceMod, Nat.reduceAdd, Nat.reduceMul, Nat.reduceSub, Nat.reduceLT, Nat.reduceLeDiff, reduceIte, reduceCtorEq, appendA_U]
    refine ⟨(dig n).length, 0, rfl, rfl, ?_, by omega⟩
    exact (Nat.div_eq_of_lt (by have := val_lt (dg_dig n); rwa [val_dig] at this)).symm
  rintro ρ H' ⟨k, X, h5, h4, hX, hk, rfl⟩
  refine vc_sound _ _ _ (by rfl) ?_
  by_cases hz : k = 0
  · subst hz
    have z1 : ¬ (0 : Int) ≤ ((0 : Nat) : Int) - 1 := by omega
    simp only [Nat.pow_zero, Nat.div_one] at hX
    subst hX
    simp (config := { maxSteps := 1000000 }) only [go_sem, Int.reduceToNat, Int.reduceLE, Int.reduceLT, Int.reduceAdd, Int.reduceSub, Int.reduceMul, Int.reduceEq, Int.reduceNe, Nat.reduceEqDiff, Nat.reducePow, Nat.reduceDiv, Nat.reduceMod, Nat.reduceAdd, Nat.reduceMul, Nat.reduceSub, Nat.reduceLT, Nat.reduceLeDiff, reduceIte, reduceCtorEq, h5, h4, z1, appendA_U]
    exact FinV.dropO G0_ok hcl (.refl _) fz_tb hK
  obtain ⟨j, rfl⟩ : ∃ j, k = j + 1 := ⟨k - 1, by omega⟩
  have ej : ((j + 1 : Nat) : Int) - 1 = (j : Int) := by omega
  rw [ej] at h5
  have z1 : (0 : Int) ≤ (j : Int) := by omega
  have hd := dig_nth (n := n) (k := j) (by omega)
  rw [Nat.pow_succ, ← Nat.div_div_eq_div_mul] at hX
  have hle : n / 10000 ^ j ≤ n := Nat.div_le_self _ _
  obtain ⟨Y, hY⟩ : ∃ Y, Y = n / 10000 ^ j := ⟨_, rfl⟩
  rw [← hY] at hd hX hle
  obtain ⟨c, hc⟩ : ∃ c, c = Y % 10000 := ⟨_, rfl⟩
  rw [← hc] at hd
  have w2 := IntWalk.i64_in (10000 * (X : Int)) (by omega)
  have w3 := IntWalk.i64_in (10000 * (X : Int) + (c : Int)) (by omega)
  have w4 := IntWalk.i64_in ((j : Int) - 1) (by omega)
  have dn : ¬ dig n = [] := by intro h; rw [h] at hd; simp at hd
  have z2 : (j : Int) < (dig n).length := by omega
  simp (config := { maxSteps := 1000000 }) only [go_sem, Int.reduceToNat, Int.reduceLE, Int.reduceLT, Int.reduceAdd, Int.reduceSub, Int.reduceMul, Int.reduceEq, Int.reduceNe, Nat.reduceEqDiff, Nat.reducePow, Nat.reduceDiv, Nat.reduceMod, Nat.reduceAdd, Nat.reduceMul, Nat.reduceSub, Nat.reduceLT, Nat.reduceLeDiff, reduceIte, reduceCtorEq, h5, h4, z1, w2, hd, dn, z2, w3, w4, appendA_U]
  exact ⟨⟨j, Y, rfl, by simp; omega, hY, by omega⟩, by omega⟩
/-- A fraction in lowest terms. -/
def madeR (neg : Bool) (N D : Nat) : AVal :=
  if N / Nat.gcd N D ≤ 4611686018427387903 ∧ D / Nat.gcd N D ≤ 4611686018427387903 then .tup [qV (if neg = true then -((N / Nat.gcd N D : Nat) : Int) else ((N / Nat.gcd N D : Nat) : Int)) ((D / Nat.gcd N D : Nat) : Int), .lit (.bool true)] else .tup [qV 0 0, .lit (.bool false)]
theorem fz_qb {S : Nat → Prop} {H : AHeap} {nx : Nat} {x y : Int} {b : Bool} : Fz S H nx (.tup [.agg [.lit (.int .i64 x), .lit (.int .i64 y)], .lit (.bool b)]) (.tup [qV x y, .lit (.bool b)]) := .tup rfl fun i hi _ => match i, hi with
  | 0, _ => fz_lits _ _
  | 1, _ => .lit _
theorem dig_mono {a b : Nat} (h : a ≤ b) : (dig a).length ≤ (dig b).length := by
  rcases Nat.lt_or_ge (dig b).length (dig a).length with h1 | h1
  · exact absurd (dig_lt_len h1) (by omega)
  · exact h1
set_option maxHeartbeats 1000000 in
theorem made_spec (neg : Bool) (N D : Nat) (hD : D ≠ 0) (hN : (dig N).length ≤ 100) (hDl : (dig D).length ≤ 100) (H : AHeap) (K : ARes → AHeap → Prop) (hK : K (.ret (madeR neg N D)) H) : ACall Tryd.prog G0 50 [.lit (.bool neg), vecI (dig N), vecI (dig D)] H K := by
  refine ACall.clo ⟨_, Tryd.func50, rfl, rfl⟩ fun hcl => ?_
  have g0 : 0 < Nat.gcd N D := Nat.gcd_pos_of_pos_right _ (by omega)
  have gl : (dig (Nat.gcd N D)).length ≤ 100 := Nat.le_trans (dig_mono (Nat.le_of_dvd (by omega) (Nat.gcd_dvd_right N D))) hDl
  have gc : ∀ H K, K (ARes.ret (vecI (dig (Nat.gcd N D)))) H → ACall Tryd.prog G0 45 [vecI (dig N), vecI (dig D)] H K := fun H K h => rgcd_spec N D hN hDl H K h
  unfold madeR at hK
  generalize Nat.gcd N D = g at *
  have l1 : (dig (N / g)).length ≤ 100 := Nat.le_trans (dig_mono (Nat.div_le_self _ _)) hN
  have l2 : (dig (D / g)).length ≤ 100 := Nat.le_trans (dig_mono (Nat.div_le_self _ _)) hDl
  have d1 : ∀ H K, K (ARes.ret (.tup [vecI (dig (N / g)), vecI (dig (N % g))])) H → ACall Tryd.prog G0 70 [vecI (dig N), vecI (dig g)] H K := fun H K h => divide_spec N g (by omega) hN gl H K h
  have d2 : ∀ H K, K (ARes.ret (.tup [vecI (dig (D / g)), vecI (dig (D % g))])) H → ACall Tryd.prog G0 70 [vecI (dig D), vecI (dig g)] H K := fun H K h => divide_spec D g (by omega) hDl gl H K h
  generalize N / g = p at *
  generalize D / g = q at *
  generalize N % g = r1 at *
  generalize D % g = r2 at *
  refine ACall.of_body (n := 51) (rs := [.cell 6 23, .tmp 7]) Tryd.func50 rfl rfl rfl (by decide) (by kernel_rfl) (by simp) ?_
  simp (config := { maxSteps := 1000000 }) only [go_sem, Int.reduceToNat, Int.reduceLE, Int.reduceLT, Int.reduceAdd, Int.reduceSub, Int.reduceMul, Int.reduceEq, Int.reduceNe, Nat.reduceEqDiff, Nat.reducePow, Nat.reduceDiv, Nat.reduceMod, Nat.reduceAdd, Nat.reduceMul, Nat.reduceSub, Nat.reduceLT, Nat.reduceLeDiff, reduceIte, reduceCtorEq, appendA_U]
  refine AApply.clo (gc _ _ ⟨trivial, ?_⟩)
  simp (config := { maxSteps := 1000000 }) only [go_sem, Int.reduceToNat, Int.reduceLE, Int.reduceLT, Int.reduceAdd, Int.reduceSub, Int.reduceMul, Int.reduceEq, Int.reduceNe, Nat.reduceEqDiff, Nat.reducePow, Nat.reduceDiv, Nat.reduceMod, Nat.reduceAdd, Nat.reduceMul, Nat.reduceSub, Nat.reduceLT, Nat.reduceLeDiff, reduceIte, reduceCtorEq, appendA_U]
  refine AApply.clo (d1 _ _ ⟨trivial, ?_⟩)
  simp (config := { maxSteps := 1000000 }) only [go_sem, Int.reduceToNat, Int.reduceLE, Int.reduceLT, Int.reduceAdd, Int.reduceSub, Int.reduceMul, Int.reduceEq, Int.reduceNe, Nat.reduceEqDiff, Nat.reducePow, Nat.reduceDiv, Nat.reduceMod, Nat.reduceAdd, Nat.reduceMul, Nat.reduceSub, Nat.reduceLT, Nat.reduceLeDiff, reduceIte, reduceCtorEq, appendA_U]
  refine AApply.clo (d2 _ _ ⟨trivial, ?_⟩)
  simp (config := { maxSteps := 1000000 }) only [go_sem, Int.reduceToNat, Int.reduceLE, Int.reduceLT, Int.reduceAdd, Int.reduceSub, Int.reduceMul, Int.reduceEq, Int.reduceNe, Nat.reduceEqDiff, Nat.reducePow, Nat.reduceDiv, Nat.reduceMod, Nat.reduceAdd, Nat.reduceMul, Nat.reduceSub, Nat.reduceLT, Nat.reduceLeDiff, reduceIte, reduceCtorEq, appendA_U]
  refine AApply.clo (value_spec p l1 _ _ ⟨trivial, ?_⟩)
  unfold valR
  by_cases hp : p ≤ 4611686018427387903
  · have wp := IntWalk.i64_in (0 - (p : Int)) (by omega)
    rw [if_pos hp]
    simp (config := { maxSteps := 1000000 }) only [go_sem, Int.reduceToNat, Int.reduceLE, Int.reduceLT, Int.reduceAdd, Int.reduceSub, Int.reduceMul, Int.reduceEq, Int.reduceNe, Nat.reduceEqDiff, Nat.reducePow, Nat.reduceDiv, Nat.reduceMod, Nat.reduceAdd, Nat.reduceMul, Nat.reduceSub, Nat.reduceLT, Nat.reduceLeDiff, reduceIte, reduceCtorEq, appendA_U]
    refine AApply.clo (value_spec q l2 _ _ ⟨trivial, ?_⟩)
    unfold valR
    by_cases hq : q ≤ 4611686018427387903
    · rw [if_pos ⟨hp, hq⟩] at hK
      rw [if_pos hq]
      cases neg with
      | false =>
        simp (config := { maxSteps := 1000000 }) only [go_sem, Int.reduceToNat, Int.reduceLE, Int.reduceLT, Int.reduceAdd, Int.reduceSub, Int.reduceMul, Int.reduceEq, Int.reduceNe, Nat.reduceEqDiff, Nat.reducePow, Nat.reduceDiv, Nat.reduceMod, Nat.reduceAdd, Nat.reduceMul, Nat.reduceSub, Nat.reduceLT, Nat.reduceLeDiff, reduceIte, reduceCtorEq, appendA_U]
        exact FinV.drop G0_ok hcl fz_qb (by simpa using hK)
      | true =>
        simp (config := { maxSteps := 1000000 }) only [go_sem, Int.reduceToNat, Int.reduceLE, Int.reduceLT, Int.reduceAdd, Int.reduceSub, Int.reduceMul, Int.reduceEq, Int.reduceNe, Nat.reduceEqDiff, Nat.reducePow, Nat.reduceDiv, Nat.reduceMod, Nat.reduceAdd, Nat.reduceMul, Nat.reduceSub, Nat.reduceLT, Nat.reduceLeDiff, reduceIte, reduceCtorEq, appendA_U]
        exact FinV.drop G0_ok hcl fz_qb (by rw [wp, Int.zero_sub]; simpa using hK)
    · rw [if_neg (fun h => hq h.2)] at hK
      rw [if_neg hq]
      simp (config := { maxSteps := 1000000 }) only [go_sem, Int.reduceToNat, Int.reduceLE, Int.reduceLT, Int.reduceAdd, Int.reduceSub, Int.reduceMul, Int.reduceEq, Int.reduceNe, Nat.reduceEqDiff, Nat.reducePow, Nat.reduceDiv, Nat.reduceMod, Nat.reduceAdd, Nat.reduceMul, Nat.reduceSub, Nat.reduceLT, Nat.reduceLeDiff, reduceIte, reduceCtorEq, appendA_U]
      exact FinV.drop G0_ok hcl fz_qb hK
  · rw [if_neg (fun h => hp h.1)] at hK
    rw [if_neg hp]
    simp (config := { maxSteps := 1000000 }) only [go_sem, Int.reduceToNat, Int.reduceLE, Int.reduceLT, Int.reduceAdd, Int.reduceSub, Int.reduceMul, Int.reduceEq, Int.reduceNe, Nat.reduceEqDiff, Nat.reducePow, Nat.reduceDiv, Nat.reduceMod, Nat.reduceAdd, Nat.reduceMul, Nat.reduceSub, Nat.reduceLT, Nat.reduceLeDiff, reduceIte, reduceCtorEq, appendA_U]
    refine AApply.clo (value_spec q l2 _ _ ⟨trivial, ?_⟩)
    unfold valR
    by_cases hq : q ≤ 4611686018427387903
    · rw [if_pos hq]
      simp (config := { maxSteps := 1000000 }) only [go_sem, Int.reduceToNat, Int.reduceLE, Int.reduceLT, Int.reduceAdd, Int.reduceSub, Int.reduceMul, Int.reduceEq, Int.reduceNe, Nat.reduceEqDiff, Nat.reducePow, Nat.reduceDiv, Nat.reduceMod, Nat.reduceAdd, Nat.reduceMul, Nat.reduceSub, Nat.reduceLT, Nat.reduceLeDiff, reduceIte, reduceCtorEq, appendA_U]
      exact FinV.drop G0_ok hcl fz_qb hK
    · rw [if_neg hq]
      simp (config := { maxSteps := 1000000 }) only [go_sem, Int.reduceToNat, Int.reduceLE, Int.reduceLT, Int.reduceAdd, Int.reduceSub, Int.reduceMul, Int.reduceEq, Int.reduceNe, Nat.reduceEqDiff, Nat.reducePow, Nat.reduceDiv, Nat.reduceMod, Nat.reduceAdd, Nat.reduceMul, Nat.reduceSub, Nat.reduceLT, Nat.reduceLeDiff, reduceIte, reduceCtorEq, appendA_U]
      exact FinV.drop G0_ok hcl fz_qb hK
end Go.Proofs
set_option linter.unusedSimpArgs false
set_option maxRecDepth 100000
namespace Go.Proofs
open Go.Hx
abbrev I64 (n : Int) : Prop := -9223372036854775808 ≤ n ∧ n ≤ 9223372036854775807
theorem dl5 {n : Int} (h : I64 n) : (dig n.natAbs).length ≤ 5 := dig_len (by
  have : (10000 : Nat) ^ 5 = 100000000000000000000 := by decide
  have := h.1
  have := h.2
  omega)
theorem madeR_form (neg : Bool) (N D : Nat) : ∃ x y b, madeR neg N D = .tup [qV x y, .lit (.bool b)] := by
  unfold madeR; split
  · exact ⟨_, _, _, rfl⟩
  · exact ⟨_, _, _, rfl⟩
theorem rMake_spec (n d : Int) (hn : I64 n) (hd : I64 d) (hd0 : d ≠ 0) (H : AHeap) (K : ARes → AHeap → Prop) (hK : K (.ret (madeR (sgnB n d) n.natAbs d.natAbs)) H) : ACall Tryd.prog G0 17 [.lit (.int .i64 n), .lit (.int .i64 d)] H K := by
  refine ACall.clo ⟨_, Tryd.func17, rfl, rfl⟩ fun hcl => ?_
  refine ACall.of_body (n := 18) (rs := [.cell 4 23, .tmp 5]) Tryd.func17 rfl rfl rfl (by decide) (by kernel_rfl) (by simp) ?_
  simp (config := { maxSteps := 1000000 }) only [go_sem, Int.reduceToNat, Int.reduceLE, Int.reduceLT, Int.reduceAdd, Int.reduceSub, Int.reduceMul, Int.reduceEq, Int.reduceNe, Nat.reduceEqDiff, Nat.reducePow, Nat.reduceDiv, Nat.reduceMod, Nat.reduceAdd, Nat.reduceMul, Nat.reduceSub, Nat.reduceLT, Nat.reduceLeDiff, reduceIte, reduceCtorEq, bin_neq_bool Tryd.underlying4, appendA_U]
  refine AApply.clo (digits_spec n hn _ _ ⟨trivial, ?_⟩)
  simp (config := { maxSteps := 1000000 }) only [go_sem, Int.reduceToNat, Int.reduceLE, Int.reduceLT, Int.reduceAdd, Int.reduceSub, Int.reduceMul, Int.reduceEq, Int.reduceNe, Nat.reduceEqDiff, Nat.reducePow, Nat.reduceDiv, Nat.reduceMod, Nat.reduceAdd, Nat.reduceMul, Nat.reduceSub, Nat.reduceLT, Nat.reduceLeDiff, reduceIte, reduceCtorEq, appendA_U]
  refine AApply.clo (digits_spec d hd _ _ ⟨trivial, ?_⟩)
  simp (config := { maxSteps := 1000000 }) only [go_sem, Int.reduceToNat, Int.reduceLE, Int.reduceLT, Int.reduceAdd, Int.reduceSub, Int.reduceMul, Int.reduceEq, Int.reduceNe, Nat.reduceEqDiff, Nat.reducePow, Nat.reduceDiv, Nat.reduceMod, Nat.reduceAdd, Nat.reduceMul, Nat.reduceSub, Nat.reduceLT, Nat.reduceLeDiff, reduceIte, reduceCtorEq, appendA_U]
  have l1 := dl5 hn
  have l2 := dl5 hd
  refine AApply.clo (made_spec _ _ _ (by omega) (by omega) (by omega) _ _ ⟨trivial, ?_⟩)
  unfold sgnB at hK
  obtain ⟨x, y, b, e⟩ := madeR_form (!(decide (n < 0) == decide (d < 0))) n.natAbs d.natAbs
  rw [e] at hK ⊢
  simp (config := { maxSteps := 1000000 }) only [go_sem, Int.reduceToNat, Int.reduceLE, Int.reduceLT, Int.reduceAdd, Int.reduceSub, Int.reduceMul, Int.reduceEq, Int.reduceNe, Nat.reduceEqDiff, Nat.reducePow, Nat.reduceDiv, Nat.reduceMod, Nat.reduceAdd, Nat.reduceMul, Nat.reduceSub, Nat.reduceLT, Nat.reduceLeDiff, reduceIte, reduceCtorEq, qV, appendA_U]
  exact FinV.drop G0_ok hcl fz_qb hK
theorem dig_one : dig 1 = [1] := by rw [dig_pos (by decide), dig_zero]; rfl
theorem Right_spec (n d : Int) (hn : I64 n) (hd : I64 d) (H : AHeap) (K : ARes → AHeap → Prop) (hK : K (.ret (.lit (.bool (decide (checkQ n d = 0))))) H) : ACall Tryd.prog G0 14 [qV n d] H K := by
  refine ACall.clo ⟨_, Tryd.func14, rfl, rfl⟩ fun hcl => ?_
  refine ACall.of_body (n := 31) (rs := [.tmp 2]) Tryd.func14 rfl rfl rfl (by decide) (by kernel_rfl) (by simp) ?_
  have bad : ∀ L, checkQ n d = 5 → FinV Tryd.prog G0 H K (.lit (.bool false)) (ext H L) := fun L h => by
    rw [h] at hK
    exact FinV.drop G0_ok hcl (.lit _) hK
  by_cases h1 : d < 1
  · simp (config := { maxSteps := 1000000 }) only [go_sem, Int.reduceToNat, Int.reduceLE, Int.reduceLT, Int.reduceAdd, Int.reduceSub, Int.reduceMul, Int.reduceEq, Int.reduceNe, Nat.reduceEqDiff, Nat.reducePow, Nat.reduceDiv, Nat.reduceMod, Nat.reduceAdd, Nat.reduceMul, Nat.reduceSub, Nat.reduceLT, Nat.reduceLeDiff, reduceIte, reduceCtorEq, qV, h1, appendA_U]
    exact bad _ (by unfold checkQ; rw [if_pos (.inl h1)])
  by_cases h2 : 4611686018427387903 < d
  · simp (config := { maxSteps := 1000000 }) only [go_sem, Int.reduceToNat, Int.reduceLE, Int.reduceLT, Int.reduceAdd, Int.reduceSub, Int.reduceMul, Int.reduceEq, Int.reduceNe, Nat.reduceEqDiff, Nat.reducePow, Nat.reduceDiv, Nat.reduceMod, Nat.reduceAdd, Nat.reduceMul, Nat.reduceSub, Nat.reduceLT, Nat.reduceLeDiff, reduceIte, reduceCtorEq, qV, h1, h2, appendA_U]
    exact bad _ (by unfold checkQ; rw [if_pos (.inr (.inl h2))])
  by_cases h4 : 4611686018427387903 < n
  · simp (config := { maxSteps := 1000000 }) only [go_sem, Int.reduceToNat, Int.reduceLE, Int.reduceLT, Int.reduceAdd, Int.reduceSub, Int.reduceMul, Int.reduceEq, Int.reduceNe, Nat.reduceEqDiff, Nat.reducePow, Nat.reduceDiv, Nat.reduceMod, Nat.reduceAdd, Nat.reduceMul, Nat.reduceSub, Nat.reduceLT, Nat.reduceLeDiff, reduceIte, reduceCtorEq, qV, h1, h2, h4, appendA_U]
    exact bad _ (by unfold checkQ; rw [if_pos (.inr (.inr (.inr h4)))])
  by_cases h3 : n < -4611686018427387903
  · simp (config := { maxSteps := 1000000 }) only [go_sem, Int.reduceToNat, Int.reduceLE, Int.reduceLT, Int.reduceAdd, Int.reduceSub, Int.reduceMul, Int.reduceEq, Int.reduceNe, Nat.reduceEqDiff, Nat.reducePow, Nat.reduceDiv, Nat.reduceMod, Nat.reduceAdd, Nat.reduceMul, Nat.reduceSub, Nat.reduceLT, Nat.reduceLeDiff, reduceIte, reduceCtorEq, qV, h1, h2, h3, h4, appendA_U]
    exact bad _ (by unfold checkQ; rw [if_pos (.inr (.inr (.inl h3)))])
  simp (config := { maxSteps := 1000000 }) only [go_sem, Int.reduceToNat, Int.reduceLE, Int.reduceLT, Int.reduceAdd, Int.reduceSub, Int.reduceMul, Int.reduceEq, Int.reduceNe, Nat.reduceEqDiff, Nat.reducePow, Nat.reduceDiv, Nat.reduceMod, Nat.reduceAdd, Nat.reduceMul, Nat.reduceSub, Nat.reduceLT, Nat.reduceLeDiff, reduceIte, reduceCtorEq, qV, h1, h2, h3, h4, appendA_U]
  refine W.draw 8 [0, 1, 3, 0, 8, 31, 63, 0] Tryd.mixed (by kernel_rfl) (by kernel_rfl) ?_
  simp (config := { maxSteps := 1000000 }) only [go_sem, Int.reduceToNat, Int.reduceLE, Int.reduceLT, Int.reduceAdd, Int.reduceSub, Int.reduceMul, Int.reduceEq, Int.reduceNe, Nat.reduceEqDiff, Nat.reducePow, Nat.reduceDiv, Nat.reduceMod, Nat.reduceAdd, Nat.reduceMul, Nat.reduceSub, Nat.reduceLT, Nat.reduceLeDiff, reduceIte, reduceCtorEq, qV, appendA_U]
  have l1 := dl5 hn
  have l2 := dl5 hd
  refine ⟨_, [], PCall.pure fun H2 => digits_spec n hn H2 _ ⟨rfl, rfl⟩, ?_⟩
  simp (config := { maxSteps := 1000000 }) only [go_sem, Int.reduceToNat, Int.reduceLE, Int.reduceLT, Int.reduceAdd, Int.reduceSub, Int.reduceMul, Int.reduceEq, Int.reduceNe, Nat.reduceEqDiff, Nat.reducePow, Nat.reduceDiv, Nat.reduceMod, Nat.reduceAdd, Nat.reduceMul, Nat.reduceSub, Nat.reduceLT, Nat.reduceLeDiff, reduceIte, reduceCtorEq, appendA_U]
  refine ⟨_, [], PCall.pure fun H2 => digits_spec d hd H2 _ ⟨rfl, rfl⟩, ?_⟩
  simp (config := { maxSteps := 1000000 }) only [go_sem, Int.reduceToNat, Int.reduceLE, Int.reduceLT, Int.reduceAdd, Int.reduceSub, Int.reduceMul, Int.reduceEq, Int.reduceNe, Nat.reduceEqDiff, Nat.reducePow, Nat.reduceDiv, Nat.reduceMod, Nat.reduceAdd, Nat.reduceMul, Nat.reduceSub, Nat.reduceLT, Nat.reduceLeDiff, reduceIte, reduceCtorEq, appendA_U]
  refine ⟨_, [], PCall.pure fun H2 => rgcd_spec n.natAbs d.natAbs (by omega) (by omega) H2 _ ⟨rfl, rfl⟩, ?_⟩
  simp (config := { maxSteps := 1000000 }) only [go_sem, Int.reduceToNat, Int.reduceLE, Int.reduceLT, Int.reduceAdd, Int.reduceSub, Int.reduceMul, Int.reduceEq, Int.reduceNe, Nat.reduceEqDiff, Nat.reducePow, Nat.reduceDiv, Nat.reduceMod, Nat.reduceAdd, Nat.reduceMul, Nat.reduceSub, Nat.reduceLT, Nat.reduceLeDiff, reduceIte, reduceCtorEq, appendA_U]
  refine ⟨by refine ⟨?_, ?_, ?_, ?_⟩ <;> (intro x hx; omega), ?_⟩
  have gl : (dig (n.natAbs.gcd d.natAbs)).length ≤ 100 := by
    have : n.natAbs.gcd d.natAbs ≤ d.natAbs := Nat.le_of_dvd (by omega) (Nat.gcd_dvd_right _ _)
    have := dig_mono this
    omega
  have ck : checkQ n d = if Int.gcd n d ≠ 1 then 5 else 0 := by unfold checkQ; rw [if_neg (by unfold maxN; omega)]
  have eg : Int.gcd n d = n.natAbs.gcd d.natAbs := rfl
  obtain ⟨H1, hH1⟩ : ∃ H1, H1 = ext H [.arr 0 23 [.lit (.int .i64 n), .lit (.int .i64 d)]] := ⟨_, rfl⟩
  have ov1 : Over H H1 := by rw [hH1]; exact .ext _ _
  have e1 : H.next + 1 = H1.next := by rw [hH1]; rfl
  rw [← hH1, e1]
  have hO : OwnG H1.next (ext H1 [.arr 0 3 [.lit (.int .i64 1)]]) 3 (.own H1.next 0 0 1 1) (ints [1]) := .inr ⟨H1.next, 0, Nat.le_refl _, by simp [ext_next], rfl, get_ext0 _ _ _⟩
  refine AApply.cutArgs H1.next (args' := [vecI (dig (n.natAbs.gcd d.natAbs)), vecI (dig 1)]) G0_ok rfl (fun j hj _ => match j, hj with | 0, _ => .keepInts _ | 1, _ => by rw [dig_one]; exact hO.fzI fun i hi => hi) (compare_spec _ 1 (by omega) _ _ ⟨trivial, ?_⟩)
  have ov2 : Over H ((ext H1 [.arr 0 3 [.lit (.int .i64 1)]]).cut H1.next) := ov1.trans (Over.ext _ _).cut
  rw [ck, eg] at hK
  by_cases hg : n.natAbs.gcd d.natAbs = 1
  · rw [hg] at hK ⊢
    have c1 : cmpI ((1 : Nat) : Int) ((1 : Nat) : Int) = 0 := by decide
    rw [c1]
    simp (config := { maxSteps := 1000000 }) only [go_sem, Int.reduceToNat, Int.reduceLE, Int.reduceLT, Int.reduceAdd, Int.reduceSub, Int.reduceMul, Int.reduceEq, Int.reduceNe, Nat.reduceEqDiff, Nat.reducePow, Nat.reduceDiv, Nat.reduceMod, Nat.reduceAdd, Nat.reduceMul, Nat.reduceSub, Nat.reduceLT, Nat.reduceLeDiff, reduceIte, reduceCtorEq, appendA_U]
    exact FinV.dropO G0_ok hcl ov2 (.lit _) hK
  · have c1 : ¬ cmpI ((n.natAbs.gcd d.natAbs : Nat) : Int) ((1 : Nat) : Int) = 0 := by
      unfold cmpI
      split
      · omega
      · split <;> omega
    obtain ⟨c, hc⟩ : ∃ c, c = cmpI ((n.natAbs.gcd d.natAbs : Nat) : Int) ((1 : Nat) : Int) := ⟨_, rfl⟩
    rw [← hc] at c1 ⊢
    simp (config := { maxSteps := 1000000 }) only [go_sem, Int.reduceToNat, Int.reduceLE, Int.reduceLT, Int.reduceAdd, Int.reduceSub, Int.reduceMul, Int.reduceEq, Int.reduceNe, Nat.reduceEqDiff, Nat.reducePow, Nat.reduceDiv, Nat.reduceMod, Nat.reduceAdd, Nat.reduceMul, Nat.reduceSub, Nat.reduceLT, Nat.reduceLeDiff, reduceIte, reduceCtorEq, c1, appendA_U]
    rw [if_pos hg] at hK
    exact FinV.dropO G0_ok hcl ov2 (.lit _) (by simpa using hK)
end Go.Proofs
