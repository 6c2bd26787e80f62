/- Own work: contracts. -/
import Derived.Test.YtikgmgmphkalkaaDoorConB
set_option linter.all false
set_option maxRecDepth 100000
namespace Go.Hx
def vecB (l : List Nat) : AVal := .vec l.length (l.map bitV)
attribute [go_sem] bitV vecB
theorem OwnG.fzB {S : Nat → Prop} {lo nx : Nat} {H : AHeap} {e : TypeId} {v : AVal} {l : List Nat} (h : OwnG lo H e v (l.map bitV)) (hS : ∀ i, lo ≤ i → S i) : Fz S H nx v (vecB l) := by
  have := h.fz (S := S) (nx := nx) (cs' := l.map bitV) hS rfl fun i hi _ => by simp only [List.getElem_map]; exact .lit _
  rw [List.length_map] at this
  exact this

end Go.Hx
namespace Go.Proofs
open Go.Hx
theorem app_bits {H H' : AHeap} {v : AVal} {l : List Nat} (x : Nat) (ov : Over H H') (h : OwnG H.next H' 100 v (l.map bitV)) (hl : l.length < 2 ^ 40) :
    ∃ v' H2, appendA Tryd.prog (ext H' [.arr 0 100 [.lit (.int .u64 (x : Int))]]) (H'.next + 1) 44 44 v (.own H'.next 0 0 1 1) = some (v', H2) ∧ Over H H2 ∧ OwnG H.next H2 100 v' ((l ++ [x]).map bitV) ∧ H'.next ≤ H2.next ∧ (∀ k, k < H'.next → (∀ g n, v ≠ .own k g 0 n 1) → H2.get k = H'.get k) := by
  obtain ⟨v', H2, hA, hO, hn2, hp⟩ := app_oneG (P := Tryd.prog) (H := H') (t := 44) (x := bitV x) (n := H'.next + 1) Tryd.underlying44 Tryd.cells100 Tryd.zero100 rfl (by rw [Tryd.bytes100, List.length_map]; omega) h ov.next rfl
  simp only [bitV] at hA
  exact ⟨v', H2, hA, over_app ov h hn2 hp, by rw [List.map_append]; exact hO, hn2, hp⟩
theorem in05_spec (m v : Nat) (hm : m < 2 ^ 64) (hv : v < 2 ^ 62) (H : AHeap) (K : ARes → AHeap → Prop) (hK : K (.ret (.lit (.bool (m.testBit v)))) H) : ACall Tryd.prog G0 92 [bitV m, lin v] H K := by
  refine ACall.of_body (n := 11) (rs := [.tmp 4]) Tryd.func92 rfl rfl rfl (by decide) (by kernel_rfl) (by simp) ?_
  have w1 := IntWalk.u64_in (v : Int) (by omega)
  have s1 := fun t x y => shrB (P := Tryd.prog) (t := t) (x := x) (y := y) (k' := .u64) (s := v) hm
  have s2 := fun t x y => bit1 (P := Tryd.prog) (t := t) (x := x) (y := y) (s := v) hm
  cases hb : m.testBit v
  · rw [hb] at hK
    simp (config := { maxSteps := 1000000 }) only [go_sem, w1, s1, s2, hb, appendA_U]
    exact FinV.mk (Nat.le_refl _) hK
  · rw [hb] at hK
    simp (config := { maxSteps := 1000000 }) only [go_sem, w1, s1, s2, hb, appendA_U]
    exact FinV.mk (Nat.le_refl _) hK

def setsL (ns : List NodeP) : List Nat := ns.map fun x => setN x.parents
theorem setsL_get {ns : List NodeP} {k : Nat} {x : NodeP} (h : ns[k]? = some x) : (setsL ns)[k]? = some (setN x.parents) := by unfold setsL; rw [List.getElem?_map, h]; rfl
theorem parentSets_spec (g : Int) (ns : List NodeP) (hl : (ns.length : Int) < 2 ^ 39) (hp : ∀ x ∈ ns, (x.parents.length : Int) < 2 ^ 39 ∧ ∀ q ∈ x.parents, 0 ≤ q ∧ q < 64) (H : AHeap) (K : ARes → AHeap → Prop)
    (hK : K (.ret (vecB (setsL ns))) H) : ACall Tryd.prog G0 41 [netV g ns] H K := by
  refine ACall.clo ⟨_, Tryd.func41, rfl, rfl⟩ fun hcl => ?_
  refine ACall.of_body (n := 43) (rs := [.tmp 2]) Tryd.func41 rfl rfl rfl (by decide) (by kernel_rfl) (by simp) ?_
  simp (config := { maxSteps := 1000000 }) only [go_sem, netV, nodesV, appendA_U]
  obtain ⟨H1, hH1⟩ : ∃ H1, H1 = ext H [.arr 0 61 [.lit (.int .i64 g), .vec ns.length (nodesC ns)]] := ⟨_, rfl⟩
  have l1 : H1.live H.next 0 = some (61, [.lit (.int .i64 g), .vec ns.length (nodesC ns)]) := by rw [hH1]; exact get_live (get_ext0 ..)
  have n1 : H1.next = H.next + 1 := by rw [hH1]; rfl
  have o1 : Over H H1 := by rw [hH1]; exact .ext _ _
  rw [← hH1]
  refine W.loop0 4398046511096 (by rfl) (fun ρ H' => ∃ k : Nat, ρ 4 = lin k ∧ k ≤ ns.length ∧ ρ 1 = .ptr H.next 0 0 ∧ Over H1 H' ∧ OwnG H1.next H' 100 (ρ 3) (((setsL ns).take k).map bitV)) (fun ρ H => ns.length - (iv (ρ 4)).toNat) ?_ ?_
  · simp (config := { maxSteps := 1000000 }) only [go_sem, appendA_U]
    exact ⟨0, rfl, by omega, .refl _, .nil⟩
  rintro ρ H' ⟨k, h4, hk, h1, ov, h3⟩
  refine vc_sound _ _ _ (by rfl) ?_
  have l2 := (ov.live (g := 0) (by omega : H.next < H1.next)).trans l1
  by_cases hb : (k : Int) < ns.length
  · obtain ⟨x, hx⟩ := get_of_lt (l := ns) (i := k) (by omega)
    have hne := nodesC_ne hx
    have e1 := nodesC_1 hx
    obtain ⟨xl, xr⟩ := hp x (List.mem_of_getElem? hx)
    simp (config := { maxSteps := 1000000 }) only [go_sem, h4, h1, l2, hb, appendA_U]
    refine W.loop0 274877890656 (by rfl) (fun ρ' H2 => H2 = H' ∧ ∃ j : Nat, ρ' 6 = lin j ∧ j ≤ x.parents.length ∧ ρ' 5 = bitV (setN (x.parents.take j))) (fun ρ' H => x.parents.length - (iv (ρ' 6)).toNat) ?_ ?_
    · simp (config := { maxSteps := 1000000 }) only [go_sem, appendA_U]
      exact ⟨0, rfl, by omega, rfl⟩
    rintro ρ' H2 ⟨rfl, j, h6, hj, h5⟩
    refine vc_sound _ _ _ (by rfl) ?_
    by_cases hb2 : (j : Int) < x.parents.length
    · obtain ⟨q, hq⟩ := get_of_lt (l := x.parents) (i := j) (by omega)
      obtain ⟨q0, q1⟩ := xr q (List.mem_of_getElem? hq)
      obtain ⟨u, rfl⟩ := Int.eq_ofNat_of_zero_le q0
      have hne2 := ne_of_get hq
      have w1 := IntWalk.u64_in (u : Int) (by omega)
      have w2 := IntWalk.i64_in ((j : Int) + 1) (by omega)
      have b1 : setN (x.parents.take j) < 2 ^ 64 := setN_lt fun p hp => by have := xr p (List.mem_of_mem_take hp); omega
      have s1 := fun t x y => shlB (P := Tryd.prog) (t := t) (x := x) (y := y) (k' := .u64) (s := u) (by omega)
      have s2 := fun t x y => orB (P := Tryd.prog) (t := t) (x := x) (y := y) (b := 2 ^ u) b1 (Nat.pow_lt_pow_right (by decide) (by omega))
      simp (config := { maxSteps := 1000000 }) only [go_sem, h4, h1, l2, hb, hne, e1, h6, h5, hb2, hq, hne2, w1, w2, s1, s2, appendA_U]
      exact ⟨⟨j + 1, by simp, by omega, by rw [take_succ_get hq, setN_snoc]; rfl⟩, by omega⟩
    · obtain ⟨v', H3, hA, ov2, hO, hn2, _⟩ := app_bits (setN x.parents) ov h3 (by simp [setsL]; omega)
      have w1 := IntWalk.i64_in ((k : Int) + 1) (by omega)
      rw [List.take_of_length_le (by omega)] at h5
      simp (config := { maxSteps := 1000000 }) only [go_sem, h4, h1, l2, hb, hne, e1, h6, h5, hb2, w1, hA]
      refine ⟨by have := ov2.next; omega, ⟨k + 1, by simp, by omega, ov2, ?_⟩, by omega⟩
      rw [take_succ_get (setsL_get hx)]
      exact hO
  · simp (config := { maxSteps := 1000000 }) only [go_sem, h4, h1, l2, hb, appendA_U]
    rw [List.take_of_length_le (by simp [setsL]; omega)] at h3
    exact FinV.dropO G0_ok hcl (o1.trans ov) (h3.fzB fun i hi => by omega) hK

theorem foldl_lt {ps : List Nat} (hp : ∀ p ∈ ps, p < 2 ^ 64) (l : List Nat) : ∀ s, s < 2 ^ 64 → l.foldl (upStep ps) s < 2 ^ 64 := by
  induction l with
  | nil => exact fun s h => h
  | cons v l ih =>
    intro s h
    refine ih _ ?_
    unfold upStep
    split
    · refine Nat.or_lt_two_pow h ?_
      rw [List.getD_eq_getElem?_getD]
      cases h : ps[v]? with
      | none => decide
      | some p => exact hp p (List.mem_of_getElem? h)
    · exact h
theorem upN_lt {ps : List Nat} (hp : ∀ p ∈ ps, p < 2 ^ 64) {s : Nat} (hs : s < 2 ^ 64) : ∀ k, upN ps k s < 2 ^ 64
  | 0 => hs
  | k + 1 => foldl_lt hp _ _ (upN_lt hp hs k)
theorem up_spec (ps : List Nat) (s : Nat) (hl : (ps.length : Int) < 2 ^ 39) (hp : ∀ p ∈ ps, p < 2 ^ 64) (hs : s < 2 ^ 64) (H : AHeap) (K : ARes → AHeap → Prop) (hK : K (.ret (bitV (upL ps s))) H) : ACall Tryd.prog G0 93 [vecB ps, bitV s] H K := by
  refine ACall.of_body (n := 29) (rs := [.tmp 4]) Tryd.func93 rfl rfl rfl (by decide) (by kernel_rfl) (by simp) ?_
  simp (config := { maxSteps := 1000000 }) only [go_sem, appendA_U]
  refine W.loop0 268435426 (by rfl) (fun ρ H' => H' = H ∧ ∃ k : Nat, ρ 5 = lin k ∧ k ≤ ps.length ∧ ρ 1 = bitV (upN ps k s)) (fun ρ H => ps.length - (iv (ρ 5)).toNat) ?_ ?_
  · simp (config := { maxSteps := 1000000 }) only [go_sem, appendA_U]
    exact ⟨0, rfl, by omega, rfl⟩
  rintro ρ H' ⟨rfl, k, h5, hk, h1⟩
  refine vc_sound _ _ _ (by rfl) ?_
  by_cases hb : (k : Int) < ps.length
  · simp (config := { maxSteps := 1000000 }) only [go_sem, h5, h1, hb, appendA_U]
    refine W.loop0 268427330 (by rfl) (fun ρ' H2 => H2 = H' ∧ ∃ j : Nat, ρ' 6 = lin j ∧ j ≤ ps.length ∧ ρ' 1 = bitV ((List.range j).foldl (upStep ps) (upN ps k s))) (fun ρ' H => ps.length - (iv (ρ' 6)).toNat) ?_ ?_
    · simp (config := { maxSteps := 1000000 }) only [go_sem, h1, appendA_U]
      exact ⟨0, rfl, by omega, rfl⟩
    rintro ρ' H2 ⟨rfl, j, h6, hj, h1'⟩
    refine vc_sound _ _ _ (by rfl) ?_
    by_cases hb2 : (j : Int) < ps.length
    · obtain ⟨p, hpj⟩ := get_of_lt (l := ps) (i := j) (by omega)
      have hne := ne_of_get hpj
      have b1 := foldl_lt hp (List.range j) _ (upN_lt hp hs k)
      have w2 := IntWalk.i64_in ((j : Int) + 1) (by omega)
      have hst : (List.range (j + 1)).foldl (upStep ps) (upN ps k s) = upStep ps ((List.range j).foldl (upStep ps) (upN ps k s)) j := by rw [List.range_succ, List.foldl_append]; rfl
      have s2 := fun t x y => orB (P := Tryd.prog) (t := t) (x := x) (y := y) b1 (hp p (List.mem_of_getElem? hpj))
      obtain ⟨m, hm⟩ : ∃ m, m = (List.range j).foldl (upStep ps) (upN ps k s) := ⟨_, rfl⟩
      rw [← hm] at b1 h1' hst s2
      simp (config := { maxSteps := 1000000 }) only [go_sem, h6, h1', hb2, appendA_U]
      refine AApply.clo (in05_spec m j b1 (by omega) _ _ ⟨trivial, ?_⟩)
      cases hbit : m.testBit j
      · simp (config := { maxSteps := 1000000 }) only [go_sem, h6, h1', w2, appendA_U]
        exact ⟨⟨j + 1, by simp, by omega, by rw [hst]; unfold upStep; rw [hbit]; rfl⟩, by omega⟩
      · simp (config := { maxSteps := 1000000 }) only [go_sem, h6, h1', w2, hb2, hpj, hne, s2, appendA_U]
        exact ⟨⟨j + 1, by simp, by omega, by rw [hst]; unfold upStep; rw [hbit, if_pos rfl, getD_of_get hpj]⟩, by omega⟩
    · have w2 := IntWalk.i64_in ((k : Int) + 1) (by omega)
      have ej : j = ps.length := by omega
      subst ej
      simp (config := { maxSteps := 1000000 }) only [go_sem, h6, h1', hb2, h5, w2, appendA_U]
      exact ⟨⟨k + 1, by simp, by omega, rfl⟩, by omega⟩
  · simp (config := { maxSteps := 1000000 }) only [go_sem, h5, h1, hb, appendA_U]
    have ek : k = ps.length := by omega
    subst ek
    exact FinV.mk (Nat.le_refl _) hK

def acycB (ps : List Nat) : Bool := (List.range ps.length).all fun v => !(upL ps (ps.getD v 0)).testBit v
theorem acycB_iff (ps : List Nat) : acycB ps = true ↔ AcycB ps := by
  unfold acycB AcycB
  simp only [List.all_eq_true, List.mem_range, Bool.not_eq_true']
theorem acyclic_spec (ps : List Nat) (hl : (ps.length : Int) < 2 ^ 39) (hp : ∀ p ∈ ps, p < 2 ^ 64) (H : AHeap) (K : ARes → AHeap → Prop) (hK : K (.ret (.lit (.bool (acycB ps)))) H) : ACall Tryd.prog G0 76 [vecB ps] H K := by
  have no : ¬ acycB ps = true → FinV Tryd.prog G0 H K (.lit (.bool false)) H := fun h => FinV.mk (Nat.le_refl _) (by rw [Bool.eq_false_iff.2 h] at hK; exact hK)
  refine ACall.of_body (n := 18) (rs := [.tmp 2]) Tryd.func76 rfl rfl rfl (by decide) (by kernel_rfl) (by simp) ?_
  simp (config := { maxSteps := 1000000 }) only [go_sem, appendA_U]
  refine W.loop0 262140 (by rfl) (fun ρ H' => H' = H ∧ ∃ k : Nat, ρ 3 = lin k ∧ k ≤ ps.length ∧ ∀ v, v < k → (upL ps (ps.getD v 0)).testBit v = false) (fun ρ H => ps.length - (iv (ρ 3)).toNat) ?_ ?_
  · simp (config := { maxSteps := 1000000 }) only [go_sem, appendA_U]
    exact ⟨0, rfl, by omega, fun v h => absurd h (Nat.not_lt_zero _)⟩
  rintro ρ H' ⟨rfl, k, h3, hk, ha⟩
  refine vc_sound _ _ _ (by rfl) ?_
  by_cases hb : (k : Int) < ps.length
  · obtain ⟨p, hpk⟩ := get_of_lt (l := ps) (i := k) (by omega)
    have hne := ne_of_get hpk
    have hp1 := hp p (List.mem_of_getElem? hpk)
    simp (config := { maxSteps := 1000000 }) only [go_sem, h3, hb, hpk, hne, appendA_U]
    refine AApply.clo (up_spec ps p hl hp hp1 _ _ ⟨trivial, ?_⟩)
    simp (config := { maxSteps := 1000000 }) only [go_sem, h3, appendA_U]
    refine AApply.clo (in05_spec (upL ps p) k (upN_lt hp hp1 _) (by omega) _ _ ⟨trivial, ?_⟩)
    have w2 := IntWalk.i64_in ((k : Int) + 1) (by omega)
    cases hbit : (upL ps p).testBit k
    · simp (config := { maxSteps := 1000000 }) only [go_sem, h3, w2, appendA_U]
      refine ⟨⟨k + 1, by simp, by omega, fun v hv => ?_⟩, by omega⟩
      rcases Nat.lt_or_ge v k with h | h
      · exact ha v h
      · obtain rfl : v = k := by omega
        rw [getD_of_get hpk]; exact hbit
    · simp (config := { maxSteps := 1000000 }) only [go_sem, h3, appendA_U]
      refine no fun h => ?_
      have := (acycB_iff ps).1 h k (by omega)
      rw [getD_of_get hpk, hbit] at this; cases this
  · simp (config := { maxSteps := 1000000 }) only [go_sem, h3, hb, appendA_U]
    rw [(acycB_iff ps).2 fun v hv => ha v (by omega)] at hK
    exact FinV.mk (Nat.le_refl _) hK
def RowOk (g card : Int) (r : List Int) : Prop := (r.length : Int) = card ∧ (∀ w ∈ r, 0 ≤ w ∧ w ≤ g) ∧ r.sum = g
def NodeOk (g : Int) (ns : List NodeP) (x : NodeP) : Prop := (x.rows.length : Int) = prodL (parC ns x) ∧ ∀ r ∈ x.rows, RowOk g x.card r
structure NetOk (g : Int) (ns : List NodeP) : Prop where
  g1 : 1 ≤ g ∧ g ≤ 60
  n1 : 1 ≤ ns.length ∧ ns.length ≤ 8
  node : ∀ x ∈ ns, (1 ≤ x.card ∧ x.card ≤ 4) ∧ PlacesOk x.parents ns.length
  size : prodL (cardsL ns) ≤ 1024
  acyc : AcycB (setsL ns)
  rows : ∀ x ∈ ns, NodeOk g ns x
noncomputable def netB (g : Int) (ns : List NodeP) : Bool := @decide (NetOk g ns) (Classical.propDecidable _)
theorem netB_true {g : Int} {ns : List NodeP} (h : NetOk g ns) : netB g ns = true := by unfold netB; exact @decide_eq_true _ (Classical.propDecidable _) h
theorem netB_false {g : Int} {ns : List NodeP} (h : ¬ NetOk g ns) : netB g ns = false := by unfold netB; exact @decide_eq_false _ (Classical.propDecidable _) h
def NetFit (ns : List NodeP) : Prop := (ns.length : Int) < 2 ^ 38 ∧ ∀ x ∈ ns, (x.parents.length : Int) < 2 ^ 38 ∧ (x.rows.length : Int) < 2 ^ 38 ∧ ∀ r ∈ x.rows, (r.length : Int) < 2 ^ 38
theorem smallC_of {l : List Int} (h : l.length ≤ 12) (h2 : ∀ x ∈ l, 1 ≤ x ∧ x ≤ 4) : SmallC l := ⟨h, fun x hx => by have := h2 x hx; omega⟩
theorem parC_mem {ns : List NodeP} {x : NodeP} (hin : InRange x.parents ns.length) (hc : ∀ y ∈ ns, 1 ≤ y.card ∧ y.card ≤ 4) : ∀ c ∈ parC ns x, 1 ≤ c ∧ c ≤ 4 := fun c h => by
  unfold parC atL at h
  obtain ⟨q, hq, rfl⟩ := List.mem_map.1 h
  obtain ⟨j, rfl, y, hy⟩ := get_of_int (l := ns) (hin q hq).1 (hin q hq).2
  rw [Int.toNat_natCast, getD_of_get (cards_get hy)]
  exact hc y (List.mem_of_getElem? hy)
theorem parC_small {ns : List NodeP} {x : NodeP} (h8 : ns.length ≤ 8) (hp : PlacesOk x.parents ns.length) (hc : ∀ y ∈ ns, 1 ≤ y.card ∧ y.card ≤ 4) : SmallC (parC ns x) := by
  refine smallC_of ?_ (parC_mem (fun q hq => by have := hp.2 q hq; omega) hc)
  rw [show (parC ns x).length = _ from atL_len _ _]
  have := hp.len; omega
theorem setsL_lt {ns : List NodeP} {n : Nat} (h : ∀ x ∈ ns, ∀ q ∈ x.parents, 0 ≤ q ∧ q < (n : Int)) : ∀ p ∈ setsL ns, p < 2 ^ n := fun p hp => by
  obtain ⟨x, hx, rfl⟩ := List.mem_map.1 hp
  exact setN_lt fun q hq => by have := h x hx q hq; omega
theorem sum_snoc (l : List Int) (x : Int) : (l ++ [x]).sum = l.sum + x := by simp

set_option maxHeartbeats 2000000 in
theorem right05_spec (g : Int) (ns : List NodeP) (hf : NetFit ns) (H : AHeap) (K : ARes → AHeap → Prop) (hK : K (.ret (.lit (.bool (netB g ns)))) H) : ACall Tryd.prog G0 33 [netV g ns] H K := by
  refine ACall.clo ⟨_, Tryd.func33, rfl, rfl⟩ fun hcl => ?_
  have no : ¬ NetOk g ns → ∀ H', Over H H' → FinV Tryd.prog G0 H K (.lit (.bool false)) H' := fun h H' ov => FinV.dropO G0_ok hcl ov (.lit _) (by rw [netB_false h] at hK; exact hK)
  refine ACall.of_body (n := 154) (rs := [.tmp 2]) Tryd.func33 rfl rfl rfl (by decide) (by kernel_rfl) (by simp) ?_
  simp (config := { maxSteps := 1000000 }) only [go_sem, netV, nodesV, appendA_U]
  obtain ⟨H1, hH1⟩ : ∃ H1, H1 = ext H [.arr 0 61 [.lit (.int .i64 g), .vec ns.length (nodesC ns)]] := ⟨_, rfl⟩
  have l1 : H1.live H.next 0 = some (61, [.lit (.int .i64 g), .vec ns.length (nodesC ns)]) := by rw [hH1]; exact get_live (get_ext0 ..)
  have n1 : H1.next = H.next + 1 := by rw [hH1]; rfl
  have o1 : Over H H1 := by rw [hH1]; exact .ext _ _
  rw [← hH1]
  by_cases c1 : g < 1
  · simp (config := { maxSteps := 1000000 }) only [go_sem, l1, c1, guardA_undef, appendA_U]
    exact no (fun h => by have := h.g1; omega) _ o1
  by_cases c2 : g > 60
  · simp (config := { maxSteps := 1000000 }) only [go_sem, l1, c1, c2, guardA_undef, appendA_U]
    exact no (fun h => by have := h.g1; omega) _ o1
  by_cases c3 : (ns.length : Int) < 1
  · simp (config := { maxSteps := 1000000 }) only [go_sem, l1, c1, c2, c3, guardA_undef, appendA_U]
    exact no (fun h => by have := h.n1; omega) _ o1
  by_cases c4 : (ns.length : Int) > 8
  · simp (config := { maxSteps := 1000000 }) only [go_sem, l1, c1, c2, c3, c4, guardA_undef, appendA_U]
    exact no (fun h => by have := h.n1; omega) _ o1
  simp (config := { maxSteps := 1000000 }) only [go_sem, l1, c1, c2, c3, c4, guardA_undef, appendA_U]
  refine W.loop0 18446744071562068028 (by rfl) (fun ρ H' => ∃ k : Nat, ρ 4 = lin k ∧ k ≤ ns.length ∧ Over H1 H' ∧ (∀ x ∈ ns.take k, (1 ≤ x.card ∧ x.card ≤ 4) ∧ PlacesOk x.parents ns.length) ∧ ρ 3 = lin (prodL ((cardsL ns).take k))) (fun ρ H => ns.length - (iv (ρ 4)).toNat) ?_ ?_
  · simp (config := { maxSteps := 1000000 }) only [go_sem, appendA_U]
    exact ⟨0, rfl, by omega, .refl _, by simp, by simp [prodL_nil]⟩
  · rintro ρ H' ⟨k, h4, hk, ov, hall, h3⟩
    refine vc_sound _ _ _ (by rfl) ?_
    have l2 := (ov.live (g := 0) (by omega : H.next < H1.next)).trans l1
    have hlt : H.next < H'.next := by have := ov.next; omega
    have l3 : ∀ L, (ext H' L).live H.next 0 = _ := fun L => (ext_live_old hlt).trans l2
    by_cases hb : (k : Int) < ns.length
    · obtain ⟨x, hx⟩ := get_of_lt (l := ns) (i := k) (by omega)
      have hxm := List.mem_of_getElem? hx
      have hne := nodesC_ne hx
      have e0 := nodesC_part hx
      have e1 : k * 3 + 3 ≤ (nodesC ns).length := by rw [nodesC_len]; omega
      have nb : ¬ H.next = H'.next := by omega
      have ove : ∀ L, Over H (ext H' L) := fun L => (o1.trans ov).trans (.ext _ _)
      by_cases d1 : x.card < 1
      · simp (config := { maxSteps := 1000000 }) only [go_sem, h4, l2, l3, hb, hne, e0, e1, d1, guardA_undef, appendA_U]
        exact no (fun h => by have := (h.node x hxm).1; omega) _ (ove _)
      by_cases d2 : x.card > 4
      · simp (config := { maxSteps := 1000000 }) only [go_sem, h4, l2, l3, hb, hne, e0, e1, d1, d2, guardA_undef, appendA_U]
        exact no (fun h => by have := (h.node x hxm).1; omega) _ (ove _)
      simp (config := { maxSteps := 1000000 }) only [go_sem, h4, l2, l3, hb, hne, e0, e1, d1, d2, guardA_undef, appendA_U]
      refine AApply.clo (places_spec x.parents ns.length (by have := (hf.2 x hxm).1; omega) _ _ ⟨trivial, ?_⟩)
      by_cases d3 : PlacesOk x.parents ns.length
      rotate_left
      · simp (config := { maxSteps := 1000000 }) only [go_sem, d3, appendA_U]
        exact no (fun h => d3 (h.node x hxm).2) _ (ove _)
      have hall' : ∀ y ∈ ns.take (k + 1), (1 ≤ y.card ∧ y.card ≤ 4) ∧ PlacesOk y.parents ns.length := fun y hy => by
        rw [take_succ_get hx] at hy
        rcases List.mem_append.1 hy with hy | hy
        · exact hall y hy
        · obtain rfl := List.mem_singleton.1 hy; exact ⟨by omega, d3⟩
      have b1 : SmallC ((cardsL ns).take (k + 1)) := smallC_of (by simp [cardsL]; omega) fun c hc => by
        rw [show (cardsL ns).take (k + 1) = cardsL (ns.take (k + 1)) by simp [cardsL]] at hc
        obtain ⟨y, hy, rfl⟩ := List.mem_map.1 hc
        exact (hall' y hy).1
      have b2 := b1.prod
      rw [take_succ_get (cards_get hx), prodL_snoc] at b2
      have w1 := IntWalk.i64_in ((k : Int) + 1) (by omega)
      have w2 := IntWalk.i64_in (prodL ((cardsL ns).take k) * x.card) (by omega)
      simp (config := { maxSteps := 1000000 }) only [go_sem, h4, h3, l2, l3, hb, hne, d3, w1, w2, appendA_U]
      exact ⟨by have := ov.next; omega, ⟨k + 1, by simp, by omega, ov.trans (.ext _ _), fun y hy => hall' y hy, by rw [take_succ_get (cards_get hx), prodL_snoc]⟩, by omega⟩
    · have ek : k = ns.length := by omega
      subst ek
      rw [List.take_of_length_le (Nat.le_refl _)] at hall
      rw [List.take_of_length_le (by rw [cards_len]; omega)] at h3
      have hcards : ∀ y ∈ ns, 1 ≤ y.card ∧ y.card ≤ 4 := fun y hy => (hall y hy).1
      have ov0 := o1.trans ov
      by_cases c5 : prodL (cardsL ns) > 1024
      · simp (config := { maxSteps := 1000000 }) only [go_sem, h4, h3, l2, l3, hb, c5, guardA_undef, appendA_U]
        exact no (fun h => by have := h.size; omega) _ ov0
      simp (config := { maxSteps := 1000000 }) only [go_sem, h4, h3, l2, l3, hb, c5, guardA_undef, appendA_U]
      have hpl : ∀ x ∈ ns, (x.parents.length : Int) < 2 ^ 39 ∧ ∀ q ∈ x.parents, 0 ≤ q ∧ q < 64 := fun x hx => ⟨by have := (hf.2 x hx).1; omega, fun q hq => by have := (hall x hx).2.2 q hq; omega⟩
      refine AApply.clo (parentSets_spec g ns (by have := hf.1; omega) hpl _ _ ⟨trivial, ?_⟩)
      simp (config := { maxSteps := 1000000 }) only [go_sem, appendA_U]
      refine AApply.clo (acyclic_spec (setsL ns) (by simp [setsL]; omega) (fun p hp => Nat.lt_of_lt_of_le (setsL_lt (n := 64) (fun x hx q hq => by have := (hpl x hx).2 q hq; omega) p hp) (Nat.le_refl _)) _ _ ⟨trivial, ?_⟩)
      cases hac : acycB (setsL ns)
      · simp (config := { maxSteps := 1000000 }) only [go_sem, appendA_U]
        exact no (fun h => by rw [(acycB_iff _).2 h.acyc] at hac; cases hac) _ ov0
      simp (config := { maxSteps := 1000000 }) only [go_sem, appendA_U]
      refine W.loop0 22835963083295358096932570788825439312478734276 (by rfl) (fun ρ' H2 => ∃ k : Nat, ρ' 6 = lin k ∧ k ≤ ns.length ∧ Over H' H2 ∧ ∀ x ∈ ns.take k, NodeOk g ns x) (fun ρ' H => ns.length - (iv (ρ' 6)).toNat) ?_ ?_
      · simp (config := { maxSteps := 1000000 }) only [go_sem, appendA_U]
        exact ⟨0, rfl, by omega, .refl _, by simp⟩
      rintro ρ' H2 ⟨k, h6, hk, ov2', hrows⟩
      have ov2 := ov.trans ov2'
      refine vc_sound _ _ _ (by rfl) ?_
      have l2 := (ov2.live (g := 0) (by omega : H.next < H1.next)).trans l1
      have hlt : H.next < H2.next := by have := ov2.next; omega
      by_cases hb : (k : Int) < ns.length
      rotate_left
      · simp (config := { maxSteps := 1000000 }) only [go_sem, h6, l2, hb, appendA_U]
        rw [List.take_of_length_le (by omega)] at hrows
        rw [netB_true ⟨by omega, by omega, hall, by omega, (acycB_iff _).1 hac, hrows⟩] at hK
        exact FinV.dropO G0_ok hcl (o1.trans ov2) (.lit _) hK
      obtain ⟨x, hx⟩ := get_of_lt (l := ns) (i := k) (by omega)
      have hxm := List.mem_of_getElem? hx
      have hne := nodesC_ne hx
      have e0 := nodesC_part hx
      have e1 : k * 3 + 3 ≤ (nodesC ns).length := by rw [nodesC_len]; omega
      obtain ⟨x1, x2⟩ := hall x hxm
      obtain ⟨f1, f2, f3⟩ := hf.2 x hxm
      have sm := parC_small (by omega) x2 hcards
      simp (config := { maxSteps := 1000000 }) only [go_sem, h6, l2, hb, hne, e0, e1, appendA_U]
      obtain ⟨H3, hH3⟩ : ∃ H3, H3 = ext H2 [.arr 0 91 [.lit (.int .i64 x.card), .vec x.parents.length (ints x.parents), vecV x.rows]] := ⟨_, rfl⟩
      have m1 : H3.live H2.next 0 = some (91, [.lit (.int .i64 x.card), .vec x.parents.length (ints x.parents), vecV x.rows]) := by rw [hH3]; exact get_live (get_ext0 ..)
      have m2 : H3.live H.next 0 = some (61, [.lit (.int .i64 g), .vec ns.length (nodesC ns)]) := by rw [hH3, ext_live_old hlt]; exact l2
      have m3 : H3.next = H2.next + 1 := by rw [hH3]; rfl
      have ov3 : Over H1 H3 := by rw [hH3]; exact ov2.trans (.ext _ _)
      have ov4 : Over H H3 := o1.trans ov3
      rw [← hH3]
      refine W.draw 7 [0, 1, 3, 0, 0, 24, 56] Tryd.mixed (by kernel_rfl) (by kernel_rfl) ?_
      simp (config := { maxSteps := 1000000 }) only [go_sem, h6, m1, m2, vecV, appendA_U]
      refine ⟨vecI (parC ns x), [], PCall.pure fun H2 => parentCards_spec g ns k x hx (by have := hf.1; omega) (by omega) (fun q hq => by have := x2.2 q hq; omega) H2 _ ⟨rfl, rfl⟩, ?_⟩
      simp (config := { maxSteps := 1000000 }) only [go_sem, appendA_U]
      refine ⟨lin (prodL (parC ns x)), [], PCall.pure fun H2 => size02_spec (parC ns x) sm H2 _ ⟨rfl, rfl⟩, ?_⟩
      by_cases d1 : (x.rows.length : Int) = prodL (parC ns x)
      rotate_left
      · simp (config := { maxSteps := 1000000 }) only [go_sem, d1, appendA_U]
        exact no (fun h => d1 (h.rows x hxm).1) _ ov4
      simp (config := { maxSteps := 1000000 }) only [go_sem, d1, appendA_U]
      refine W.loop0 22835963083295358091980815354050401082527450884 (by rfl) (fun ρ2 H4 => H4 = H3 ∧ ∃ j : Nat, ρ2 8 = lin j ∧ j ≤ x.rows.length ∧ ∀ r ∈ x.rows.take j, RowOk g x.card r) (fun ρ2 H => x.rows.length - (iv (ρ2 8)).toNat) ?_ ?_
      · simp (config := { maxSteps := 1000000 }) only [go_sem, appendA_U]
        exact ⟨0, rfl, by omega, by simp⟩
      rintro ρ2 H4 ⟨rfl, j, h8, hj, hrj⟩
      refine vc_sound _ _ _ (by rfl) ?_
      by_cases hb2 : (j : Int) < x.rows.length
      rotate_left
      · have w1 := IntWalk.i64_in ((k : Int) + 1) (by omega)
        have hb2' : ¬ (j : Int) < prodL (parC ns x) := by omega
        simp (config := { maxSteps := 1000000 }) only [go_sem, h6, h8, m1, m2, hb2, hb2', d1, w1, vecV, appendA_U]
        rw [List.take_of_length_le (by omega)] at hrj
        refine ⟨by have := ov2'.next; omega, ⟨k + 1, by simp, by omega, by rw [hH3]; exact ov2'.trans (.ext _ _), fun y hy => ?_⟩, by omega⟩
        rw [take_succ_get hx] at hy
        rcases List.mem_append.1 hy with hy | hy
        · exact hrows y hy
        · obtain rfl := List.mem_singleton.1 hy; exact ⟨d1, hrj⟩
      obtain ⟨r, hr⟩ := get_of_lt (l := x.rows) (i := j) (by omega)
      have hrm := List.mem_of_getElem? hr
      have hrne := ne_of_get hr
      have hb2' : (j : Int) < prodL (parC ns x) := by omega
      have nope : ¬ RowOk g x.card r → ¬ NetOk g ns := fun h h' => h ((h'.rows x hxm).2 r hrm)
      simp (config := { maxSteps := 1000000 }) only [go_sem, h8, m1, m2, hb2, hb2', d1, vecV, appendA_U]
      refine W.draw 8 [0, 1, 0, 7, 15, 31, 0, 64] Tryd.mixed (by kernel_rfl) (by kernel_rfl) ?_
      by_cases d2 : (r.length : Int) = x.card
      rotate_left
      · simp (config := { maxSteps := 1000000 }) only [go_sem, h8, m1, m2, hb2, hb2', d1, d2, hr, hrne, vecV, appendA_U]
        exact no (nope fun h => d2 h.1) _ ov4
      simp (config := { maxSteps := 1000000 }) only [go_sem, h8, m1, m2, hb2, hb2', d1, d2, hr, hrne, vecV, appendA_U]
      refine W.loop0 1427247692705635362504627542722711980362171908 (by rfl) (fun ρ3 H5 => H5 = H4 ∧ ∃ i : Nat, ρ3 10 = lin i ∧ i ≤ r.length ∧ ρ3 9 = lin (r.take i).sum ∧ ∀ w ∈ r.take i, 0 ≤ w ∧ w ≤ g) (fun ρ3 H => r.length - (iv (ρ3 10)).toNat) ?_ ?_
      · simp (config := { maxSteps := 1000000 }) only [go_sem, appendA_U]
        exact ⟨0, rfl, by omega, by simp, by simp⟩
      rintro ρ3 H5 ⟨rfl, i, h10, hi, h9, hw⟩
      refine vc_sound _ _ _ (by rfl) ?_
      have sb : 0 ≤ (r.take i).sum ∧ (r.take i).sum ≤ 60 * i := by
        have key : ∀ l : List Int, (∀ w ∈ l, 0 ≤ w ∧ w ≤ g) → 0 ≤ l.sum ∧ l.sum ≤ 60 * l.length := by
          intro l
          induction l with
          | nil => intro _; simp
          | cons a l ih =>
            intro h
            have h1 := ih fun w hw => h w (by simp [hw])
            have h2 := h a (by simp)
            simp only [List.sum_cons, List.length_cons]
            push_cast
            omega
        have := key _ hw
        rw [List.length_take, Nat.min_eq_left (by omega)] at this
        exact this
      have r4 : r.length ≤ 4 := by omega
      by_cases hb3 : (i : Int) < r.length <;> have hb3' := hb3 <;> rw [d2] at hb3'
      rotate_left
      · rw [List.take_of_length_le (by omega)] at h9 hw
        by_cases d3 : r.sum = g
        rotate_left
        · simp (config := { maxSteps := 1000000 }) only [go_sem, h8, h9, h10, m1, m2, hb3, hb3', hr, hrne, hb2, hb2', d1, d2, d3, vecV, appendA_U]
          exact no (nope fun h => d3 h.2.2) _ ov4
        have w1 := IntWalk.i64_in ((j : Int) + 1) (by have := (hf.2 x hxm).2.1; omega)
        simp (config := { maxSteps := 1000000 }) only [go_sem, h8, h9, h10, m1, m2, hb3, hb3', hr, hrne, hb2, hb2', d1, d2, d3, w1, vecV, appendA_U]
        refine ⟨⟨j + 1, by simp, by omega, fun y hy => ?_⟩, by omega⟩
        rw [take_succ_get hr] at hy
        rcases List.mem_append.1 hy with hy | hy
        · exact hrj y hy
        · obtain rfl := List.mem_singleton.1 hy; exact ⟨d2, hw, d3⟩
      obtain ⟨a, ha⟩ := get_of_lt (l := r) (i := i) (by omega)
      have ham := List.mem_of_getElem? ha
      have hane := ne_of_get ha
      simp (config := { maxSteps := 1000000 }) only [go_sem, h8, h10, m1, m2, hr, hrne, hb2, hb2', hb3, hb3', d1, d2, vecV, appendA_U]
      refine W.draw 20 [0, 1, 0, 7, 15, 0, 63, 127, 255, 511, 1023, 2047, 1023, 8191, 16383, 1023, 65535, 131071, 1023, 263167] Tryd.mixed (by kernel_rfl) (by kernel_rfl) ?_
      by_cases d3 : a < 0
      · simp (config := { maxSteps := 1000000 }) only [go_sem, h8, h10, m1, m2, hr, hrne, hb2, hb2', hb3, hb3', ha, hane, d1, d2, d3, vecV, guardA_undef, appendA_U]
        exact no (nope fun h => by have := h.2.1 a ham; omega) _ ov4
      by_cases d4 : a > g
      · simp (config := { maxSteps := 1000000 }) only [go_sem, h8, h10, m1, m2, hr, hrne, hb2, hb2', hb3, hb3', ha, hane, d1, d2, d3, d4, vecV, guardA_undef, appendA_U]
        exact no (nope fun h => by have := h.2.1 a ham; omega) _ ov4
      have w1 := IntWalk.i64_in ((i : Int) + 1) (by omega)
      have w2 := IntWalk.i64_in ((r.take i).sum + a) (by omega)
      simp (config := { maxSteps := 1000000 }) only [go_sem, h8, h9, h10, m1, m2, hr, hrne, hb2, hb2', hb3, hb3', ha, hane, d1, d2, d3, d4, w1, w2, vecV, guardA_undef, appendA_U]
      refine ⟨⟨i + 1, by simp, by omega, by rw [take_succ_get ha, sum_snoc], fun w hw' => ?_⟩, by omega⟩
      rw [take_succ_get ha] at hw'
      rcases List.mem_append.1 hw' with hw' | hw'
      · exact hw w hw'
      · obtain rfl := List.mem_singleton.1 hw'; exact ⟨by omega, by omega⟩
def dataV (cs : List Int) (xs : List (List Int)) : AVal := .agg [vecI cs, vecV xs]
def CaseOk (cs r : List Int) : Prop := r.length = cs.length ∧ ∀ (v : Nat) (c x : Int), cs[v]? = some c → r[v]? = some x → -1 ≤ x ∧ x < c
structure DataOk (cs : List Int) (xs : List (List Int)) : Prop where
  c1 : 1 ≤ cs.length ∧ cs.length ≤ 6
  x1 : xs.length ≤ 40
  card : ∀ c ∈ cs, 2 ≤ c ∧ c ≤ 4
  size : prodL cs ≤ 1024
  row : ∀ r ∈ xs, CaseOk cs r
noncomputable def dataB (cs : List Int) (xs : List (List Int)) : Bool := @decide (DataOk cs xs) (Classical.propDecidable _)
theorem dataB_true {cs : List Int} {xs : List (List Int)} (h : DataOk cs xs) : dataB cs xs = true := by unfold dataB; exact @decide_eq_true _ (Classical.propDecidable _) h
theorem dataB_false {cs : List Int} {xs : List (List Int)} (h : ¬ DataOk cs xs) : dataB cs xs = false := by unfold dataB; exact @decide_eq_false _ (Classical.propDecidable _) h
theorem dataB_iff {cs : List Int} {xs : List (List Int)} : dataB cs xs = true ↔ DataOk cs xs := by unfold dataB; exact @decide_eq_true_iff _ (Classical.propDecidable _)
def DataFit (cs : List Int) (xs : List (List Int)) : Prop := (cs.length : Int) < 2 ^ 38 ∧ (xs.length : Int) < 2 ^ 38 ∧ ∀ r ∈ xs, (r.length : Int) < 2 ^ 38
theorem vecV_get {xs : List (List Int)} {k : Nat} {r : List Int} (h : xs[k]? = some r) : (xs.map vecI)[k]? = some (.vec r.length (ints r)) := by rw [List.getElem?_map, h]; rfl
theorem small4 {l : List Int} (h : ∀ c ∈ l, 2 ≤ c ∧ c ≤ 4) (hl : l.length ≤ 6) : 1 ≤ prodL l ∧ prodL l ≤ 4096 := by
  have h1 := prodL_le_pow (b := 4) (by omega) (l := l) fun x hx => by have := h x hx; omega
  have h2 := prodL_pos (l := l) fun x hx => by have := h x hx; omega
  have h3 : (4 : Nat) ^ l.length ≤ 4 ^ 6 := Nat.pow_le_pow_right (by decide) hl
  have h4 : ((4 : Int) ^ l.length) ≤ 4 ^ 6 := by exact_mod_cast h3
  have : (4 : Int) ^ 6 = 4096 := by decide
  omega
theorem CaseOk.of {cs r : List Int} (hl : r.length = cs.length) (h : ∀ (v : Nat) (c x : Int), v < r.length → cs[v]? = some c → r[v]? = some x → -1 ≤ x ∧ x < c) : CaseOk cs r := ⟨hl, fun v c x h1 h2 => h v c x (get_lt h2) h1 h2⟩
set_option maxHeartbeats 1000000 in
theorem check25_spec (cs : List Int) (xs : List (List Int)) (hf : DataFit cs xs) (H : AHeap) (K : ARes → AHeap → Prop) (hK : K (.ret (lin (if dataB cs xs then 0 else 250))) H) : ACall Tryd.prog G0 52 [dataV cs xs] H K := by
  refine ACall.clo ⟨_, Tryd.func52, rfl, rfl⟩ fun hcl => ?_
  have no : ¬ DataOk cs xs → ∀ H', Over H H' → FinV Tryd.prog G0 H K (lin 250) H' := fun h H' ov => FinV.dropO G0_ok hcl ov (.lit _) (by rw [dataB_false h] at hK; exact hK)
  obtain ⟨f1, f2, f3⟩ := hf
  refine ACall.of_body (n := 80) (rs := [.tmp 2]) Tryd.func52 rfl rfl rfl (by decide) (by kernel_rfl) (by simp) ?_
  simp (config := { maxSteps := 1000000 }) only [go_sem, dataV, vecV, appendA_U]
  obtain ⟨H1, hH1⟩ : ∃ H1, H1 = ext H [.arr 0 50 [.vec cs.length (ints cs), .vec xs.length (xs.map vecI)]] := ⟨_, rfl⟩
  have l1 : H1.live H.next 0 = some (50, [.vec cs.length (ints cs), .vec xs.length (xs.map vecI)]) := by rw [hH1]; exact get_live (get_ext0 ..)
  have o1 : Over H H1 := by rw [hH1]; exact .ext _ _
  rw [← hH1]
  by_cases c1 : (cs.length : Int) < 1
  · simp (config := { maxSteps := 1000000 }) only [go_sem, l1, c1, guardA_undef, appendA_U]
    exact no (fun h => by have := h.c1; omega) _ o1
  by_cases c2 : (cs.length : Int) > 6
  · simp (config := { maxSteps := 1000000 }) only [go_sem, l1, c1, c2, guardA_undef, appendA_U]
    exact no (fun h => by have := h.c1; omega) _ o1
  by_cases c3 : (xs.length : Int) > 40
  · simp (config := { maxSteps := 1000000 }) only [go_sem, l1, c1, c2, c3, guardA_undef, appendA_U]
    exact no (fun h => by have := h.x1; omega) _ o1
  simp (config := { maxSteps := 1000000 }) only [go_sem, l1, c1, c2, c3, guardA_undef, appendA_U]
  refine W.loop0 17591112302636 (by rfl) (fun ρ H' => H' = H1 ∧ ∃ k : Nat, ρ 30 = lin k ∧ k ≤ cs.length ∧ (∀ c ∈ cs.take k, 2 ≤ c ∧ c ≤ 4) ∧ ρ 3 = lin (prodL (cs.take k))) (fun ρ H => cs.length - (iv (ρ 30)).toNat) ?_ ?_
  · simp (config := { maxSteps := 1000000 }) only [go_sem, appendA_U]
    exact ⟨0, rfl, by omega, by simp, by simp [prodL_nil]⟩
  rintro ρ H' ⟨rfl, k, h30, hk, hall, h3⟩
  refine vc_sound _ _ _ (by rfl) ?_
  by_cases hb : (k : Int) < cs.length
  · obtain ⟨c, hc⟩ := get_of_lt (l := cs) (i := k) (by omega)
    have hne := ne_of_get hc
    have hcm := List.mem_of_getElem? hc
    by_cases d1 : c < 2
    · simp (config := { maxSteps := 1000000 }) only [go_sem, h30, hb, hne, hc, d1, guardA_undef, appendA_U]
      exact no (fun h => by have := h.card c hcm; omega) _ o1
    by_cases d2 : c > 4
    · simp (config := { maxSteps := 1000000 }) only [go_sem, h30, hb, hne, hc, d1, d2, guardA_undef, appendA_U]
      exact no (fun h => by have := h.card c hcm; omega) _ o1
    have hall' : ∀ y ∈ cs.take (k + 1), 2 ≤ y ∧ y ≤ 4 := fun y hy => by
      rw [take_succ_get hc] at hy
      rcases List.mem_append.1 hy with hy | hy
      · exact hall y hy
      · obtain rfl := List.mem_singleton.1 hy; omega
    have b1 := small4 hall' (by simp; omega)
    rw [take_succ_get hc, prodL_snoc] at b1
    have w1 := IntWalk.i64_in ((k : Int) + 1) (by omega)
    have w2 := IntWalk.i64_in (prodL (cs.take k) * c) (by omega)
    simp (config := { maxSteps := 1000000 }) only [go_sem, h30, h3, hb, hne, hc, d1, d2, w1, w2, guardA_undef, appendA_U]
    exact ⟨⟨k + 1, rfl, by omega, hall', by rw [take_succ_get hc, prodL_snoc]⟩, by omega⟩
  rw [List.take_of_length_le (by omega)] at hall h3
  by_cases c4 : prodL cs > 1024
  · simp (config := { maxSteps := 1000000 }) only [go_sem, h30, h3, hb, c4, appendA_U]
    exact no (fun h => by have := h.size; omega) _ o1
  simp (config := { maxSteps := 1000000 }) only [go_sem, h30, h3, hb, c4, l1, appendA_U]
  refine W.loop0 604462909244364633933632 (by rfl) (fun ρ Ha => Ha = H' ∧ ∃ k : Nat, ρ 49 = lin k ∧ k ≤ xs.length ∧ (∀ r ∈ xs.take k, CaseOk cs r) ∧ ρ 6 = lin 0) (fun ρ H => xs.length - (iv (ρ 49)).toNat) ?_ ?_
  · simp (config := { maxSteps := 1000000 }) only [go_sem, appendA_U]
    exact ⟨0, rfl, by omega, by simp⟩
  rintro ρ' Ha ⟨rfl, i, h49, hi, hrows, h6⟩
  refine vc_sound _ _ _ (by rfl) ?_
  by_cases hb2 : (i : Int) < xs.length
  rotate_left
  · simp (config := { maxSteps := 1000000 }) only [go_sem, h49, h6, hb2, appendA_U]
    rw [List.take_of_length_le (by omega)] at hrows
    rw [dataB_true ⟨by omega, by omega, hall, by omega, hrows⟩] at hK
    exact FinV.dropO G0_ok hcl o1 (.lit _) hK
  obtain ⟨r, hr⟩ := get_of_lt (l := xs) (i := i) (by omega)
  have hrm := List.mem_of_getElem? hr
  have hr' := vecV_get hr
  have hrn := ne_of_get hr'
  by_cases hl : (r.length : Int) = cs.length
  rotate_left
  · simp (config := { maxSteps := 1000000 }) only [go_sem, h49, hb2, hr', hrn, l1, hl, appendA_U]
    exact no (fun h => hl (by have := (h.row r hrm).1; omega)) _ o1
  simp (config := { maxSteps := 1000000 }) only [go_sem, h49, h6, hb2, hr', hrn, l1, hl, appendA_U]
  refine W.loop0 302229149060648079984192 (by rfl) (fun ρ2 Hb => Hb = Ha ∧ ∃ j : Nat, ρ2 61 = lin j ∧ j ≤ r.length ∧ (∀ (v : Nat) (c x : Int), v < j → cs[v]? = some c → r[v]? = some x → -1 ≤ x ∧ x < c) ∧ ρ2 6 = lin 0) (fun ρ2 H => r.length - (iv (ρ2 61)).toNat) ?_ ?_
  · simp (config := { maxSteps := 1000000 }) only [go_sem, h6, appendA_U]
    exact ⟨0, rfl, by omega, fun v _ _ h => by omega⟩
  rintro ρ2 Hb ⟨rfl, j, h61, hj, hin, h6'⟩
  refine vc_sound _ _ _ (by rfl) ?_
  have w1 := IntWalk.i64_in ((i : Int) + 1) (by omega)
  by_cases hb3 : (j : Int) < cs.length
  · obtain ⟨x, hx⟩ := get_of_lt (l := r) (i := j) (by omega)
    obtain ⟨c, hc⟩ := get_of_lt (l := cs) (i := j) (by omega)
    have hxn := ne_of_get hx
    have hcn := ne_of_get hc
    by_cases d1 : x < -1
    · simp (config := { maxSteps := 1000000 }) only [go_sem, h61, hb3, hl, hx, hxn, d1, guardA_undef, appendA_U]
      exact no (fun h => by have := (h.row r hrm).2 j c x hc hx; omega) _ o1
    by_cases d2 : x ≥ c
    · simp (config := { maxSteps := 1000000 }) only [go_sem, h61, hb3, hl, hx, hxn, hc, hcn, l1, d1, d2, guardA_undef, appendA_U]
      exact no (fun h => by have := (h.row r hrm).2 j c x hc hx; omega) _ o1
    have w2 := IntWalk.i64_in ((j : Int) + 1) (by omega)
    simp (config := { maxSteps := 1000000 }) only [go_sem, h61, h6', hb3, hl, hx, hxn, hc, hcn, l1, d1, d2, w2, guardA_undef, appendA_U]
    refine ⟨⟨j + 1, rfl, by omega, fun v c' x' hv h1 h2 => ?_⟩, by omega⟩
    rcases Nat.lt_or_ge v j with h | h
    · exact hin v c' x' h h1 h2
    · obtain rfl : v = j := by omega
      rw [hc] at h1; rw [hx] at h2
      cases h1; cases h2; omega
  · simp (config := { maxSteps := 1000000 }) only [go_sem, h61, h6', h49, hb3, hl, w1, appendA_U]
    refine ⟨⟨i + 1, rfl, by omega, fun q hq => ?_⟩, by omega⟩
    rw [take_succ_get hr] at hq
    rcases List.mem_append.1 hq with hq | hq
    · exact hrows q hq
    · obtain rfl := List.mem_singleton.1 hq
      exact .of (by omega) fun v c x hv => hin v c x (by omega)
end Go.Proofs
namespace Go.Hx
variable {P : Program} {G : Nat → Option (List AVal)} {n : Nat} {rd : Option Nat} {Q : AX → St → Prop}

def bodyIt (idy : Nat) (B : Blk) (lo : Nat) (J : AHeap → Prop) (Stop : AX → AHeap → Prop) : AX → St → Prop
  | .normal, s => s.H.get idy = some B ∧ lo ≤ s.H.next ∧ J s.H
  | .ret, s => s.H.get idy = some B ∧ lo ≤ s.H.next ∧ Stop .ret s.H
  | .exit i, s => s.H.get idy = some B ∧ lo ≤ s.H.next ∧ Stop (.exit i) s.H
  | _, _ => False
def asgIt (P : Program) (G : Nat → Option (List AVal)) (n idy : Nat) (B Bb : Blk) (lo : Nat) (body : Code) (J : AHeap → Prop) (Stop : AX → AHeap → Prop) : AX → St → Prop
  | .normal, s => s.H.get idy = some B ∧ W P G n (some idy) body (bodyIt idy Bb lo J Stop) ⟨s.ρ, s.H.upd idy Bb⟩
  | _, _ => False

end Go.Hx
namespace Go.Proofs
open Go.Hx
end Go.Proofs
namespace Go.Hx
end Go.Hx
namespace Go.Proofs
open Go.Hx
structure RdS (g : Int) (ns : List NodeP) (H H' : AHeap) (c : List Int) (s : List Nat) : Prop where
  nx : H.next + 5 ≤ H'.next
  ov : Over H H'
  b0 : H'.get H.next = some (.arr 0 61 [.lit (.int .i64 g), .vec ns.length (nodesC ns)])
  b1 : H'.get (H.next + 1) = some (.arr 0 153 [.lit (.int .i64 0), .lit (.slice none 0 0), .lit (.slice none 0 0), .lit (.slice none 0 0), .lit (.slice none 0 0)])
  b2 : H'.get (H.next + 2) = some (.arr 0 3 (ints c))
  b3 : H'.get (H.next + 3) = some (.arr 0 100 (s.map bitV))
  b4 : H'.get (H.next + 4) = some (.arr 0 153 [.lit (.int .i64 g), .vec ns.length (nodesC ns), .own (H.next + 2) 0 0 ns.length 1, .own (H.next + 3) 0 0 ns.length 1, .lit (.slice none 0 0)])
  cl : c.length = ns.length
  sl : s.length = ns.length
theorem RdS.over {g : Int} {ns : List NodeP} {H H' H2 : AHeap} {c : List Int} {s : List Nat} (h : RdS g ns H H' c s) (o : Over H' H2) : RdS g ns H H2 c s where
  nx := Nat.le_trans h.nx o.next
  ov := h.ov.trans o
  b0 := (o.old _ (by have := h.nx; omega)).trans h.b0
  b1 := (o.old _ (by have := h.nx; omega)).trans h.b1
  b2 := (o.old _ (by have := h.nx; omega)).trans h.b2
  b3 := (o.old _ (by have := h.nx; omega)).trans h.b3
  b4 := (o.old _ (by have := h.nx; omega)).trans h.b4
  cl := h.cl
  sl := h.sl
theorem setAt_bits {l : List Nat} {i : Nat} {x : Nat} (h : i < l.length) : setAt (l.map bitV) i [.lit (.int .u64 (x : Int))] = (l.set i x).map bitV := by
  rw [setAt_one (by simpa using h)]
  simp [bitV]
theorem RdS.l0 {g : Int} {ns : List NodeP} {H H' : AHeap} {c : List Int} {s : List Nat} (h : RdS g ns H H' c s) : H'.live H.next 0 = some (61, [.lit (.int .i64 g), .vec ns.length (nodesC ns)]) := get_live h.b0
theorem RdS.l1 {g : Int} {ns : List NodeP} {H H' : AHeap} {c : List Int} {s : List Nat} (h : RdS g ns H H' c s) : H'.live (H.next + 1) 0 = some (153, [.lit (.int .i64 0), .lit (.slice none 0 0), .lit (.slice none 0 0), .lit (.slice none 0 0), .lit (.slice none 0 0)]) := get_live h.b1
theorem RdS.l2 {g : Int} {ns : List NodeP} {H H' : AHeap} {c : List Int} {s : List Nat} (h : RdS g ns H H' c s) : H'.live (H.next + 2) 0 = some (3, ints c) := get_live h.b2
theorem RdS.l3 {g : Int} {ns : List NodeP} {H H' : AHeap} {c : List Int} {s : List Nat} (h : RdS g ns H H' c s) : H'.live (H.next + 3) 0 = some (100, s.map bitV) := get_live h.b3
theorem RdS.l4 {g : Int} {ns : List NodeP} {H H' : AHeap} {c : List Int} {s : List Nat} (h : RdS g ns H H' c s) : H'.live (H.next + 4) 0 = some (153, [.lit (.int .i64 g), .vec ns.length (nodesC ns), .own (H.next + 2) 0 0 ns.length 1, .own (H.next + 3) 0 0 ns.length 1, .lit (.slice none 0 0)]) := get_live h.b4
def decK (D v : Nat) : List Nat := (List.range v).filter fun v => D.testBit v
def placeD (D v : Nat) : Nat := (decK D v).length
def decL (d : InfP) : List Nat := decK d.decs d.nodes.length
def unitRow (g card x : Int) : List Int := (List.replicate card.toNat 0).set x.toNat g
def rowsN (ns : List NodeP) (x : NodeP) : Nat := (prodL (parC ns x)).toNat
def decRows (g : Int) (ns : List NodeP) (c : Nat → Nat → Int) (p : Nat) (x : NodeP) : List (List Int) := (List.range (rowsN ns x)).map fun r => unitRow g x.card (c p r)
def fillN (d : InfP) (c : Nat → Nat → Int) (k v : Nat) (x : NodeP) : NodeP := if d.decs.testBit v = true ∧ placeD d.decs v < k then { x with rows := x.rows ++ decRows d.grain d.nodes c (placeD d.decs v) x } else x
def fillK (d : InfP) (c : Nat → Nat → Int) (k : Nat) : List NodeP := d.nodes.zipIdx.map fun p => fillN d c k p.2 p.1
def fillL (d : InfP) (c : Nat → Nat → Int) : List NodeP := fillK d c (decL d).length
structure RightN (d : InfP) : Prop where
  n1 : 1 ≤ d.nodes.length ∧ d.nodes.length ≤ 8
  decs : d.decs >>> d.nodes.length = 0
  card : ∀ x ∈ d.nodes, 1 ≤ x.card ∧ x.card ≤ 4
  dec : ∀ v x, d.nodes[v]? = some x → d.decs.testBit v = true → x.rows = [] ∧ PlacesOk x.parents d.nodes.length
structure InfFit (d : InfP) : Prop where
  nodes : NetFit d.nodes
  decs : d.decs < 2 ^ 64
  utils : (d.utils.length : Int) < 2 ^ 38 ∧ ∀ u ∈ d.utils, (u.vars.length : Int) < 2 ^ 38 ∧ (u.w.length : Int) < 2 ^ 38

end Go.Proofs
namespace Go.Hx
variable {P : Program} {G : Nat → Option (List AVal)}
def AHeap.melt (H : AHeap) (rk ob : Nat) (b : Blk) : AHeap := ⟨fun id => if id = rk then none else if id = ob then some b else H.get id, H.next⟩
theorem fzH_melt {H : AHeap} (hc : Clo H) {rk ob g : Nat} {e : TypeId} {cells cells' : List AVal} (hob : H.get ob = some (.arr g e cells)) (hne : ob ≠ rk) (hl : cells'.length = cells.length)
    (hcell : ∀ i (h : i < cells.length) (h' : i < cells'.length), Fz (fun id => id = rk) H H.next cells[i] cells'[i]) : FzH (fun id => id = rk) H (H.melt rk ob (.arr g e cells')) where
  gone id hs := by simp [AHeap.melt, hs]
  kept id b hs hb := by
    have hbb := hc.below id b hb
    refine ⟨hc.lt id b hb, ?_⟩
    by_cases h : id = ob
    · subst h
      rw [hob] at hb
      cases hb
      exact ⟨.arr g e cells', by simp [AHeap.melt, hs], rfl, rfl, hl, hcell⟩
    · refine ⟨b, by simp [AHeap.melt, hs, h, hb], ?_⟩
      cases b with
      | rsv => trivial
      | mp => rfl
      | arr g e cells => exact ⟨rfl, rfl, rfl, fun i h _ => .dead (hbb i h)⟩
      | loop st pend n env ps asg body => exact ⟨rfl, rfl, rfl, rfl, rfl, rfl, rfl, fun t ht => .dead (hbb t ht)⟩
  none id hs hb := by
    by_cases h : id = ob
    · subst h; rw [hob] at hb; cases hb
    · simp [AHeap.melt, hs, h, hb]
theorem WeakS.melt (hG : GOk G) {s : St} {rk ob g : Nat} {e : TypeId} {cells cells' : List AVal} (hob : s.H.get ob = some (.arr g e cells)) (hne : ob ≠ rk) (hl : cells'.length = cells.length)
    (hcell : ∀ i (h : i < cells.length) (h' : i < cells'.length), Fz (fun id => id = rk) s.H s.H.next cells[i] cells'[i]) : WeakS P G s ⟨s.ρ, s.H.melt rk ob (.arr g e cells')⟩ := by
  intro n wb Γ a w hs
  exact WeakS.freeze (s := s) (s' := ⟨s.ρ, s.H.melt rk ob (.arr g e cells')⟩) hG (fzH_melt hs.heap.clo hob hne hl hcell) (fun t => .dead (hs.env t).belowN) n wb Γ a w hs
theorem fz_mid {S : Nat → Prop} {H : AHeap} {nx : Nat} {A B : List AVal} {o o' : AVal} (hA : ∀ v, v ∈ A → Fz S H nx v v) (ho : Fz S H nx o o') (hB : ∀ v, v ∈ B → Fz S H nx v v) :
    ∀ i (h : i < (A ++ o :: B).length) (h' : i < (A ++ o' :: B).length), Fz S H nx (A ++ o :: B)[i] (A ++ o' :: B)[i] := by
  induction A with
  | nil =>
    intro i h h'
    cases i with
    | zero => exact ho
    | succ i => exact hB _ (List.getElem_mem (l := B) (by simpa using h))
  | cons a A ih =>
    intro i h h'
    cases i with
    | zero => exact hA a (by simp)
    | succ i => exact ih (fun v hv => hA v (by simp [hv])) i (by simpa using h) (by simpa using h')
theorem melt_next {H : AHeap} {rk ob : Nat} {b : Blk} : (H.melt rk ob b).next = H.next := rfl
theorem melt_ob {H : AHeap} {rk ob : Nat} {b : Blk} (h : ob ≠ rk) : (H.melt rk ob b).get ob = some b := by simp [AHeap.melt, h]
theorem melt_other {H : AHeap} {rk ob id : Nat} {b : Blk} (h : id ≠ rk) (h2 : id ≠ ob) : (H.melt rk ob b).get id = H.get id := by simp [AHeap.melt, h, h2]

theorem W.postWeak {n : Nat} {rd : Option Nat} {Q Q' : AX → St → Prop} {c : Code} {s : St} (h : W P G n rd c Q' s) (hw : ∀ e s2, Q' e s2 → ∃ s3, WeakS P G s2 s3 ∧ s2.H.next ≤ s3.H.next ∧ RdIn s3.H rd ∧ Q e s3) : W P G n rd c Q s := by
  intro wb Γ a w rb hs hr
  refine wpIn_mono (h wb Γ a w rb hs hr) fun e a' w' hp => ?_
  obtain ⟨x, s', Γ', hx, hq, hrel, E, hn, hrd, hfr⟩ := hp
  obtain ⟨s3, hw3, hn3, hri, hq3⟩ := hw x s' hq
  obtain ⟨Γ3, hs3, E3, hrd3⟩ := hw3 n wb Γ' a' w' hrel
  exact ⟨x, s3, Γ3, hx, hq3, hs3, E.trans hn E3, Nat.le_trans hn hn3, hrd3 rd rb hrd hri, hfr⟩

theorem OwnG.ne {lo : Nat} {H : AHeap} {e : TypeId} {v : AVal} {cs : List AVal} (h : OwnG lo H e v cs) {k : Nat} (hk : k < lo) : ∀ g n, v ≠ .own k g 0 n 1 := fun g n he => by
  rcases h with ⟨h, _⟩ | ⟨i2, g2, a1, _, h, _⟩
  · rw [h] at he; cases he
  · rw [h] at he; have := AVal.own.inj he; omega
def OwnZ (lo : Nat) (H : AHeap) (e : TypeId) (z : Nat) (v : AVal) (n : Nat) (cs : List AVal) : Prop :=
  (v = .lit (.slice none 0 0) ∧ n = 0 ∧ cs = []) ∨ ∃ id g, lo ≤ id ∧ id < H.next ∧ v = .own id g 0 n z ∧ cs.length = n * z ∧ H.get id = some (.arr g e cs)
theorem OwnZ.nil {lo : Nat} {H : AHeap} {e : TypeId} {z : Nat} : OwnZ lo H e z (.lit (.slice none 0 0)) 0 [] := .inl ⟨rfl, rfl, rfl⟩
theorem OwnZ.keep {lo : Nat} {H H' : AHeap} {e : TypeId} {z n : Nat} {v : AVal} {cs : List AVal} (h : OwnZ lo H e z v n cs) (hn : H.next ≤ H'.next) (hk : ∀ id g, lo ≤ id → id < H.next → v = .own id g 0 n z → H'.get id = H.get id) : OwnZ lo H' e z v n cs := by
  rcases h with h | ⟨id, g, h1, h2, h3, h4, h5⟩
  · exact .inl h
  · exact .inr ⟨id, g, h1, by omega, h3, h4, (hk id g h1 h2 h3).trans h5⟩
theorem OwnZ.over {lo : Nat} {H H' : AHeap} {e : TypeId} {z n : Nat} {v : AVal} {cs : List AVal} (h : OwnZ lo H e z v n cs) (ho : Over H H') : OwnZ lo H' e z v n cs := h.keep ho.next fun id _ _ h2 _ => ho.old id h2
theorem OwnZ.one {lo : Nat} {H : AHeap} {e : TypeId} {z n : Nat} {v : AVal} {cs : List AVal} (h : OwnZ lo H e z v n cs) : v.one = true := by
  rcases h with ⟨rfl, _⟩ | ⟨_, _, _, _, rfl, _⟩ <;> rfl
theorem OwnZ.cells {lo : Nat} {H : AHeap} {e : TypeId} {z n : Nat} {v : AVal} {cs : List AVal} (h : OwnZ lo H e z v n cs) : v.cells = [v] := by
  rcases h with ⟨rfl, _⟩ | ⟨_, _, _, _, rfl, _⟩ <;> rfl
theorem OwnZ.ne {lo : Nat} {H : AHeap} {e : TypeId} {z m : Nat} {v : AVal} {cs : List AVal} (h : OwnZ lo H e z v m cs) {k : Nat} (hk : k < lo) : ∀ g n, v ≠ .own k g 0 n z := fun g n he => by
  rcases h with ⟨h, _⟩ | ⟨i2, g2, a1, _, h, _⟩
  · rw [h] at he; cases he
  · rw [h] at he; have := AVal.own.inj he; omega
end Go.Hx
namespace Go.Proofs
open Go.Hx
def rowsE (x : NodeP) : AVal := if x.rows = [] then .lit (.slice none 0 0) else vecV x.rows
structure NodesQ (e : Nat → Prop) (ns : List NodeP) (cs : List AVal) : Prop where
  len : cs.length = ns.length * 3
  node : ∀ (v : Nat) (x : NodeP), ns[v]? = some x → ∃ rv, cs[v * 3]? = some (lin x.card) ∧ cs[v * 3 + 1]? = some (vecI x.parents) ∧ cs[v * 3 + 2]? = some rv ∧ (rv = vecV x.rows ∨ rv = rowsE x) ∧ (e v → rv = rowsE x)
theorem NodesQ.c0 {e : Nat → Prop} {ns : List NodeP} {cs : List AVal} (h : NodesQ e ns cs) {v : Nat} {x : NodeP} (hx : ns[v]? = some x) : cs[v * 3]? = some (lin x.card) := (h.node v x hx).elim fun _ h => h.1
theorem NodesQ.c1 {e : Nat → Prop} {ns : List NodeP} {cs : List AVal} (h : NodesQ e ns cs) {v : Nat} {x : NodeP} (hx : ns[v]? = some x) : cs[v * 3 + 1]? = some (vecI x.parents) := (h.node v x hx).elim fun _ h => h.2.1
theorem NodesQ.ne {e : Nat → Prop} {ns : List NodeP} {cs : List AVal} (h : NodesQ e ns cs) {v : Nat} {x : NodeP} (hx : ns[v]? = some x) : ¬ cs = [] := fun he => by
  have := h.c0 hx; rw [he] at this; simp at this
theorem NodesQ.part {e : Nat → Prop} {ns : List NodeP} {cs : List AVal} (h : NodesQ e ns cs) {v : Nat} {x : NodeP} (hx : ns[v]? = some x) : ∃ rv, (cs.drop (v * 3)).take 3 = [lin x.card, vecI x.parents, rv] ∧ cs[v * 3 + 2]? = some rv ∧ (rv = vecV x.rows ∨ rv = rowsE x) ∧ (e v → rv = rowsE x) := by
  obtain ⟨rv, a, b, c, d, f⟩ := h.node v x hx
  refine ⟨rv, ?_, c, d, f⟩
  have h3 := get_lt c
  rw [List.drop_eq_getElem_cons (by omega), List.drop_eq_getElem_cons (by omega), List.drop_eq_getElem_cons (by omega)]
  simp only [List.take_succ_cons, List.take_zero]
  rw [List.getElem?_eq_getElem (by omega)] at a b c
  rw [Option.some.inj a, Option.some.inj b, Option.some.inj c]
theorem NodesQ.nil {e : Nat → Prop} : NodesQ e [] [] := ⟨rfl, fun v x hx => by simp at hx⟩
theorem NodesQ.mono {e e' : Nat → Prop} {ns : List NodeP} {cs : List AVal} (h : NodesQ e ns cs) (he : ∀ v, e' v → e v) : NodesQ e' ns cs := ⟨h.len, fun v x hx => by
  obtain ⟨r, a, b, c, d, f⟩ := h.node v x hx
  exact ⟨r, a, b, c, d, fun h => f (he v h)⟩⟩
structure UtilOk (ns : List NodeP) (u : UtilP) : Prop where
  vars : PlacesOk u.vars ns.length
  size : (u.w.length : Int) = prodL (atL (cardsL ns) u.vars)
  w : ∀ x ∈ u.w, -100 ≤ x ∧ x ≤ 100
def UtilsOk (d : InfP) : Prop := d.utils.length ≤ 4 ∧ ∀ u ∈ d.utils, UtilOk d.nodes u
structure InfOk (d : InfP) : Prop where
  n : RightN d
  net : NetOk d.grain (fillL d fun _ _ => 0)
  utils : UtilsOk d
structure PolOk (d : InfP) (p : List (List Int)) : Prop where
  len : p.length = (decL d).length
  row : ∀ (k v : Nat) (x : NodeP) (l : List Int), (decL d)[k]? = some v → d.nodes[v]? = some x → p[k]? = some l → l.length = rowsN d.nodes x ∧ ∀ a ∈ l, 0 ≤ a ∧ a < x.card
end Go.Proofs
