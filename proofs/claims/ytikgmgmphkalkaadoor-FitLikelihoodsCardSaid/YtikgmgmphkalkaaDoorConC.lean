/- Own work: contracts. -/
import Derived.Test.YtikgmgmphkalkaaDoorConB
set_option linter.all false
set_option maxRecDepth 100000
namespace Go.Proofs
open Go.Hx
def RowOk (g card : Int) (r : List Int) : Prop := (r.length : Int) = card ∧ (∀ w ∈ r, 0 ≤ w ∧ w ≤ g) ∧ r.sum = g
def NodeOk (g : Int) (ns : List NodeP) (x : NodeP) : Prop := (x.rows.length : Int) = prodL (parC ns x) ∧ ∀ r ∈ x.rows, RowOk g x.card r
structure NetOk (g : Int) (ns : List NodeP) : Prop where
  g1 : 1 ≤ g ∧ g ≤ 60
  n1 : 1 ≤ ns.length ∧ ns.length ≤ 8
  node : ∀ x ∈ ns, (1 ≤ x.card ∧ x.card ≤ 4) ∧ PlacesOk x.parents ns.length
  size : prodL (cardsL ns) ≤ 1024
  acyc : AcycB (setsL ns)
  rows : ∀ x ∈ ns, NodeOk g ns x
noncomputable def netB (g : Int) (ns : List NodeP) : Bool := @decide (NetOk g ns) (Classical.propDecidable _)
theorem netB_true {g : Int} {ns : List NodeP} (h : NetOk g ns) : netB g ns = true := by unfold netB; exact @decide_eq_true _ (Classical.propDecidable _) h
theorem netB_false {g : Int} {ns : List NodeP} (h : ¬ NetOk g ns) : netB g ns = false := by unfold netB; exact @decide_eq_false _ (Classical.propDecidable _) h
theorem netB_iff {g : Int} {ns : List NodeP} : netB g ns = true ↔ NetOk g ns := by unfold netB; exact @decide_eq_true_iff _ (Classical.propDecidable _)
def NetFit (ns : List NodeP) : Prop := (ns.length : Int) < 2 ^ 38 ∧ ∀ x ∈ ns, (x.parents.length : Int) < 2 ^ 38 ∧ (x.rows.length : Int) < 2 ^ 38 ∧ ∀ r ∈ x.rows, (r.length : Int) < 2 ^ 38
theorem smallC_of {l : List Int} (h : l.length ≤ 12) (h2 : ∀ x ∈ l, 1 ≤ x ∧ x ≤ 4) : SmallC l := ⟨h, fun x hx => by have := h2 x hx; omega⟩
theorem parC_mem {ns : List NodeP} {x : NodeP} (hin : InRange x.parents ns.length) (hc : ∀ y ∈ ns, 1 ≤ y.card ∧ y.card ≤ 4) : ∀ c ∈ parC ns x, 1 ≤ c ∧ c ≤ 4 := fun c h => by
  unfold parC atL at h
  obtain ⟨q, hq, rfl⟩ := List.mem_map.1 h
  obtain ⟨j, rfl, y, hy⟩ := get_of_int (l := ns) (hin q hq).1 (hin q hq).2
  rw [Int.toNat_natCast, getD_of_get (cards_get hy)]
  exact hc y (List.mem_of_getElem? hy)
theorem parC_small {ns : List NodeP} {x : NodeP} (h8 : ns.length ≤ 8) (hp : PlacesOk x.parents ns.length) (hc : ∀ y ∈ ns, 1 ≤ y.card ∧ y.card ≤ 4) : SmallC (parC ns x) := by
  refine smallC_of ?_ (parC_mem (fun q hq => by have := hp.2 q hq; omega) hc)
  rw [show (parC ns x).length = _ from atL_len _ _]
  have := hp.len; omega
theorem setsL_lt {ns : List NodeP} {n : Nat} (h : ∀ x ∈ ns, ∀ q ∈ x.parents, 0 ≤ q ∧ q < (n : Int)) : ∀ p ∈ setsL ns, p < 2 ^ n := fun p hp => by
  obtain ⟨x, hx, rfl⟩ := List.mem_map.1 hp
  exact setN_lt fun q hq => by have := h x hx q hq; omega
theorem sum_snoc (l : List Int) (x : Int) : (l ++ [x]).sum = l.sum + x := by simp

set_option maxHeartbeats 2000000 in
theorem right05_spec (g : Int) (ns : List NodeP) (hf : NetFit ns) (H : AHeap) (K : ARes → AHeap → Prop) (hK : K (.ret (.lit (.bool (netB g ns)))) H) : ACall Tryd.prog G0 33 [netV g ns] H K := by
  refine ACall.clo ⟨_, Tryd.func33, rfl, rfl⟩ fun hcl => ?_
  have no : ¬ NetOk g ns → ∀ H', Over H H' → FinV Tryd.prog G0 H K (.lit (.bool false)) H' := fun h H' ov => FinV.dropO G0_ok hcl ov (.lit _) (by rw [netB_false h] at hK; exact hK)
  refine ACall.of_body (n := 154) (rs := [.tmp 2]) Tryd.func33 rfl rfl rfl (by decide) (by kernel_rfl) (by simp) ?_
  simp (config := { maxSteps := 1000000 }) only [go_sem, netV, nodesV, appendA_U]
  obtain ⟨H1, hH1⟩ : ∃ H1, H1 = ext H [.arr 0 61 [.lit (.int .i64 g), .vec ns.length (nodesC ns)]] := ⟨_, rfl⟩
  have l1 : H1.live H.next 0 = some (61, [.lit (.int .i64 g), .vec ns.length (nodesC ns)]) := by rw [hH1]; exact get_live (get_ext0 ..)
  have n1 : H1.next = H.next + 1 := by rw [hH1]; rfl
  have o1 : Over H H1 := by rw [hH1]; exact .ext _ _
  rw [← hH1]
  by_cases c1 : g < 1
  · simp (config := { maxSteps := 1000000 }) only [go_sem, l1, c1, guardA_undef, appendA_U]
    exact no (fun h => by have := h.g1; omega) _ o1
  by_cases c2 : g > 60
  · simp (config := { maxSteps := 1000000 }) only [go_sem, l1, c1, c2, guardA_undef, appendA_U]
    exact no (fun h => by have := h.g1; omega) _ o1
  by_cases c3 : (ns.length : Int) < 1
  · simp (config := { maxSteps := 1000000 }) only [go_sem, l1, c1, c2, c3, guardA_undef, appendA_U]
    exact no (fun h => by have := h.n1; omega) _ o1
  by_cases c4 : (ns.length : Int) > 8
  · simp (config := { maxSteps := 1000000 }) only [go_sem, l1, c1, c2, c3, c4, guardA_undef, appendA_U]
    exact no (fun h => by have := h.n1; omega) _ o1
  simp (config := { maxSteps := 1000000 }) only [go_sem, l1, c1, c2, c3, c4, guardA_undef, appendA_U]
  refine W.loop0 18446744071562068028 (by rfl) (fun ρ H' => ∃ k : Nat, ρ 4 = lin k ∧ k ≤ ns.length ∧ Over H1 H' ∧ (∀ x ∈ ns.take k, (1 ≤ x.card ∧ x.card ≤ 4) ∧ PlacesOk x.parents ns.length) ∧ ρ 3 = lin (prodL ((cardsL ns).take k))) (fun ρ H => ns.length - (iv (ρ 4)).toNat) ?_ ?_
  · simp (config := { maxSteps := 1000000 }) only [go_sem, appendA_U]
    exact ⟨0, rfl, by omega, .refl _, by simp, by simp [prodL_nil]⟩
  · rintro ρ H' ⟨k, h4, hk, ov, hall, h3⟩
    refine vc_sound _ _ _ (by rfl) ?_
    have l2 := (ov.live (g := 0) (by omega : H.next < H1.next)).trans l1
    have hlt : H.next < H'.next := by have := ov.next; omega
    have l3 : ∀ L, (ext H' L).live H.next 0 = _ := fun L => (ext_live_old hlt).trans l2
    by_cases hb : (k : Int) < ns.length
    · obtain ⟨x, hx⟩ := get_of_lt (l := ns) (i := k) (by omega)
      have hxm := List.mem_of_getElem? hx
      have hne := nodesC_ne hx
      have e0 := nodesC_part hx
      have e1 : k * 3 + 3 ≤ (nodesC ns).length := by rw [nodesC_len]; omega
      have nb : ¬ H.next = H'.next := by omega
      have ove : ∀ L, Over H (ext H' L) := fun L => (o1.trans ov).trans (.ext _ _)
      by_cases d1 : x.card < 1
      · simp (config := { maxSteps := 1000000 }) only [go_sem, h4, l2, l3, hb, hne, e0, e1, d1, guardA_undef, appendA_U]
        exact no (fun h => by have := (h.node x hxm).1; omega) _ (ove _)
      by_cases d2 : x.card > 4
      · simp (config := { maxSteps := 1000000 }) only [go_sem, h4, l2, l3, hb, hne, e0, e1, d1, d2, guardA_undef, appendA_U]
        exact no (fun h => by have := (h.node x hxm).1; omega) _ (ove _)
      simp (config := { maxSteps := 1000000 }) only [go_sem, h4, l2, l3, hb, hne, e0, e1, d1, d2, guardA_undef, appendA_U]
      refine AApply.clo (places_spec x.parents ns.length (by have := (hf.2 x hxm).1; omega) _ _ ⟨trivial, ?_⟩)
      by_cases d3 : PlacesOk x.parents ns.length
      rotate_left
      · simp (config := { maxSteps := 1000000 }) only [go_sem, d3, appendA_U]
        exact no (fun h => d3 (h.node x hxm).2) _ (ove _)
      have hall' : ∀ y ∈ ns.take (k + 1), (1 ≤ y.card ∧ y.card ≤ 4) ∧ PlacesOk y.parents ns.length := fun y hy => by
        rw [take_succ_get hx] at hy
        rcases List.mem_append.1 hy with hy | hy
        · exact hall y hy
        · obtain rfl := List.mem_singleton.1 hy; exact ⟨by omega, d3⟩
      have b1 : SmallC ((cardsL ns).take (k + 1)) := smallC_of (by simp [cardsL]; omega) fun c hc => by
        rw [show (cardsL ns).take (k + 1) = cardsL (ns.take (k + 1)) by simp [cardsL]] at hc
        obtain ⟨y, hy, rfl⟩ := List.mem_map.1 hc
        exact (hall' y hy).1
      have b2 := b1.prod
      rw [take_succ_get (cards_get hx), prodL_snoc] at b2
      have w1 := IntWalk.i64_in ((k : Int) + 1) (by omega)
      have w2 := IntWalk.i64_in (prodL ((cardsL ns).take k) * x.card) (by omega)
      simp (config := { maxSteps := 1000000 }) only [go_sem, h4, h3, l2, l3, hb, hne, d3, w1, w2, appendA_U]
      exact ⟨by have := ov.next; omega, ⟨k + 1, by simp, by omega, ov.trans (.ext _ _), fun y hy => hall' y hy, by rw [take_succ_get (cards_get hx), prodL_snoc]⟩, by omega⟩
    · have ek : k = ns.length := by omega
      subst ek
      rw [List.take_of_length_le (Nat.le_refl _)] at hall
      rw [List.take_of_length_le (by rw [cards_len]; omega)] at h3
      have hcards : ∀ y ∈ ns, 1 ≤ y.card ∧ y.card ≤ 4 := fun y hy => (hall y hy).1
      have ov0 := o1.trans ov
      by_cases c5 : prodL (cardsL ns) > 1024
      · simp (config := { maxSteps := 1000000 }) only [go_sem, h4, h3, l2, l3, hb, c5, guardA_undef, appendA_U]
        exact no (fun h => by have := h.size; omega) _ ov0
      simp (config := { maxSteps := 1000000 }) only [go_sem, h4, h3, l2, l3, hb, c5, guardA_undef, appendA_U]
      have hpl : ∀ x ∈ ns, (x.parents.length : Int) < 2 ^ 39 ∧ ∀ q ∈ x.parents, 0 ≤ q ∧ q < 64 := fun x hx => ⟨by have := (hf.2 x hx).1; omega, fun q hq => by have := (hall x hx).2.2 q hq; omega⟩
      refine AApply.clo (parentSets_spec g ns (by have := hf.1; omega) hpl _ _ ⟨trivial, ?_⟩)
      simp (config := { maxSteps := 1000000 }) only [go_sem, appendA_U]
      refine AApply.clo (acyclic_spec (setsL ns) (by simp [setsL]; omega) (fun p hp => Nat.lt_of_lt_of_le (setsL_lt (n := 64) (fun x hx q hq => by have := (hpl x hx).2 q hq; omega) p hp) (Nat.le_refl _)) _ _ ⟨trivial, ?_⟩)
      cases hac : acycB (setsL ns)
      · simp (config := { maxSteps := 1000000 }) only [go_sem, appendA_U]
        exact no (fun h => by rw [(acycB_iff _).2 h.acyc] at hac; cases hac) _ ov0
      simp (config := { maxSteps := 1000000 }) only [go_sem, appendA_U]
      refine W.loop0 22835963083295358096932570788825439312478734276 (by rfl) (fun ρ' H2 => ∃ k : Nat, ρ' 6 = lin k ∧ k ≤ ns.length ∧ Over H' H2 ∧ ∀ x ∈ ns.take k, NodeOk g ns x) (fun ρ' H => ns.length - (iv (ρ' 6)).toNat) ?_ ?_
      · simp (config := { maxSteps := 1000000 }) only [go_sem, appendA_U]
        exact ⟨0, rfl, by omega, .refl _, by simp⟩
      rintro ρ' H2 ⟨k, h6, hk, ov2', hrows⟩
      have ov2 := ov.trans ov2'
      refine vc_sound _ _ _ (by rfl) ?_
      have l2 := (ov2.live (g := 0) (by omega : H.next < H1.next)).trans l1
      have hlt : H.next < H2.next := by have := ov2.next; omega
      by_cases hb : (k : Int) < ns.length
      rotate_left
      · simp (config := { maxSteps := 1000000 }) only [go_sem, h6, l2, hb, appendA_U]
        rw [List.take_of_length_le (by omega)] at hrows
        rw [netB_true ⟨by omega, by omega, hall, by omega, (acycB_iff _).1 hac, hrows⟩] at hK
        exact FinV.dropO G0_ok hcl (o1.trans ov2) (.lit _) hK
      obtain ⟨x, hx⟩ := get_of_lt (l := ns) (i := k) (by omega)
      have hxm := List.mem_of_getElem? hx
      have hne := nodesC_ne hx
      have e0 := nodesC_part hx
      have e1 : k * 3 + 3 ≤ (nodesC ns).length := by rw [nodesC_len]; omega
      obtain ⟨x1, x2⟩ := hall x hxm
      obtain ⟨f1, f2, f3⟩ := hf.2 x hxm
      have sm := parC_small (by omega) x2 hcards
      simp (config := { maxSteps := 1000000 }) only [go_sem, h6, l2, hb, hne, e0, e1, appendA_U]
      obtain ⟨H3, hH3⟩ : ∃ H3, H3 = ext H2 [.arr 0 91 [.lit (.int .i64 x.card), .vec x.parents.length (ints x.parents), vecV x.rows]] := ⟨_, rfl⟩
      have m1 : H3.live H2.next 0 = some (91, [.lit (.int .i64 x.card), .vec x.parents.length (ints x.parents), vecV x.rows]) := by rw [hH3]; exact get_live (get_ext0 ..)
      have m2 : H3.live H.next 0 = some (61, [.lit (.int .i64 g), .vec ns.length (nodesC ns)]) := by rw [hH3, ext_live_old hlt]; exact l2
      have m3 : H3.next = H2.next + 1 := by rw [hH3]; rfl
      have ov3 : Over H1 H3 := by rw [hH3]; exact ov2.trans (.ext _ _)
      have ov4 : Over H H3 := o1.trans ov3
      rw [← hH3]
      refine W.draw 7 [0, 1, 3, 0, 0, 24, 56] Tryd.mixed (by kernel_rfl) (by kernel_rfl) ?_
      simp (config := { maxSteps := 1000000 }) only [go_sem, h6, m1, m2, vecV, appendA_U]
      refine ⟨vecI (parC ns x), [], PCall.pure fun H2 => parentCards_spec g ns k x hx (by have := hf.1; omega) (by omega) (fun q hq => by have := x2.2 q hq; omega) H2 _ ⟨rfl, rfl⟩, ?_⟩
      simp (config := { maxSteps := 1000000 }) only [go_sem, appendA_U]
      refine ⟨lin (prodL (parC ns x)), [], PCall.pure fun H2 => size02_spec (parC ns x) sm H2 _ ⟨rfl, rfl⟩, ?_⟩
      by_cases d1 : (x.rows.length : Int) = prodL (parC ns x)
      rotate_left
      · simp (config := { maxSteps := 1000000 }) only [go_sem, d1, appendA_U]
        exact no (fun h => d1 (h.rows x hxm).1) _ ov4
      simp (config := { maxSteps := 1000000 }) only [go_sem, d1, appendA_U]
      refine W.loop0 22835963083295358091980815354050401082527450884 (by rfl) (fun ρ2 H4 => H4 = H3 ∧ ∃ j : Nat, ρ2 8 = lin j ∧ j ≤ x.rows.length ∧ ∀ r ∈ x.rows.take j, RowOk g x.card r) (fun ρ2 H => x.rows.length - (iv (ρ2 8)).toNat) ?_ ?_
      · simp (config := { maxSteps := 1000000 }) only [go_sem, appendA_U]
        exact ⟨0, rfl, by omega, by simp⟩
      rintro ρ2 H4 ⟨rfl, j, h8, hj, hrj⟩
      refine vc_sound _ _ _ (by rfl) ?_
      by_cases hb2 : (j : Int) < x.rows.length
      rotate_left
      · have w1 := IntWalk.i64_in ((k : Int) + 1) (by omega)
        have hb2' : ¬ (j : Int) < prodL (parC ns x) := by omega
        simp (config := { maxSteps := 1000000 }) only [go_sem, h6, h8, m1, m2, hb2, hb2', d1, w1, vecV, appendA_U]
        rw [List.take_of_length_le (by omega)] at hrj
        refine ⟨by have := ov2'.next; omega, ⟨k + 1, by simp, by omega, by rw [hH3]; exact ov2'.trans (.ext _ _), fun y hy => ?_⟩, by omega⟩
        rw [take_succ_get hx] at hy
        rcases List.mem_append.1 hy with hy | hy
        · exact hrows y hy
        · obtain rfl := List.mem_singleton.1 hy; exact ⟨d1, hrj⟩
      obtain ⟨r, hr⟩ := get_of_lt (l := x.rows) (i := j) (by omega)
      have hrm := List.mem_of_getElem? hr
      have hrne := ne_of_get hr
      have hb2' : (j : Int) < prodL (parC ns x) := by omega
      have nope : ¬ RowOk g x.card r → ¬ NetOk g ns := fun h h' => h ((h'.rows x hxm).2 r hrm)
      simp (config := { maxSteps := 1000000 }) only [go_sem, h8, m1, m2, hb2, hb2', d1, vecV, appendA_U]
      refine W.draw 8 [0, 1, 0, 7, 15, 31, 0, 64] Tryd.mixed (by kernel_rfl) (by kernel_rfl) ?_
      by_cases d2 : (r.length : Int) = x.card
      rotate_left
      · simp (config := { maxSteps := 1000000 }) only [go_sem, h8, m1, m2, hb2, hb2', d1, d2, hr, hrne, vecV, appendA_U]
        exact no (nope fun h => d2 h.1) _ ov4
      simp (config := { maxSteps := 1000000 }) only [go_sem, h8, m1, m2, hb2, hb2', d1, d2, hr, hrne, vecV, appendA_U]
      refine W.loop0 1427247692705635362504627542722711980362171908 (by rfl) (fun ρ3 H5 => H5 = H4 ∧ ∃ i : Nat, ρ3 10 = lin i ∧ i ≤ r.length ∧ ρ3 9 = lin (r.take i).sum ∧ ∀ w ∈ r.take i, 0 ≤ w ∧ w ≤ g) (fun ρ3 H => r.length - (iv (ρ3 10)).toNat) ?_ ?_
      · simp (config := { maxSteps := 1000000 }) only [go_sem, appendA_U]
        exact ⟨0, rfl, by omega, by simp, by simp⟩
      rintro ρ3 H5 ⟨rfl, i, h10, hi, h9, hw⟩
      refine vc_sound _ _ _ (by rfl) ?_
      have sb : 0 ≤ (r.take i).sum ∧ (r.take i).sum ≤ 60 * i := by
        have key : ∀ l : List Int, (∀ w ∈ l, 0 ≤ w ∧ w ≤ g) → 0 ≤ l.sum ∧ l.sum ≤ 60 * l.length := by
          intro l
          induction l with
          | nil => intro _; simp
          | cons a l ih =>
            intro h
            have h1 := ih fun w hw => h w (by simp [hw])
            have h2 := h a (by simp)
            simp only [List.sum_cons, List.length_cons]
            push_cast
            omega
        have := key _ hw
        rw [List.length_take, Nat.min_eq_left (by omega)] at this
        exact this
      have r4 : r.length ≤ 4 := by omega
      by_cases hb3 : (i : Int) < r.length <;> have hb3' := hb3 <;> rw [d2] at hb3'
      rotate_left
      · rw [List.take_of_length_le (by omega)] at h9 hw
        by_cases d3 : r.sum = g
        rotate_left
        · simp (config := { maxSteps := 1000000 }) only [go_sem, h8, h9, h10, m1, m2, hb3, hb3', hr, hrne, hb2, hb2', d1, d2, d3, vecV, appendA_U]
          exact no (nope fun h => d3 h.2.2) _ ov4
        have w1 := IntWalk.i64_in ((j : Int) + 1) (by have := (hf.2 x hxm).2.1; omega)
        simp (config := { maxSteps := 1000000 }) only [go_sem, h8, h9, h10, m1, m2, hb3, hb3', hr, hrne, hb2, hb2', d1, d2, d3, w1, vecV, appendA_U]
        refine ⟨⟨j + 1, by simp, by omega, fun y hy => ?_⟩, by omega⟩
        rw [take_succ_get hr] at hy
        rcases List.mem_append.1 hy with hy | hy
        · exact hrj y hy
        · obtain rfl := List.mem_singleton.1 hy; exact ⟨d2, hw, d3⟩
      obtain ⟨a, ha⟩ := get_of_lt (l := r) (i := i) (by omega)
      have ham := List.mem_of_getElem? ha
      have hane := ne_of_get ha
      simp (config := { maxSteps := 1000000 }) only [go_sem, h8, h10, m1, m2, hr, hrne, hb2, hb2', hb3, hb3', d1, d2, vecV, appendA_U]
      refine W.draw 20 [0, 1, 0, 7, 15, 0, 63, 127, 255, 511, 1023, 2047, 1023, 8191, 16383, 1023, 65535, 131071, 1023, 263167] Tryd.mixed (by kernel_rfl) (by kernel_rfl) ?_
      by_cases d3 : a < 0
      · simp (config := { maxSteps := 1000000 }) only [go_sem, h8, h10, m1, m2, hr, hrne, hb2, hb2', hb3, hb3', ha, hane, d1, d2, d3, vecV, guardA_undef, appendA_U]
        exact no (nope fun h => by have := h.2.1 a ham; omega) _ ov4
      by_cases d4 : a > g
      · simp (config := { maxSteps := 1000000 }) only [go_sem, h8, h10, m1, m2, hr, hrne, hb2, hb2', hb3, hb3', ha, hane, d1, d2, d3, d4, vecV, guardA_undef, appendA_U]
        exact no (nope fun h => by have := h.2.1 a ham; omega) _ ov4
      have w1 := IntWalk.i64_in ((i : Int) + 1) (by omega)
      have w2 := IntWalk.i64_in ((r.take i).sum + a) (by omega)
      simp (config := { maxSteps := 1000000 }) only [go_sem, h8, h9, h10, m1, m2, hr, hrne, hb2, hb2', hb3, hb3', ha, hane, d1, d2, d3, d4, w1, w2, vecV, guardA_undef, appendA_U]
      refine ⟨⟨i + 1, by simp, by omega, by rw [take_succ_get ha, sum_snoc], fun w hw' => ?_⟩, by omega⟩
      rw [take_succ_get ha] at hw'
      rcases List.mem_append.1 hw' with hw' | hw'
      · exact hw w hw'
      · obtain rfl := List.mem_singleton.1 hw'; exact ⟨by omega, by omega⟩
end Go.Proofs
namespace Go.Hx
variable {P : Program} {G : Nat → Option (List AVal)} {n : Nat} {rd : Option Nat} {Q : AX → St → Prop}

def ItSpec (P : Program) (G : Nat → Option (List AVal)) (f : FuncId) (first cap : List AVal) (xs : List (List AVal)) (S : AHeap → Prop) : Prop :=
  ∀ (idy : Nat) (J : Nat → AHeap → Prop) (Stop : AHeap → Prop) (H : AHeap) (K : ARes → AHeap → Prop),
    (∀ k H1, J k H1 → S H1) → J 0 H →
    (∀ k x H1 K1, xs[k]? = some x → J k H1 → H.next ≤ H1.next → (∀ H', J (k + 1) H' → H1.next ≤ H'.next → K1 (.ret (.lit (.bool true))) H') → (∀ H', Stop H' → H1.next ≤ H'.next → K1 (.ret (.lit (.bool false))) H') → AApply P G (.yld idy) x H1 K1) →
    (∀ H', J xs.length H' → H.next ≤ H'.next → K (.ret (.tup [])) H') →
    (∀ H', Stop H' → H.next ≤ H'.next → K (.ret (.tup [])) H') →
    ACall P G f (first ++ [.yld idy] ++ cap) H K

def bodyIt (idy : Nat) (B : Blk) (lo : Nat) (J : AHeap → Prop) (Stop : AX → AHeap → Prop) : AX → St → Prop
  | .normal, s => s.H.get idy = some B ∧ lo ≤ s.H.next ∧ J s.H
  | .ret, s => s.H.get idy = some B ∧ lo ≤ s.H.next ∧ Stop .ret s.H
  | .exit i, s => s.H.get idy = some B ∧ lo ≤ s.H.next ∧ Stop (.exit i) s.H
  | _, _ => False
def asgIt (P : Program) (G : Nat → Option (List AVal)) (n idy : Nat) (B Bb : Blk) (lo : Nat) (body : Code) (J : AHeap → Prop) (Stop : AX → AHeap → Prop) : AX → St → Prop
  | .normal, s => s.H.get idy = some B ∧ W P G n (some idy) body (bodyIt idy Bb lo J Stop) ⟨s.ρ, s.H.upd idy Bb⟩
  | _, _ => False

theorem W.rangeIt {g : Operand} {ps : Array Tmp} {asg body : Code} {ρ : Env} {H : AHeap} {f : FuncId} {first cap : List AVal} {xs : List (List AVal)} {S : AHeap → Prop} (hg : evA G ρ g = .clo f first cap)
    (hit : ItSpec P G f first cap xs S) (J : Nat → AHeap → Prop) (Stop : AX → AHeap → Prop) (hS : ∀ k H1, J k H1 → S H1)
    (hJu : ∀ k H1 b, J k H1 → J k (H1.upd H.next b)) (hSu : ∀ c H1 b, Stop c H1 → Stop c (H1.upd H.next b))
    (hJ0 : ∀ b, J 0 (ext H [b])) (hps : ps.toList.all (fun t => decide (t < n)) = true) (hxl : ∀ x ∈ xs, x.length = ps.size)
    (hrd : ∀ k H1, J k H1 → RdIn H1 rd) (hrd2 : ∀ c H1, Stop c H1 → RdIn H1 rd)
    (hround : ∀ k x H1 B Bb, xs[k]? = some x → J k H1 → H.next + 1 ≤ H1.next → H1.get H.next = some B → (∃ st pd n' en ps' as' bo, Bb = Blk.loop st pd n' en ps' as' bo) →
      W P G n (some H.next) asg (asgIt P G n H.next B Bb H1.next body (J (k + 1)) Stop) ⟨setPs (envN ρ n) (ps.toList.zip x), H1⟩)
    (hend : ∀ H', J xs.length H' → H.next + 1 ≤ H'.next → Q .normal ⟨ρ, H'⟩)
    (hret : ∀ H', Stop .ret H' → H.next + 1 ≤ H'.next → Q .ret ⟨ρ, H'⟩) (hexit : ∀ i H', Stop (.exit i) H' → H.next + 1 ≤ H'.next → Q (.exit i) ⟨ρ, H'⟩) :
    W P G n rd (.rangeFunc g ps asg body) Q ⟨ρ, H⟩ := by
  refine W.rangeFunc (s := ⟨ρ, H⟩) hg ⟨_, lay_next _ _, ?_⟩
  obtain ⟨B, hB⟩ : ∃ B, B = Blk.loop .ready none n ρ ps asg body := ⟨_, rfl⟩
  obtain ⟨Bb, hBb⟩ : ∃ B, B = Blk.loop .busy none n ρ ps asg body := ⟨_, rfl⟩
  have nx : (ext H [B]).next = H.next + 1 := rfl
  show ACall P G f (first ++ [.yld H.next] ++ cap) (ext H [Blk.loop .ready none n ρ ps asg body]) (rangeQ rd Q ρ H.next)
  rw [← hB]
  refine hit H.next (fun k H1 => H1.get H.next = some B ∧ J k H1) (fun H1 => ∃ c pend, H1.get H.next = some (.loop .done (some pend) n ρ ps asg body) ∧ Stop c H1 ∧ ((c = .ret ∧ pend = .ret) ∨ ∃ i, c = .exit i ∧ pend = .exit i)) _ _
    (fun k H1 h => hS k H1 h.2) ⟨ext1_get_new, hJ0 B⟩ (fun k x H1 K1 hx hj hn hgo hst => ?_) (fun H' hj hn => ?_) (fun H' hj hn => ?_)
  · have hxm := hxl x (List.mem_of_getElem? hx)
    refine AApply.yld (hj.1.trans (congrArg some hB)) hxm hps ?_
    refine (hround k x H1 B Bb hx hj.2 hn hj.1 ⟨_, _, _, _, _, _, _, hBb⟩).mono fun e s1 h1 => ?_
    cases e with
    | normal =>
      obtain ⟨a1, a2⟩ := h1
      refine ⟨Bb, by rw [a1, hB, hBb]; rfl, ?_⟩
      refine a2.mono fun e2 s2 h2 => ?_
      cases e2 with
      | normal =>
        obtain ⟨b1, b2, b3⟩ := h2
        exact ⟨B, by rw [b1, hB, hBb]; rfl, hgo _ ⟨by rw [upd_get, if_pos rfl], hJu _ _ _ b3⟩ b2⟩
      | ret =>
        obtain ⟨b1, b2, b3⟩ := h2
        exact ⟨.loop .done (some .ret) n ρ ps asg body, by rw [b1, hBb]; rfl, hst _ ⟨.ret, .ret, by rw [upd_get, if_pos rfl], hSu _ _ _ b3, .inl ⟨rfl, rfl⟩⟩ b2⟩
      | exit i =>
        obtain ⟨b1, b2, b3⟩ := h2
        exact ⟨.loop .done (some (.exit i)) n ρ ps asg body, by rw [b1, hBb]; rfl, hst _ ⟨.exit i, .exit i, by rw [upd_get, if_pos rfl], hSu _ _ _ b3, .inr ⟨i, rfl, rfl⟩⟩ b2⟩
      | _ => exact h2.elim
    | _ => exact h1.elim
  · refine ⟨hrd _ _ hj.2, (none, .loop .exhausted none n ρ ps asg body), by rw [hj.1, hB]; rfl, ?_⟩
    exact hend _ (hJu _ _ _ hj.2) hn
  · obtain ⟨c, pend, h1, h2, h3⟩ := hj
    refine ⟨hrd2 _ _ h2, (some pend, .loop .exhausted (some pend) n ρ ps asg body), by rw [h1]; rfl, ?_⟩
    rcases h3 with ⟨rfl, rfl⟩ | ⟨i, rfl, rfl⟩
    · exact hret _ (hSu _ _ _ h2) hn
    · exact hexit i _ (hSu _ _ _ h2) hn
end Go.Hx
namespace Go.Proofs
open Go.Hx
def nodeV (x : NodeP) : AVal := .agg [.lit (.int .i64 x.card), .vec x.parents.length (ints x.parents), vecV x.rows]
def rowsX (rows : List (List Int)) : List (List AVal) := rows.zipIdx.map fun p => [lin p.2, vecI p.1]
theorem rowsX_get {rows : List (List Int)} {k : Nat} {x : List AVal} (h : (rowsX rows)[k]? = some x) : ∃ r, rows[k]? = some r ∧ x = [lin k, vecI r] := by
  unfold rowsX at h
  rw [List.getElem?_map, List.getElem?_zipIdx] at h
  cases hr : rows[k]? with
  | none => rw [hr] at h; simp at h
  | some r => rw [hr] at h; simp at h; exact ⟨r, rfl, h.symm⟩
theorem rowsX_of {rows : List (List Int)} {k : Nat} {r : List Int} (h : rows[k]? = some r) : (rowsX rows)[k]? = some [lin k, vecI r] := by
  unfold rowsX; rw [List.getElem?_map, List.getElem?_zipIdx, h]; simp
theorem rowsX_len (rows : List (List Int)) : (rowsX rows).length = rows.length := by simp [rowsX]
theorem rows_it (x : NodeP) (hl : (x.rows.length : Int) < 2 ^ 40) (b : Nat) : ItSpec Tryd.prog G0 116 [] [.ptr b 0 0] (rowsX x.rows) (fun H => H.get b = some (.arr 0 91 [.lit (.int .i64 x.card), .vec x.parents.length (ints x.parents), vecV x.rows])) := by
  intro idy J Stop H K hS hJ0 hY hK hSt
  have l0 := get_live (hS 0 H hJ0)
  show ACall _ _ _ ([.yld idy] ++ [.ptr b 0 0]) _ _
  refine ACall.of_body (n := 19) (rs := []) Tryd.func116 rfl rfl rfl (by decide) (by kernel_rfl) (by simp) ?_
  simp (config := { maxSteps := 1000000 }) only [go_sem, l0, vecV, appendA_U]
  refine W.loop0 524056 (by rfl) (fun ρ H' => ∃ k : Nat, ρ 8 = lin k ∧ k ≤ x.rows.length ∧ J k H' ∧ H.next ≤ H'.next) (fun ρ H => x.rows.length - (iv (ρ 8)).toNat) ?_ ?_
  · simp (config := { maxSteps := 1000000 }) only [go_sem, appendA_U]
    exact ⟨0, rfl, by omega, hJ0⟩
  rintro ρ H' ⟨k, h8, hk, hj, hn⟩
  refine vc_sound _ _ _ (by rfl) ?_
  by_cases hb : (k : Int) < x.rows.length
  · obtain ⟨r, hr⟩ := get_of_lt (l := x.rows) (i := k) (by omega)
    have hne := ne_of_get hr
    have w1 := IntWalk.i64_in ((k : Int) + 1) (by omega)
    simp (config := { maxSteps := 1000000 }) only [go_sem, h8, hb, hr, hne, appendA_U]
    refine hY k [lin k, vecI r] H' _ (rowsX_of hr) hj hn (fun H2 hj2 hn2 => ⟨trivial, ?_⟩) (fun H2 hs2 hn2 => ⟨trivial, ?_⟩)
    · simp (config := { maxSteps := 1000000 }) only [go_sem, h8, w1, appendA_U]
      exact ⟨by omega, ⟨k + 1, by simp, by omega, hj2, by omega⟩, by omega⟩
    · simp (config := { maxSteps := 1000000 }) only [go_sem, appendA_U]
      exact FinV.mk (by omega) (hSt H2 hs2 (by omega))
  · simp (config := { maxSteps := 1000000 }) only [go_sem, h8, hb, appendA_U]
    have ek : k = (rowsX x.rows).length := by rw [rowsX_len]; omega
    subst ek
    exact FinV.mk (by omega) (hK H' hj hn)
theorem rows_clo (x : NodeP) (H : AHeap) (K : ARes → AHeap → Prop) (hK : K (.ret (.clo 116 [] [.ptr H.next 0 0])) (ext H [.arr 0 91 [.lit (.int .i64 x.card), .vec x.parents.length (ints x.parents), vecV x.rows]])) :
    ACall Tryd.prog G0 114 [nodeV x] H K := by
  refine ACall.of_body (n := 4) (rs := [.tmp 2]) Tryd.func114 rfl rfl rfl (by decide) (by kernel_rfl) (by simp) ?_
  simp (config := { maxSteps := 1000000 }) only [go_sem, nodeV, appendA_U]
  exact FinV.mk (by simp [ext_next]) hK

theorem row_sum_bound {l : List Int} {g : Int} (h : ∀ w ∈ l, 0 ≤ w) : 0 ≤ l.sum := by
  induction l with
  | nil => simp
  | cons a l ih =>
    have h1 := ih fun w hw => h w (by simp [hw])
    have h2 := h a (by simp)
    simp only [List.sum_cons]; omega
theorem mem_le_sum {l : List Int} (h : ∀ w ∈ l, 0 ≤ w) : ∀ w ∈ l, w ≤ l.sum := by
  induction l with
  | nil => intro w hw; cases hw
  | cons a l ih =>
    intro w hw
    have h1 := row_sum_bound (g := 0) fun w hw => h w (List.mem_cons_of_mem a hw)
    have h2 := h a (by simp)
    simp only [List.sum_cons]
    rcases List.mem_cons.1 hw with rfl | hw
    · omega
    · have := ih (fun w hw => h w (by simp [hw])) w hw
      omega
noncomputable def nodeB (g : Int) (ns : List NodeP) (x : NodeP) : Bool := @decide (NodeOk g ns x) (Classical.propDecidable _)
theorem nodeB_true {g : Int} {ns : List NodeP} {x : NodeP} (h : NodeOk g ns x) : nodeB g ns x = true := by unfold nodeB; exact @decide_eq_true _ (Classical.propDecidable _) h
theorem nodeB_false {g : Int} {ns : List NodeP} {x : NodeP} (h : ¬ NodeOk g ns x) : nodeB g ns x = false := by unfold nodeB; exact @decide_eq_false _ (Classical.propDecidable _) h
theorem nodeB_iff {g : Int} {ns : List NodeP} {x : NodeP} : nodeB g ns x = true ↔ NodeOk g ns x := by unfold nodeB; exact @decide_eq_true_iff _ (Classical.propDecidable _)

set_option maxHeartbeats 2000000 in
theorem filledN_spec (g : Int) (hg : 1 ≤ g ∧ g ≤ 60) (ns : List NodeP) (sets : List Nat) (x : NodeP) (hin : InRange x.parents ns.length) (hsm : SmallC (parC ns x)) (hx1 : (x.rows.length : Int) < 2 ^ 38) (hx2 : ∀ r ∈ x.rows, (r.length : Int) < 2 ^ 38) (H : AHeap) (K : ARes → AHeap → Prop)
    (hK : K (.ret (.lit (.bool (nodeB g ns x)))) H) : ACall Tryd.prog G0 106 [.agg [.lit (.int .i64 g), nodesV ns, vecI (cardsL ns), vecB sets, .lit (.slice none 0 0)], nodeV x] H K := by
  refine ACall.clo ⟨_, Tryd.func106, rfl, rfl⟩ fun hcl => ?_
  have l12 := hsm.1
  have pl : (parC ns x).length = x.parents.length := atL_len _ _
  have no : ¬ NodeOk g ns x → ∀ H', Over H H' → FinV Tryd.prog G0 H K (.lit (.bool false)) H' := fun h H' ov => FinV.dropO G0_ok hcl ov (.lit _) (by rw [nodeB_false h] at hK; exact hK)
  refine ACall.of_body (n := 66) (rs := [.cell 4 4]) Tryd.func106 rfl rfl rfl (by decide) (by kernel_rfl) (by simp) ?_
  simp (config := { maxSteps := 1000000 }) only [go_sem, nodesV, nodeV, appendA_U]
  obtain ⟨H1, hH1⟩ : ∃ H1, H1 = ext H [.arr 0 153 [.lit (.int .i64 g), .vec ns.length (nodesC ns), .vec (cardsL ns).length (ints (cardsL ns)), .vec sets.length (sets.map bitV), .lit (.slice none 0 0)], .arr 0 91 [.lit (.int .i64 x.card), .vec x.parents.length (ints x.parents), vecV x.rows], .arr 0 4 [.lit (.bool false)]] := ⟨_, rfl⟩
  have l1 : H1.live H.next 0 = some (153, [.lit (.int .i64 g), .vec ns.length (nodesC ns), .vec (cardsL ns).length (ints (cardsL ns)), .vec sets.length (sets.map bitV), .lit (.slice none 0 0)]) := by rw [hH1]; exact get_live (get_ext0 ..)
  have l2 : H1.live (H.next + 1) 0 = some (91, [.lit (.int .i64 x.card), .vec x.parents.length (ints x.parents), vecV x.rows]) := by rw [hH1]; exact get_live (get_ext H _ 1 (by simp))
  have g3 : H1.get (H.next + 2) = some (.arr 0 4 [.lit (.bool false)]) := by rw [hH1]; exact get_ext H _ 2 (by simp)
  have n1 : H1.next = H.next + 3 := by rw [hH1]; rfl
  have o1 : Over H H1 := by rw [hH1]; exact .ext _ _
  rw [← hH1]
  refine W.loop0 268370080 (by rfl) (fun ρ H' => H' = H1 ∧ ∃ k : Nat, ρ 16 = lin k ∧ k ≤ x.parents.length ∧ ρ 5 = lin (prodL ((parC ns x).take k))) (fun ρ H => x.parents.length - (iv (ρ 16)).toNat) ?_ ?_
  · simp (config := { maxSteps := 1000000 }) only [go_sem, appendA_U]
    exact ⟨0, rfl, by omega, by simp [prodL_nil]⟩
  rintro ρ H' ⟨rfl, k, h16, hk, h5⟩
  refine vc_sound _ _ _ (by rfl) ?_
  by_cases hb : (k : Int) < x.parents.length
  · obtain ⟨q, hq⟩ := get_of_lt (l := x.parents) (i := k) (by omega)
    obtain ⟨j, rfl, y, hy⟩ := get_of_int (l := ns) (hin q (List.mem_of_getElem? hq)).1 (hin q (List.mem_of_getElem? hq)).2
    have hne2 := ne_of_get hq
    have hyc := cards_get hy
    have hne3 := ne_of_get hyc
    have hj : (j : Int) < (cardsL ns).length := by have := get_lt hyc; omega
    have pk : (parC ns x)[k]? = some y.card := by
      rw [show (parC ns x)[k]? = _ from atL_get hq, Int.toNat_natCast, getD_of_get hyc]
    have b1 := (hsm.take (k + 1)).prod
    rw [take_succ_get pk, prodL_snoc] at b1
    have w1 := IntWalk.i64_in ((k : Int) + 1) (by omega)
    have w2 := IntWalk.i64_in (prodL ((parC ns x).take k) * y.card) (by omega)
    simp (config := { maxSteps := 1000000 }) only [go_sem, h16, h5, l1, l2, hb, hq, hne2, hj, hyc, hne3, w1, w2, appendA_U]
    exact ⟨⟨k + 1, by simp, by omega, by rw [take_succ_get pk, prodL_snoc]⟩, by omega⟩
  rw [List.take_of_length_le (by omega)] at h5
  by_cases c1 : (x.rows.length : Int) = prodL (parC ns x)
  rotate_left
  · simp (config := { maxSteps := 1000000 }) only [go_sem, h16, h5, l1, l2, hb, c1, vecV, appendA_U]
    have l3 := get_live g3
    simp (config := { maxSteps := 1000000 }) only [go_sem, l3, appendA_U]
    exact no (fun h => c1 h.1) _ (o1.upd (by omega) _)
  simp (config := { maxSteps := 1000000 }) only [go_sem, h16, h5, l1, l2, hb, c1, vecV, appendA_U]
  refine AApply.clo (rows_clo x _ _ ⟨trivial, ?_⟩)
  simp (config := { maxSteps := 1000000 }) only [go_sem, appendA_U]
  obtain ⟨H2, hH2⟩ : ∃ H2, H2 = ext H' [.arr 0 91 [.lit (.int .i64 x.card), .vec x.parents.length (ints x.parents), vecV x.rows]] := ⟨_, rfl⟩
  rw [← hH2]
  have o2 : Over H' H2 := by rw [hH2]; exact .ext _ _
  have n2 : H2.next = H.next + 4 := by rw [hH2, ext_next, n1]; rfl
  have hbx : H2.get H'.next = some (.arr 0 91 [.lit (.int .i64 x.card), .vec x.parents.length (ints x.parents), vecV x.rows]) := by rw [hH2]; exact ext1_get_new
  refine W.env fun E hE => ?_
  have e2 : E 2 = .ptr H.next 0 0 := by rw [hE]; simp (config := { maxSteps := 1000000 }) only [go_sem, appendA_U]
  have e3 : E 3 = .ptr (H.next + 1) 0 0 := by rw [hE]; simp (config := { maxSteps := 1000000 }) only [go_sem, appendA_U]
  have e4 : E 4 = .ptr (H.next + 2) 0 0 := by rw [hE]; simp (config := { maxSteps := 1000000 }) only [go_sem, appendA_U]
  have i1 : H2.live H.next 0 = some (153, [.lit (.int .i64 g), .vec ns.length (nodesC ns), .vec (cardsL ns).length (ints (cardsL ns)), .vec sets.length (sets.map bitV), .lit (.slice none 0 0)]) := (o2.live (by omega)).trans l1
  have i2 : H2.live (H.next + 1) 0 = some (91, [.lit (.int .i64 x.card), .vec x.parents.length (ints x.parents), vecV x.rows]) := (o2.live (by omega)).trans l2
  have i3 : H2.get (H.next + 2) = some (.arr 0 4 [.lit (.bool false)]) := (o2.old _ (by omega)).trans g3
  refine W.rangeIt (f := 116) (first := []) (cap := [.ptr H'.next 0 0]) (by show E 34 = _; rw [hE]; rfl) (rows_it x (by omega) H'.next)
    (fun k Hx => Over H2 Hx ∧ ∀ r ∈ x.rows.take k, RowOk g x.card r) (fun c Hx => c = .ret ∧ Over H Hx ∧ H.next + 4 ≤ Hx.next ∧ Hx.get (H.next + 2) = some (.arr 0 4 [.lit (.bool false)]) ∧ ¬ NodeOk g ns x)
    (fun k Hx h => by rw [h.1.old _ (by omega)]; exact hbx) (fun k Hx b h => ⟨h.1.upd (Nat.le_refl _) b, h.2⟩) (fun c Hx b h => ⟨h.1, h.2.1.upd (by omega) b, h.2.2.1, by rw [upd_get, if_neg (by omega)]; exact h.2.2.2.1, h.2.2.2.2⟩)
    (fun b => ⟨.ext _ _, by simp⟩) (by decide) (fun y hy => by
      obtain ⟨k, hk⟩ := List.mem_iff_getElem?.1 hy
      obtain ⟨r, _, rfl⟩ := rowsX_get hk
      rfl) (fun _ _ _ => trivial) (fun _ _ _ => trivial) (fun k y Hx B Bb hy hj hn hB hBb => ?_) (fun Hx hj hn => ?_) (fun Hx hs hn => ?_) (fun i Hx hs hn => by cases hs.1)
  · obtain ⟨r, hr, rfl⟩ := rowsX_get hy
    refine vc_sound _ _ _ (by rfl) ?_
    simp (config := { maxSteps := 1000000 }) only [go_sem, setPs, envN, asgIt, List.foldl_cons, List.foldl_nil, List.zip_cons_cons, List.zip_nil_right, hB, appendA_U]
    obtain ⟨H3, hH3⟩ : ∃ H3, H3 = Hx.upd H2.next Bb := ⟨_, rfl⟩
    rw [← hH3]
    obtain ⟨st, pd, n', en, ps', as', bo, hBe⟩ := hBb
    have o3 : Over H2 H3 := by rw [hH3]; exact hj.1.upd (Nat.le_refl _) Bb
    have o4 : Over H H3 := (o1.trans o2).trans o3
    have n3 : H3.next = Hx.next := by rw [hH3]; rfl
    have j1 := (o3.live (g := 0) (by omega : H.next < H2.next)).trans i1
    have j2 := (o3.live (g := 0) (by omega : H.next + 1 < H2.next)).trans i2
    have j3 := (o3.old _ (by omega : H.next + 2 < H2.next)).trans i3
    have j4 := get_live j3
    have jB : H3.get H2.next = some Bb := by rw [hH3, upd_get, if_pos rfl]
    have nB : ¬ H2.next = H.next + 2 := by omega
    have hrm := List.mem_of_getElem? hr
    have hrl := hx2 r hrm
    have nope : ¬ RowOk g x.card r → ¬ NodeOk g ns x := fun h h' => h (h'.2 r hrm)
    have stop : ¬ RowOk g x.card r → (H3.upd (H.next + 2) (Blk.arr 0 4 [.lit (.bool false)])).get H2.next = some Bb ∧ Hx.next ≤ (H3.upd (H.next + 2) (Blk.arr 0 4 [.lit (.bool false)])).next ∧ Over H (H3.upd (H.next + 2) (Blk.arr 0 4 [.lit (.bool false)])) ∧
        H.next + 4 ≤ (H3.upd (H.next + 2) (Blk.arr 0 4 [.lit (.bool false)])).next ∧ (H3.upd (H.next + 2) (Blk.arr 0 4 [.lit (.bool false)])).get (H.next + 2) = some (.arr 0 4 [.lit (.bool false)]) ∧ ¬ NodeOk g ns x := fun h =>
      ⟨by rw [upd_get, if_neg nB]; exact jB, by rw [upd_next]; omega, o4.upd (by omega) _, by rw [upd_next]; omega, by rw [upd_get, if_pos rfl], nope h⟩
    refine vc_sound _ _ _ (by rfl) ?_
    simp (config := { maxSteps := 1000000 }) only [go_sem, envN, e2, e3, e4, j1, j2, appendA_U]
    refine W.loop0 144110790029349888 (by rfl) (fun ρ2 H4 => H4 = H3 ∧ ∃ i : Nat, ρ2 42 = lin i ∧ i ≤ r.length ∧ (∀ w ∈ r.take i, 0 ≤ w) ∧ (r.take i).sum ≤ g ∧ ρ2 10 = lin (g - (r.take i).sum)) (fun ρ2 H => r.length - (iv (ρ2 42)).toNat) ?_ ?_
    · simp (config := { maxSteps := 1000000 }) only [go_sem, appendA_U]
      exact ⟨0, rfl, by omega, by simp, by simp; omega, by simp⟩
    rintro ρ2 H4 ⟨rfl, i, h42, hi, hw0, hws, h10⟩
    refine vc_sound _ _ _ (by rfl) ?_
    have s0 := row_sum_bound (g := g) hw0
    by_cases hb2 : (i : Int) < r.length
    · obtain ⟨a, ha⟩ := get_of_lt (l := r) (i := i) (by omega)
      have ham := List.mem_of_getElem? ha
      have hane := ne_of_get ha
      by_cases d1 : a < 0
      · simp (config := { maxSteps := 1000000 }) only [go_sem, h42, h10, hb2, ha, hane, d1, envN, e2, e3, e4, j4, guardA_undef, bodyIt, appendA_U]
        exact stop fun h => by have := h.2.1 a ham; omega
      by_cases d2 : a > g - (r.take i).sum
      · simp (config := { maxSteps := 1000000 }) only [go_sem, h42, h10, hb2, ha, hane, d1, d2, envN, e2, e3, e4, j4, guardA_undef, bodyIt, appendA_U]
        refine stop fun h => ?_
        have h1 : r.sum = (r.take (i + 1)).sum + (r.drop (i + 1)).sum := by rw [← List.sum_append, List.take_append_drop]
        rw [take_succ_get ha, sum_snoc] at h1
        have h2 := row_sum_bound (g := g) (l := r.drop (i + 1)) fun w hw => (h.2.1 w (List.mem_of_mem_drop hw)).1
        have := h.2.2
        omega
      have w1 := IntWalk.i64_in ((i : Int) + 1) (by omega)
      have w2 := IntWalk.i64_in (g - (r.take i).sum - a) (by omega)
      simp (config := { maxSteps := 1000000 }) only [go_sem, h42, h10, hb2, ha, hane, d1, d2, w1, w2, envN, guardA_undef, appendA_U]
      refine ⟨⟨_, _, _, _, _, _, _, by rw [jB, hBe]⟩, ⟨i + 1, by simp, by omega, fun w hw => ?_, by rw [take_succ_get ha, sum_snoc]; omega, ?_⟩, by omega⟩
      · rw [take_succ_get ha] at hw
        rcases List.mem_append.1 hw with hw | hw
        · exact hw0 w hw
        · obtain rfl := List.mem_singleton.1 hw; omega
      · rw [take_succ_get ha, sum_snoc]; show lin _ = lin _; congr 1; omega
    · rw [List.take_of_length_le (by omega)] at hw0 hws h10 s0
      by_cases d1 : (r.length : Int) = x.card
      rotate_left
      · simp (config := { maxSteps := 1000000 }) only [go_sem, h42, h10, hb2, d1, envN, e2, e3, e4, j2, j4, guardA_undef, bodyIt, appendA_U]
        exact stop fun h => d1 h.1
      have hb2' : ¬ (i : Int) < x.card := by omega
      by_cases d2 : g - r.sum = 0
      rotate_left
      · simp (config := { maxSteps := 1000000 }) only [go_sem, h42, h10, hb2, hb2', d1, d2, envN, e2, e3, e4, j2, j4, guardA_undef, bodyIt, appendA_U]
        exact stop fun h => by have := h.2.2; omega
      simp (config := { maxSteps := 1000000 }) only [go_sem, h42, h10, hb2, hb2', d1, d2, envN, e2, e3, e4, j2, j4, guardA_undef, bodyIt, appendA_U]
      refine ⟨jB, by omega, o3, fun y hy => ?_⟩
      rw [take_succ_get hr] at hy
      rcases List.mem_append.1 hy with hy | hy
      · exact hj.2 y hy
      · obtain rfl := List.mem_singleton.1 hy
        exact ⟨d1, fun w hw => ⟨hw0 w hw, by have := mem_le_sum hw0 w hw; omega⟩, by omega⟩
  · have hok : NodeOk g ns x := ⟨c1, by
      have := hj.2
      rw [rowsX_len, List.take_length] at this
      exact this⟩
    have j4 := get_live ((hj.1.old _ (by omega : H.next + 2 < H2.next)).trans i3)
    rw [nodeB_true hok] at hK
    simp (config := { maxSteps := 1000000 }) only [go_sem, e4, j4, appendA_U]
    exact FinV.dropO G0_ok hcl (((o1.trans o2).trans hj.1).upd (by omega) _) (.lit _) hK
  · obtain ⟨_, o4, n4, g4, hno⟩ := hs
    have j4 := get_live g4
    simp (config := { maxSteps := 1000000 }) only [go_sem, e4, j4, appendA_U]
    exact no hno _ o4
end Go.Proofs
namespace Go.Hx
theorem OwnG.freshI {lo : Nat} {H : AHeap} {e : TypeId} {v : AVal} {l : List Int} (h : OwnG lo H e v (ints l)) : Fresh H v (vecI l) := by
  rcases h with ⟨rfl, h⟩ | ⟨id, g, h1, h2, rfl, h4⟩
  · have : l = [] := by cases l with
      | nil => rfl
      | cons a l => simp [ints] at h
    subst this
    exact .nil
  · have e : vecI l = .vec (ints l).length (ints l) := by rw [ints_length]; rfl
    rw [e]
    refine .own h4 (by simp) fun j hj h2 h' => ?_
    simp only [Nat.zero_add, ints, List.getElem_map]
    exact .lit _
theorem Fz.ownRead {H : AHeap} {id g n nx : Nat} {e : TypeId} {cs : List AVal} (hg : H.get id = some (.arr g e cs)) (hn : n = cs.length) (hl : ∀ c ∈ cs, ∃ v, c = .lit v) : Fz (fun _ => True) H nx (.own id g 0 n 1) (.vec n cs) := by
  refine .frz trivial hg (by omega) fun j hj h2 h' => ?_
  simp only [Nat.zero_add]
  obtain ⟨v, hv⟩ := hl _ (List.getElem_mem h')
  rw [hv]; exact .lit _
end Go.Hx
namespace Go.Proofs
open Go.Hx
def natsI (l : List Nat) : List Int := l.map fun (v : Nat) => (v : Int)
theorem find_range {n j : Nat} {p : Nat → Bool} (hj : j < n) (h1 : ∀ v, v < j → p v = false) (h2 : p j = true) : (List.range n).find? p = some j := by
  rw [List.find?_eq_some_iff_getElem]
  refine ⟨h2, j, by simpa using hj, by simp, fun k hk => ?_⟩
  simp only [List.getElem_range]
  simp [h1 k hk]
theorem find_range_none {n : Nat} {p : Nat → Bool} (h1 : ∀ v, v < n → p v = false) : (List.range n).find? p = none := by
  rw [List.find?_eq_none]
  intro x hx
  simp [h1 x (List.mem_range.1 hx)]

set_option maxHeartbeats 1000000 in
theorem sorted_own (ps : List Nat) (hl : ps.length ≤ 60) (hp : ∀ p ∈ ps, p < 2 ^ 64) (H : AHeap) (K : ARes → AHeap → Prop)
    (hK : ∀ v H', Over H H' → (match topo ps with | some o => OwnG H.next H' 3 v (ints (natsI o)) | none => v = .lit (.slice none 0 0)) → K (.ret (.tup [v, .lit (.bool (topo ps).isSome)])) H') : ACall Tryd.prog G0 107 [vecB ps] H K := by
  have no : ∀ H', topo ps = none → Over H H' → FinV Tryd.prog G0 H K (.tup [.lit (.slice none 0 0), .lit (.bool false)]) H' := fun H' h ov => FinV.mk ov.next (by
    have := hK (.lit (.slice none 0 0)) H' ov
    rw [h] at this
    exact this rfl)
  refine ACall.of_body (n := 44) (rs := [.tmp 2, .tmp 3]) Tryd.func107 rfl rfl rfl (by decide) (by kernel_rfl) (by simp) ?_
  simp (config := { maxSteps := 1000000 }) only [go_sem, appendA_U]
  refine ⟨by omega, ?_⟩
  refine W.loop0 8796093020412 (by rfl) (fun ρ H' => ∃ (out : List Nat) (done : Nat), ρ 5 = bitV done ∧ done < 2 ^ 64 ∧ out.length ≤ ps.length ∧ H.next + 1 ≤ H'.next ∧ Over H H' ∧ OwnG H.next H' 3 (ρ 4) (ints (natsI out)) ∧ (∃ id g, ρ 4 = .own id g 0 out.length 1) ∧ topoGo ps (ps.length - out.length) out done = topo ps)
    (fun ρ H => ps.length - (match ρ 4 with | .own _ _ _ n _ => n | _ => 0)) ?_ ?_
  · simp (config := { maxSteps := 1000000 }) only [go_sem, appendA_U]
    exact ⟨[], 0, by simp, by decide, Nat.zero_le _, .ext _ _, .inr ⟨H.next, 0, Nat.le_refl _, by simp [ext_next], rfl, get_ext0 H _ []⟩, ⟨_, _, rfl⟩, rfl⟩
  rintro ρ H' ⟨out, done, h5, hd, ho, hn0, ov, h4, ⟨id, gn, h4e⟩, ht⟩
  refine vc_sound _ _ _ (by rfl) ?_
  have lv : H'.live id gn = some (3, ints (natsI out)) := by
    rcases h4 with ⟨h, _⟩ | ⟨i, g, h1, h2, h3, h4⟩
    · rw [h4e] at h; cases h
    · rw [h4e] at h3
      have := AVal.own.inj h3
      obtain ⟨rfl, rfl, _⟩ := this
      exact get_live h4
  by_cases hb : (out.length : Int) < ps.length
  · simp (config := { maxSteps := 1000000 }) only [go_sem, h4e, h5, lv, hb, appendA_U]
    have hk1 : ps.length - out.length = (ps.length - (out.length + 1)) + 1 := by omega
    refine W.loop0 8796092760304 (by rfl) (fun ρ2 H2 => H2 = H' ∧ ∃ j : Nat, ρ2 18 = lin j ∧ j ≤ ps.length ∧ ρ2 4 = .own id gn 0 out.length 1 ∧ ρ2 5 = bitV done ∧ ∀ v, v < j → freeB ps done v = false) (fun ρ2 H => ps.length - (iv (ρ2 18)).toNat) ?_ ?_
    · simp (config := { maxSteps := 1000000 }) only [go_sem, h4e, h5, appendA_U]
      exact ⟨0, rfl, by omega, fun v h => absurd h (Nat.not_lt_zero _)⟩
    rintro ρ2 H2 ⟨rfl, j, h18, hj, h4', h5', hno⟩
    refine vc_sound _ _ _ (by rfl) ?_
    by_cases hb2 : (j : Int) < ps.length
    · obtain ⟨p, hpj⟩ := get_of_lt (l := ps) (i := j) (by omega)
      have hp1 := hp p (List.mem_of_getElem? hpj)
      have hne := ne_of_get hpj
      have s1 := fun t x y => shrB (P := Tryd.prog) (t := t) (x := x) (y := y) (k' := .i64) (s := j) hd
      have s2 := fun t x y => bit1 (P := Tryd.prog) (t := t) (x := x) (y := y) (s := j) hd
      have s3 := fun t x y => subB (P := Tryd.prog) (t := t) (x := x) (y := y) (a := p) (b := done)
      have w1 := IntWalk.i64_in ((j : Int) + 1) (by omega)
      have cont : freeB ps done j = false → ∀ v, v < j + 1 → freeB ps done v = false := fun h v hv => by
        rcases Nat.lt_or_ge v j with h' | h'
        · exact hno v h'
        · obtain rfl : v = j := by omega
          exact h
      have fe : freeB ps done j = (!done.testBit j && decide (subN p done = 0)) := by unfold freeB; rw [getD_of_get hpj]
      cases hbit : done.testBit j
      rotate_left
      · simp (config := { maxSteps := 1000000 }) only [go_sem, h18, h4', h5', hb2, hpj, hne, s1, s2, s3, hbit, guardA_undef, w1, appendA_U]
        exact ⟨⟨j + 1, by simp, by omega, cont (by rw [fe, hbit]; rfl)⟩, by omega⟩
      by_cases hz : subN p done = 0
      rotate_left
      · have hz' : ¬ ((subN p done : Nat) : Int) = 0 := by omega
        simp (config := { maxSteps := 1000000 }) only [go_sem, h18, h4', h5', hb2, hpj, hne, s1, s2, s3, hbit, hz', guardA_undef, w1, appendA_U]
        exact ⟨⟨j + 1, by simp, by omega, cont (by rw [fe, hbit]; simp [hz])⟩, by omega⟩
      have hz' : ((subN p done : Nat) : Int) = 0 := by omega
      have hnx : nextT ps done = some j := find_range (by omega) hno (by rw [fe, hbit]; simp [hz])
      obtain ⟨v', H3, hA, ov2, hO, hn2, _⟩ := app_int (j : Int) ov h4 (by simp [natsI]; omega)
      rw [h4e] at hA
      have b2 : (2 : Nat) ^ j < 2 ^ 64 := Nat.pow_lt_pow_right (by decide) (by omega)
      have s4 := fun t x y => shlB (P := Tryd.prog) (t := t) (x := x) (y := y) (k' := .i64) (s := j) (by omega)
      have s5 := fun t x y => orB (P := Tryd.prog) (t := t) (x := x) (y := y) hd b2
      simp (config := { maxSteps := 1000000 }) only [go_sem, h18, h4', h5', hb2, hpj, hne, s1, s2, s3, s4, s5, hbit, hz', guardA_undef, hA]
      have hO' : OwnG H.next H3 3 v' (ints (natsI (out ++ [j]))) := by
        have e : natsI (out ++ [j]) = natsI out ++ [(j : Int)] := by simp [natsI]
        rw [e]; exact hO
      have hv' : ∃ id g, v' = .own id g 0 (out.length + 1) 1 := by
        rcases hO' with ⟨_, h⟩ | ⟨i, g, _, _, h3, _⟩
        · simp [ints, natsI] at h
        · exact ⟨i, g, by rw [h3, ints_length]; simp [natsI]⟩
      obtain ⟨i2, g2, rfl⟩ := hv'
      refine ⟨by omega, ⟨out ++ [j], done ||| 2 ^ j, rfl, Nat.or_lt_two_pow hd b2, by simp; omega, by omega, ov2, hO', ⟨i2, g2, by simp⟩, ?_⟩, by simp only; omega⟩
      rw [← ht, hk1]
      conv => rhs; unfold topoGo
      rw [hnx]
      simp
    · simp (config := { maxSteps := 1000000 }) only [go_sem, h18, hb2, appendA_U]
      refine no _ ?_ ov
      rw [← ht, hk1]
      unfold topoGo
      have : nextT ps done = none := find_range_none fun v hv => hno v (by omega)
      rw [this]
  · simp (config := { maxSteps := 1000000 }) only [go_sem, h4e, h5, lv, hb, appendA_U]
    have hz : ps.length - out.length = 0 := by omega
    rw [hz] at ht
    have ht' : topo ps = some out := ht.symm
    have := hK (.own id gn 0 out.length 1) H' ov
    rw [ht'] at this
    refine FinV.mk ov.next (this ?_)
    rw [h4e] at h4; exact h4
theorem sorted_frame (ps : List Nat) (hl : ps.length ≤ 60) (hp : ∀ p ∈ ps, p < 2 ^ 64) (H : AHeap) (v : AVal) (hv : Fz (fun _ => True) H 0 v (vecB ps)) (K : ARes → AHeap → Prop)
    (hK : K (.ret (.tup [vecI (natsI ((topo ps).getD [])), .lit (.bool (topo ps).isSome)])) H) : ACall Tryd.prog G0 107 [v] H K := by
  refine (ACall.frame (H := H) (args := [v]) (args' := [vecB ps]) (v' := .tup [vecI (natsI ((topo ps).getD [])), .lit (.bool (topo ps).isSome)]) G0_ok rfl (fun i hi _ => match i, hi with | 0, _ => hv) (sorted_own ps hl hp noH _ fun u H' ov hu => ⟨_, rfl, ?_⟩)).mono ?_
  · refine .tup rfl fun i hi _ => ?_
    match i, hi with
    | 0, _ =>
      show Fresh H' u _
      cases ht : topo ps with
      | none => rw [ht] at hu; simp only at hu; rw [hu]; show Fresh H' _ (vecI []); exact .nil
      | some o => rw [ht] at hu; exact OwnG.freshI hu
    | 1, _ => exact .lit _
  · rintro r H' ⟨rfl, rfl⟩
    exact hK
def netZv : AVal := .agg [.lit (.int .i64 0), vecI [], vecI [], vecI [], vecI []]
def netR (g : Int) (ns : List NodeP) : AVal := .agg [.lit (.int .i64 g), nodesV ns, vecI (cardsL ns), vecB (setsL ns), vecI (natsI ((topo (setsL ns)).getD []))]
structure RdS (g : Int) (ns : List NodeP) (H H' : AHeap) (c : List Int) (s : List Nat) : Prop where
  nx : H.next + 5 ≤ H'.next
  ov : Over H H'
  b0 : H'.get H.next = some (.arr 0 61 [.lit (.int .i64 g), .vec ns.length (nodesC ns)])
  b1 : H'.get (H.next + 1) = some (.arr 0 153 [.lit (.int .i64 0), .lit (.slice none 0 0), .lit (.slice none 0 0), .lit (.slice none 0 0), .lit (.slice none 0 0)])
  b2 : H'.get (H.next + 2) = some (.arr 0 3 (ints c))
  b3 : H'.get (H.next + 3) = some (.arr 0 100 (s.map bitV))
  b4 : H'.get (H.next + 4) = some (.arr 0 153 [.lit (.int .i64 g), .vec ns.length (nodesC ns), .own (H.next + 2) 0 0 ns.length 1, .own (H.next + 3) 0 0 ns.length 1, .lit (.slice none 0 0)])
  cl : c.length = ns.length
  sl : s.length = ns.length
theorem RdS.over {g : Int} {ns : List NodeP} {H H' H2 : AHeap} {c : List Int} {s : List Nat} (h : RdS g ns H H' c s) (o : Over H' H2) : RdS g ns H H2 c s where
  nx := Nat.le_trans h.nx o.next
  ov := h.ov.trans o
  b0 := (o.old _ (by have := h.nx; omega)).trans h.b0
  b1 := (o.old _ (by have := h.nx; omega)).trans h.b1
  b2 := (o.old _ (by have := h.nx; omega)).trans h.b2
  b3 := (o.old _ (by have := h.nx; omega)).trans h.b3
  b4 := (o.old _ (by have := h.nx; omega)).trans h.b4
  cl := h.cl
  sl := h.sl
theorem RdS.setC {g : Int} {ns : List NodeP} {H H' : AHeap} {c : List Int} {s : List Nat} (h : RdS g ns H H' c s) {k : Nat} (hk : k < c.length) (x : Int) : RdS g ns H (H'.upd (H.next + 2) (.arr 0 3 (setAt (ints c) k [.lit (.int .i64 x)]))) (c.set k x) s where
  nx := h.nx
  ov := h.ov.upd (by omega) _
  b0 := by rw [upd_get, if_neg (by omega)]; exact h.b0
  b1 := by rw [upd_get, if_neg (by omega)]; exact h.b1
  b2 := by rw [upd_get, if_pos rfl, setAt_ints hk]
  b3 := by rw [upd_get, if_neg (by omega)]; exact h.b3
  b4 := by rw [upd_get, if_neg (by omega)]; exact h.b4
  cl := by simpa using h.cl
  sl := h.sl
theorem setAt_bits {l : List Nat} {i : Nat} {x : Nat} (h : i < l.length) : setAt (l.map bitV) i [.lit (.int .u64 (x : Int))] = (l.set i x).map bitV := by
  rw [setAt_one (by simpa using h)]
  simp [bitV]
theorem RdS.setS {g : Int} {ns : List NodeP} {H H' : AHeap} {c : List Int} {s : List Nat} (h : RdS g ns H H' c s) {k : Nat} (hk : k < s.length) (x : Nat) : RdS g ns H (H'.upd (H.next + 3) (.arr 0 100 (setAt (s.map bitV) k [.lit (.int .u64 (x : Int))]))) c (s.set k x) where
  nx := h.nx
  ov := h.ov.upd (by omega) _
  b0 := by rw [upd_get, if_neg (by omega)]; exact h.b0
  b1 := by rw [upd_get, if_neg (by omega)]; exact h.b1
  b2 := by rw [upd_get, if_neg (by omega)]; exact h.b2
  b3 := by rw [upd_get, if_pos rfl, setAt_bits hk]
  b4 := by rw [upd_get, if_neg (by omega)]; exact h.b4
  cl := h.cl
  sl := by simpa using h.sl
theorem RdS.l0 {g : Int} {ns : List NodeP} {H H' : AHeap} {c : List Int} {s : List Nat} (h : RdS g ns H H' c s) : H'.live H.next 0 = some (61, [.lit (.int .i64 g), .vec ns.length (nodesC ns)]) := get_live h.b0
theorem RdS.l1 {g : Int} {ns : List NodeP} {H H' : AHeap} {c : List Int} {s : List Nat} (h : RdS g ns H H' c s) : H'.live (H.next + 1) 0 = some (153, [.lit (.int .i64 0), .lit (.slice none 0 0), .lit (.slice none 0 0), .lit (.slice none 0 0), .lit (.slice none 0 0)]) := get_live h.b1
theorem RdS.l2 {g : Int} {ns : List NodeP} {H H' : AHeap} {c : List Int} {s : List Nat} (h : RdS g ns H H' c s) : H'.live (H.next + 2) 0 = some (3, ints c) := get_live h.b2
theorem RdS.l3 {g : Int} {ns : List NodeP} {H H' : AHeap} {c : List Int} {s : List Nat} (h : RdS g ns H H' c s) : H'.live (H.next + 3) 0 = some (100, s.map bitV) := get_live h.b3
theorem RdS.l4 {g : Int} {ns : List NodeP} {H H' : AHeap} {c : List Int} {s : List Nat} (h : RdS g ns H H' c s) : H'.live (H.next + 4) 0 = some (153, [.lit (.int .i64 g), .vec ns.length (nodesC ns), .own (H.next + 2) 0 0 ns.length 1, .own (H.next + 3) 0 0 ns.length 1, .lit (.slice none 0 0)]) := get_live h.b4

theorem fz_nodes {S : Nat → Prop} {H : AHeap} {nx : Nat} (ns : List NodeP) : Fz S H nx (.vec ns.length (nodesC ns)) (.vec ns.length (nodesC ns)) := by
  refine .vec rfl fun i hi _ => ?_
  have : ∀ (l : List NodeP) (c : AVal), c ∈ nodesC l → Fz S H nx c c := by
    intro l c hc
    unfold nodesC at hc
    obtain ⟨r, hr, hc⟩ := List.mem_flatten.1 hc
    obtain ⟨x, _, rfl⟩ := List.mem_map.1 hr
    unfold NodeP.cells at hc
    simp only [List.mem_cons, List.not_mem_nil, or_false] at hc
    rcases hc with rfl | rfl | rfl
    · exact .lit _
    · exact .keepInts _
    · exact .vecV _
  exact this ns _ (List.getElem_mem _)
theorem filledN_frame (g : Int) (hg : 1 ≤ g ∧ g ≤ 60) (ns : List NodeP) (sets : List Nat) (x : NodeP) (hin : InRange x.parents ns.length) (hsm : SmallC (parC ns x)) (hx1 : (x.rows.length : Int) < 2 ^ 38) (hx2 : ∀ r ∈ x.rows, (r.length : Int) < 2 ^ 38) (H : AHeap) (ci si : Nat)
    (h2 : H.get ci = some (.arr 0 3 (ints (cardsL ns)))) (h3 : H.get si = some (.arr 0 100 (sets.map bitV))) (hs : sets.length = ns.length) (K : ARes → AHeap → Prop)
    (hK : K (.ret (.lit (.bool (nodeB g ns x)))) H) : ACall Tryd.prog G0 106 [.agg [.lit (.int .i64 g), .vec ns.length (nodesC ns), .own ci 0 0 ns.length 1, .own si 0 0 ns.length 1, .lit (.slice none 0 0)], .agg [.lit (.int .i64 x.card), .vec x.parents.length (ints x.parents), vecV x.rows]] H K := by
  refine (ACall.frame (H := H) (args := [.agg [.lit (.int .i64 g), .vec ns.length (nodesC ns), .own ci 0 0 ns.length 1, .own si 0 0 ns.length 1, .lit (.slice none 0 0)], .agg [.lit (.int .i64 x.card), .vec x.parents.length (ints x.parents), vecV x.rows]]) (args' := [.agg [.lit (.int .i64 g), nodesV ns, vecI (cardsL ns), vecB sets, .lit (.slice none 0 0)], nodeV x]) (v' := .lit (.bool (nodeB g ns x))) G0_ok rfl (fun i hi _ => ?_) (filledN_spec g hg ns sets x hin hsm hx1 hx2 noH _ ⟨_, rfl, .lit _⟩)).mono ?_
  · match i, hi with
    | 0, _ =>
      refine .agg rfl fun i hi _ => ?_
      match i, hi with
      | 0, _ => exact .lit _
      | 1, _ => exact fz_nodes _
      | 2, _ =>
        have := Fz.ownRead (nx := 0) h2 (n := ns.length) (by rw [ints_length, cards_len]) (fun c hc => by
          obtain ⟨z, _, rfl⟩ := List.mem_map.1 hc
          exact ⟨_, rfl⟩)
        show Fz _ _ _ _ (.vec (cardsL ns).length (ints (cardsL ns)))
        rw [cards_len]; exact this
      | 3, _ =>
        have := Fz.ownRead (nx := 0) h3 (n := ns.length) (by simp [hs]) (fun c hc => by
          obtain ⟨z, _, rfl⟩ := List.mem_map.1 hc
          exact ⟨_, rfl⟩)
        show Fz _ _ _ _ (.vec sets.length (sets.map bitV))
        rw [hs]; exact this
      | 4, _ => exact .lit _
    | 1, _ =>
      refine .agg rfl fun i hi _ => ?_
      match i, hi with
      | 0, _ => exact .lit _
      | 1, _ => exact .keepInts _
      | 2, _ => exact .vecV _
  · rintro r H' ⟨rfl, rfl⟩
    exact hK
theorem not_acyc_self {ns : List NodeP} {k : Nat} {x : NodeP} (hx : ns[k]? = some x) (h0 : ∀ q ∈ x.parents, 0 ≤ q) (hm : (k : Int) ∈ x.parents) : ¬ AcycB (setsL ns) := fun h => by
  have hk := get_lt (setsL_get hx)
  have := h k hk
  rw [getD_of_get (setsL_get hx)] at this
  have h1 := upN_ge (setsL ns) (setsL ns).length (setN x.parents) k (by rw [setN_bit h0]; exact decide_eq_true hm)
  unfold upL at this
  rw [h1] at this; cases this

set_option maxHeartbeats 4000000 in
theorem read_spec (g : Int) (ns : List NodeP) (hf : NetFit ns) (H : AHeap) (K : ARes → AHeap → Prop) (hK : K (.ret (if netB g ns then .tup [netR g ns, lin 0] else .tup [netZv, lin 50])) H) : ACall Tryd.prog G0 87 [netV g ns] H K := by
  refine ACall.clo ⟨_, Tryd.func87, rfl, rfl⟩ fun hcl => ?_
  have no : ¬ NetOk g ns → ∀ H', Over H H' → FinV Tryd.prog G0 H K (.tup [.agg [.lit (.int .i64 0), .lit (.slice none 0 0), .lit (.slice none 0 0), .lit (.slice none 0 0), .lit (.slice none 0 0)], .lit (.int .i64 50)]) H' := fun h H' ov => by
    rw [netB_false h] at hK
    refine FinV.dropO (v' := .tup [netZv, lin 50]) G0_ok hcl ov (.tup rfl fun i hi _ => ?_) hK
    match i, hi with
    | 0, _ =>
      refine .agg rfl fun i hi _ => ?_
      match i, hi with
      | 0, _ => exact .lit _
      | 1, _ => exact .nil
      | 2, _ => exact .nil
      | 3, _ => exact .nil
      | 4, _ => exact .nil
    | 1, _ => exact .lit _
  refine ACall.of_body (n := 140) (rs := [.cell 2 153, .tmp 3]) Tryd.func87 rfl rfl rfl (by decide) (by kernel_rfl) (by simp) ?_
  simp (config := { maxSteps := 1000000 }) only [go_sem, netV, nodesV, appendA_U]
  have l1 := get_live (get_ext0 H (.arr 0 61 [.lit (.int .i64 g), .vec ns.length (nodesC ns)]) [.arr 0 153 [.lit (.int .i64 0), .lit (.slice none 0 0), .lit (.slice none 0 0), .lit (.slice none 0 0), .lit (.slice none 0 0)]])
  by_cases c1 : g < 1
  · simp (config := { maxSteps := 1000000 }) only [go_sem, l1, c1, guardA_undef, appendA_U]
    exact no (fun h => by have := h.g1; omega) _ (.ext _ _)
  by_cases c2 : g > 60
  · simp (config := { maxSteps := 1000000 }) only [go_sem, l1, c1, c2, guardA_undef, appendA_U]
    exact no (fun h => by have := h.g1; omega) _ (.ext _ _)
  by_cases c3 : (ns.length : Int) < 1
  · simp (config := { maxSteps := 1000000 }) only [go_sem, l1, c1, c2, c3, guardA_undef, appendA_U]
    exact no (fun h => by have := h.n1; omega) _ (.ext _ _)
  by_cases c4 : (ns.length : Int) > 8
  · simp (config := { maxSteps := 1000000 }) only [go_sem, l1, c1, c2, c3, c4, guardA_undef, appendA_U]
    exact no (fun h => by have := h.n1; omega) _ (.ext _ _)
  simp (config := { maxSteps := 1000000 }) only [go_sem, l1, c1, c2, c3, c4, guardA_undef, appendA_U]
  refine W.draw 11 [0, 0, 2, 6, 14, 0, 32, 96, 224, 511, 0] Tryd.mixed (by kernel_rfl) (by kernel_rfl) ?_
  simp (config := { maxSteps := 1000000 }) only [go_sem, l1, appendA_U]
  repeat (refine And.intro (by first | omega | (simp; done) | (simp; omega) | (intros; omega) | exact ⟨rfl, by omega, by omega, all_one_ints _⟩) ?_)
  obtain ⟨Hb, hHb⟩ : ∃ Hb, Hb = ext (ext H [.arr 0 61 [.lit (.int .i64 g), .vec ns.length (nodesC ns)], .arr 0 153 [.lit (.int .i64 0), .lit (.slice none 0 0), .lit (.slice none 0 0), .lit (.slice none 0 0), .lit (.slice none 0 0)], .arr 0 3 (List.replicate ns.length (.lit (.int .i64 0))), .arr 0 100 (List.replicate ns.length (.lit (.int .u64 0)))]) [.arr 0 153 [.lit (.int .i64 g), .vec ns.length (nodesC ns), .own (H.next + 2) 0 0 ns.length 1, .own (H.next + 3) 0 0 ns.length 1, .lit (.slice none 0 0)]] := ⟨_, rfl⟩
  rw [← hHb]
  have R0 : RdS g ns H Hb (List.replicate ns.length 0) (List.replicate ns.length 0) := by
    rw [hHb, ext_ext]
    exact ⟨by simp [ext_next], .ext _ _, get_ext0 .., get_ext H _ 1 (by simp), by rw [get_ext H _ 2 (by simp)]; simp [ints, lin], by rw [get_ext H _ 3 (by simp)]; simp [bitV], get_ext H _ 4 (by simp), by simp, by simp⟩
  have hcard : ∀ {k : Nat}, (∀ x ∈ ns.take k, 1 ≤ x.card ∧ x.card ≤ 4) → SmallC ((cardsL ns).take k) := fun {k} h => smallC_of (by simp [cardsL]; omega) fun c hc => by
    rw [show (cardsL ns).take k = cardsL (ns.take k) by simp [cardsL]] at hc
    obtain ⟨y, hy, rfl⟩ := List.mem_map.1 hc
    exact h y hy
  refine W.loop0 37778930737057254867176 (by rfl) (fun ρ H' => ∃ (k : Nat) (c : List Int), ρ 50 = lin k ∧ k ≤ ns.length ∧ ρ 5 = lin (prodL ((cardsL ns).take k)) ∧ RdS g ns H H' c (List.replicate ns.length 0) ∧ Hb.next ≤ H'.next ∧ c.take k = (cardsL ns).take k ∧ ∀ x ∈ ns.take k, 1 ≤ x.card ∧ x.card ≤ 4) (fun ρ H => ns.length - (iv (ρ 50)).toNat) ?_ ?_
  · simp (config := { maxSteps := 1000000 }) only [go_sem, appendA_U]
    exact ⟨0, _, rfl, by omega, by simp [prodL_nil], R0, by simp⟩
  rintro ρ H' ⟨k, c, h50, hk, h5, R, hn, hc, hall⟩
  refine vc_sound _ _ _ (by rfl) ?_
  have q0 := R.l0
  have q1 := R.l1
  have q2 := R.l2
  have q4 := R.l4
  have rn := R.nx
  by_cases hb : (k : Int) < ns.length
  · obtain ⟨x, hx⟩ := get_of_lt (l := ns) (i := k) (by omega)
    have hxm := List.mem_of_getElem? hx
    have hne := nodesC_ne hx
    have e0 := nodesC_part hx
    have e1 : k * 3 + 3 ≤ (nodesC ns).length := by rw [nodesC_len]; omega
    have R2 := R.over (.ext H' [.arr 0 91 [.lit (.int .i64 x.card), .vec x.parents.length (ints x.parents), vecV x.rows]])
    have p1 := R2.l1
    have p2 := R2.l2
    have p4 := R2.l4
    have nb1 : ¬ H.next + 1 = H'.next := by omega
    have nb2 : ¬ H.next + 2 = H'.next := by omega
    have nb4 : ¬ H.next + 4 = H'.next := by omega
    by_cases d1 : x.card < 1
    · simp (config := { maxSteps := 1000000 }) only [go_sem, h50, q4, p1, hb, hne, e0, e1, d1, guardA_undef, appendA_U]
      exact no (fun h => by have := (h.node x hxm).1; omega) _ (R2.ov.upd (by omega) _)
    by_cases d2 : x.card > 4
    · simp (config := { maxSteps := 1000000 }) only [go_sem, h50, q4, p1, hb, hne, e0, e1, d1, d2, guardA_undef, appendA_U]
      exact no (fun h => by have := (h.node x hxm).1; omega) _ (R2.ov.upd (by omega) _)
    have hall' : ∀ y ∈ ns.take (k + 1), 1 ≤ y.card ∧ y.card ≤ 4 := fun y hy => by
      rw [take_succ_get hx] at hy
      rcases List.mem_append.1 hy with hy | hy
      · exact hall y hy
      · obtain rfl := List.mem_singleton.1 hy; exact ⟨by omega, by omega⟩
    have b2 := (hcard hall').prod
    rw [take_succ_get (cards_get hx), prodL_snoc] at b2
    have w1 := IntWalk.i64_in ((k : Int) + 1) (by omega)
    have w2 := IntWalk.i64_in (prodL ((cardsL ns).take k) * x.card) (by omega)
    have hkc : k < c.length := by rw [R.cl]; omega
    have p0 : ∀ b, ((ext H' [.arr 0 91 [.lit (.int .i64 x.card), .vec x.parents.length (ints x.parents), vecV x.rows]]).upd (H.next + 2) b).live H'.next 0 = some (91, [.lit (.int .i64 x.card), .vec x.parents.length (ints x.parents), vecV x.rows]) := fun b => by
      rw [live_upd_other (by omega)]; exact get_live ext1_get_new
    simp (config := { maxSteps := 1000000 }) only [go_sem, h50, h5, q4, p1, p2, p4, p0, hb, hne, e0, e1, d1, d2, w1, w2, guardA_undef, appendA_U]
    exact ⟨by omega, by rw [upd_next, ext_next]; omega, ⟨k + 1, _, by simp, by omega, by rw [take_succ_get (cards_get hx), prodL_snoc], R2.setC hkc x.card, by rw [upd_next, ext_next]; omega, take_set_eq hc hkc (cards_get hx), fun y hy => hall' y hy⟩, by omega⟩
  have ek : k = ns.length := by omega
  subst ek
  rw [List.take_of_length_le (Nat.le_refl _)] at hall
  rw [List.take_of_length_le (by rw [cards_len]; omega)] at h5
  have ec : c = cardsL ns := by
    rw [List.take_of_length_le (by rw [R.cl]; omega), List.take_of_length_le (by rw [cards_len]; omega)] at hc
    exact hc
  subst ec
  by_cases c5 : prodL (cardsL ns) > 1024
  · simp (config := { maxSteps := 1000000 }) only [go_sem, h50, h5, q1, hb, c5, guardA_undef, appendA_U]
    exact no (fun h => by have := h.size; omega) _ (R.ov.upd (by omega) _)
  simp (config := { maxSteps := 1000000 }) only [go_sem, h50, h5, q4, hb, c5, guardA_undef, appendA_U]
  refine W.loop0 340282366920933627760096148915069392648 (by rfl) (fun ρ' H2 => ∃ (k : Nat) (s : List Nat), ρ' 82 = lin k ∧ k ≤ ns.length ∧ RdS g ns H H2 (cardsL ns) s ∧ H'.next ≤ H2.next ∧ s.take k = (setsL ns).take k ∧ (∀ j, k ≤ j → s.getD j 0 = 0) ∧ ∀ x ∈ ns.take k, PlacesOk x.parents ns.length ∧ NodeOk g ns x) (fun ρ' H => ns.length - (iv (ρ' 82)).toNat) ?_ ?_
  · simp (config := { maxSteps := 1000000 }) only [go_sem, appendA_U]
    refine ⟨0, _, rfl, by omega, R, rfl, fun j _ => ?_, by simp⟩
    rw [List.getD_eq_getElem?_getD, List.getElem?_replicate]; split <;> rfl
  rintro ρ' H2 ⟨k, s, h82, hk2, R2, hn2, hs, hs0, hall2⟩
  refine vc_sound _ _ _ (by rfl) ?_
  have r2 := R2.nx
  have q4 := R2.l4
  by_cases hb2 : (k : Int) < ns.length
  rotate_left
  · have es : s = setsL ns := by
      rw [List.take_of_length_le (by rw [R2.sl]; omega), List.take_of_length_le (by simp [setsL]; omega)] at hs
      exact hs
    subst es
    rw [List.take_of_length_le (by omega)] at hall2
    have hlt : ∀ p ∈ setsL ns, p < 2 ^ ns.length := setsL_lt fun x hx q hq => (hall2 x hx).1.2 q hq
    have hsl : (setsL ns).length = ns.length := by simp [setsL]
    have hlt64 : ∀ p ∈ setsL ns, p < 2 ^ 64 := fun p hp => Nat.lt_of_lt_of_le (hlt p hp) (Nat.pow_le_pow_right (by decide) (by omega))
    have hto := topo_iff (ps := setsL ns) (by rw [hsl]; exact hlt) (by omega)
    simp (config := { maxSteps := 1000000 }) only [go_sem, h82, q4, hb2, appendA_U]
    have fzs := Fz.ownRead (nx := 0) R2.b3 (n := ns.length) (by simp [R2.sl]) (fun c hc => by
      obtain ⟨z, _, rfl⟩ := List.mem_map.1 hc
      exact ⟨_, rfl⟩)
    refine AApply.clo (sorted_frame (setsL ns) (by omega) hlt64 _ _ (by show Fz _ _ _ _ (.vec (setsL ns).length _); rw [hsl]; exact fzs) _ ⟨trivial, ?_⟩)
    have q1 := R2.l1
    cases hso : (topo (setsL ns)).isSome
    · simp (config := { maxSteps := 1000000 }) only [go_sem, q1, appendA_U]
      exact no (fun h => by rw [hto.2 h.acyc] at hso; cases hso) _ (R2.ov.upd (by omega) _)
    have hok : NetOk g ns := ⟨by omega, by omega, fun x hx => ⟨hall x hx, (hall2 x hx).1⟩, by omega, hto.1 hso, fun x hx => (hall2 x hx).2⟩
    rw [netB_true hok] at hK
    have q1b : ∀ b, (H2.upd (H.next + 4) b).live (H.next + 1) 0 = _ := fun b => (live_upd_other (by omega)).trans q1
    simp (config := { maxSteps := 1000000 }) only [go_sem, q1b, q4, appendA_U]
    have ovf : Over H ((H2.upd (H.next + 4) (.arr 0 153 [.lit (.int .i64 g), .vec ns.length (nodesC ns), .own (H.next + 2) 0 0 ns.length 1, .own (H.next + 3) 0 0 ns.length 1, .vec (natsI ((topo (setsL ns)).getD [])).length (ints (natsI ((topo (setsL ns)).getD [])))])).upd (H.next + 1) (.arr 0 153 [.lit (.int .i64 g), .vec ns.length (nodesC ns), .own (H.next + 2) 0 0 ns.length 1, .own (H.next + 3) 0 0 ns.length 1, .vec (natsI ((topo (setsL ns)).getD [])).length (ints (natsI ((topo (setsL ns)).getD [])))])) := (R2.ov.upd (by omega) _).upd (by omega) _
    refine FinV.dropO (v' := .tup [netR g ns, lin 0]) G0_ok hcl ovf (.tup rfl fun i hi _ => ?_) hK
    match i, hi with
    | 1, _ => exact .lit _
    | 0, _ =>
      refine .agg rfl fun i hi _ => ?_
      match i, hi with
      | 0, _ => exact .lit _
      | 1, _ => exact fz_nodes _
      | 2, _ =>
        have hg2 : ∀ b b', ((H2.upd (H.next + 4) b).upd (H.next + 1) b').get (H.next + 2) = some (.arr 0 3 (ints (cardsL ns))) := fun b b' => by rw [upd_get, if_neg (by omega), upd_get, if_neg (by omega)]; exact R2.b2
        show Fz _ _ _ (.own (H.next + 2) 0 0 ns.length 1) (.vec (cardsL ns).length (ints (cardsL ns)))
        rw [← cards_len ns]
        exact .ints (by show H.next ≤ _; omega) (hg2 _ _) (by simp) fun i hi => by simp [ints_get, hi]
      | 3, _ =>
        have hg3 : ∀ b b', ((H2.upd (H.next + 4) b).upd (H.next + 1) b').get (H.next + 3) = some (.arr 0 100 ((setsL ns).map bitV)) := fun b b' => by rw [upd_get, if_neg (by omega), upd_get, if_neg (by omega)]; exact R2.b3
        show Fz _ _ _ (.own (H.next + 3) 0 0 ns.length 1) (.vec (setsL ns).length ((setsL ns).map bitV))
        rw [← hsl]
        refine .frz (by show H.next ≤ _; omega) (hg3 _ _) (by simp) fun j hj h2 h' => ?_
        simp only [Nat.zero_add, List.getElem_map]
        exact .lit _
      | 4, _ => exact .keepInts _
  obtain ⟨x, hx⟩ := get_of_lt (l := ns) (i := k) (by omega)
  have hxm := List.mem_of_getElem? hx
  have hne := nodesC_ne hx
  have e0 := nodesC_part hx
  have e1 : k * 3 + 3 ≤ (nodesC ns).length := by rw [nodesC_len]; omega
  obtain ⟨f1, f2, f3⟩ := hf.2 x hxm
  simp (config := { maxSteps := 1000000 }) only [go_sem, h82, q4, hb2, hne, e0, e1, appendA_U]
  obtain ⟨H3, hH3⟩ : ∃ H3, H3 = ext H2 [.arr 0 91 [.lit (.int .i64 x.card), .vec x.parents.length (ints x.parents), vecV x.rows]] := ⟨_, rfl⟩
  have R3 : RdS g ns H H3 (cardsL ns) s := by rw [hH3]; exact R2.over (.ext _ _)
  have nn : H3.next = H2.next + 1 := by rw [hH3]; rfl
  have gN : H3.get H2.next = some (.arr 0 91 [.lit (.int .i64 x.card), .vec x.parents.length (ints x.parents), vecV x.rows]) := by rw [hH3]; exact ext1_get_new
  rw [← hH3]
  have hks : k < s.length := by rw [R2.sl]; omega
  have s0 : s.set k 0 = s := by
    apply List.ext_getElem?
    intro i
    rw [List.getElem?_set]
    split
    · rename_i h
      subst h
      have := hs0 k (Nat.le_refl _)
      rw [List.getD_eq_getElem?_getD, List.getElem?_eq_getElem hks] at this
      simp only [Option.getD_some] at this
      rw [List.getElem?_eq_getElem hks, this]
    · rfl
  refine W.loop0 5316911981901723452329847966222259208 (by rfl) (fun ρ2 H4 => ∃ (j : Nat) (b : Int), ρ2 90 = lin j ∧ j ≤ x.parents.length ∧ ρ2 10 = lin b ∧ PlacesOk (x.parents.take j) ns.length ∧ (x.parents.take j).getLast?.getD (-1) = b ∧ RdS g ns H H4 (cardsL ns) (s.set k (setN (x.parents.take j))) ∧ H3.next ≤ H4.next ∧ H4.get H2.next = some (.arr 0 91 [.lit (.int .i64 x.card), .vec x.parents.length (ints x.parents), vecV x.rows]) ∧ ¬ (k : Int) ∈ x.parents.take j)
    (fun ρ2 H => x.parents.length - (iv (ρ2 90)).toNat) ?_ ?_
  · simp (config := { maxSteps := 1000000 }) only [go_sem, appendA_U]
    exact ⟨0, -1, rfl, by omega, rfl, .nil, rfl, by rw [show setN (x.parents.take 0) = 0 from rfl, s0]; exact R3, gN, by simp⟩
  rintro ρ2 H4 ⟨j, b, h90, hj, h10, hp, hbl, R4, hn4, gN4, hself⟩
  refine vc_sound _ _ _ (by rfl) ?_
  have r4 := R4.nx
  have t1 := R4.l1
  have t3 := R4.l3
  have t4 := R4.l4
  have tN := get_live gN4
  by_cases hb3 : (j : Int) < x.parents.length
  · obtain ⟨a, ha⟩ := get_of_lt (l := x.parents) (i := j) (by omega)
    have ham := List.mem_of_getElem? ha
    have hane := ne_of_get ha
    by_cases d1 : a ≤ b
    · simp (config := { maxSteps := 1000000 }) only [go_sem, h90, h10, hb3, ha, hane, d1, t1, t4, guardA_undef, appendA_U]
      refine no (fun h => ?_) _ (R4.ov.upd (by omega) _)
      have hpl := (h.node x hxm).2
      have h0 := hpl.2 a ham
      rcases Nat.eq_zero_or_pos j with rfl | hk0
      · simp at hbl; omega
      · obtain ⟨i, rfl⟩ : ∃ i, j = i + 1 := ⟨j - 1, by omega⟩
        obtain ⟨b', hbj⟩ := get_of_lt (l := x.parents) (i := i) (by omega)
        rw [last_take hbj] at hbl
        have := hpl.lt hbj ha (by omega)
        simp at hbl; omega
    by_cases d2 : a ≥ ns.length
    · simp (config := { maxSteps := 1000000 }) only [go_sem, h90, h10, hb3, ha, hane, d1, d2, t1, t4, guardA_undef, appendA_U]
      exact no (fun h => by have := (h.node x hxm).2.2 a ham; omega) _ (R4.ov.upd (by omega) _)
    have h0 : 0 ≤ a := by
      rcases hg : (x.parents.take j).getLast? with _ | b'
      · rw [hg] at hbl; simp at hbl; omega
      · rw [hg] at hbl
        have := hp.2 b' (List.mem_of_getLast? hg)
        simp at hbl; omega
    by_cases d3 : a = k
    · have d1' : ¬ (k : Int) ≤ b := by omega
      have d2' : ¬ (k : Int) ≥ ns.length := by omega
      simp (config := { maxSteps := 1000000 }) only [go_sem, h90, h10, h82, hb3, ha, hane, d1, d2, d1', d2', d3, t1, t4, guardA_undef, appendA_U]
      exact no (fun h => not_acyc_self hx (fun q hq => ((h.node x hxm).2.2 q hq).1) (by rw [← d3]; exact ham) h.acyc) _ (R4.ov.upd (id := H.next + 1) (by omega) _)
    obtain ⟨u, rfl⟩ := Int.eq_ofNat_of_zero_le h0
    have w1 := IntWalk.i64_in ((j : Int) + 1) (by omega)
    have bm : setN (x.parents.take j) < 2 ^ 64 := setN_lt fun p hp' => by have := hp.2 p hp'; omega
    have v1 := fun t x y => shlB (P := Tryd.prog) (t := t) (x := x) (y := y) (k' := .i64) (s := u) (by omega)
    have v2 := fun t x y => orB (P := Tryd.prog) (t := t) (x := x) (y := y) (b := 2 ^ u) bm (Nat.pow_lt_pow_right (by decide) (by omega))
    have gs : (s.set k (setN (x.parents.take j)))[k]? = some (setN (x.parents.take j)) := List.getElem?_set_self hks
    simp (config := { maxSteps := 1000000 }) only [go_sem, h90, h10, h82, hb3, ha, hane, d1, d2, d3, t1, t4, guardA_undef, appendA_U]
    refine W.draw 7 [0, 1, 0, 7, 15, 0, 32] Tryd.mixed (by kernel_rfl) (by kernel_rfl) ?_
    simp (config := { maxSteps := 1000000 }) only [go_sem, h90, h82, hb2, t3, t4, gs, v1, v2, w1, appendA_U]
    repeat (refine And.intro (by first | omega | (simp; done) | (simp; omega) | (intros; omega) | exact ⟨rfl, by omega, by omega, all_one_ints _⟩) ?_)
    have R5 := R4.setS (k := k) (by simpa using hks) (setN (x.parents.take j) ||| 2 ^ u)
    rw [List.set_set] at R5
    have esn : setN (x.parents.take (j + 1)) = setN (x.parents.take j) ||| 2 ^ u := by rw [take_succ_get ha, setN_snoc]; rfl
    refine ⟨by rw [upd_next]; omega, ⟨j + 1, u, by simp, by omega, rfl, ?_, by rw [last_take ha]; rfl, by rw [esn]; exact R5, by rw [upd_next]; omega, by rw [upd_get, if_neg (by omega)]; exact gN4, fun hm => ?_⟩, by omega⟩
    · rw [take_succ_get ha]
      exact hp.snoc ⟨by omega, by omega⟩ fun b' hb' => by rw [hb'] at hbl; simp at hbl; omega
    · rw [take_succ_get ha] at hm
      rcases List.mem_append.1 hm with hm | hm
      · exact hself hm
      · exact d3 (List.mem_singleton.1 hm).symm
  · have hb3' := hb3
    rw [List.take_of_length_le (by omega)] at hp hself R4
    simp (config := { maxSteps := 1000000 }) only [go_sem, h90, hb3, t4, tN, appendA_U]
    have hin : InRange x.parents ns.length := fun q hq => by have := hp.2 q hq; omega
    refine AApply.clo (filledN_frame g ⟨by omega, by omega⟩ ns _ x hin (parC_small (by omega) hp hall) f2 f3 _ (H.next + 2) (H.next + 3) R4.b2 R4.b3 R4.sl _ ⟨trivial, ?_⟩)
    cases hnb : nodeB g ns x
    · simp (config := { maxSteps := 1000000 }) only [go_sem, t1, appendA_U]
      exact no (fun h => by rw [nodeB_true (h.rows x hxm)] at hnb; cases hnb) _ (R4.ov.upd (by omega) _)
    have w1 := IntWalk.i64_in ((k : Int) + 1) (by omega)
    simp (config := { maxSteps := 1000000 }) only [go_sem, h82, w1, appendA_U]
    refine ⟨by omega, ⟨k + 1, _, by simp, by omega, R4, by omega, ?_, fun i hi => ?_, fun y hy => ?_⟩, by omega⟩
    · have h1 := setsL_get hx
      rw [take_succ_get h1, take_succ_get (List.getElem?_set_self hks), List.take_set_of_le (Nat.le_refl k), hs]
    · rw [List.getD_eq_getElem?_getD, List.getElem?_set_ne (by omega), ← List.getD_eq_getElem?_getD]
      exact hs0 i (by omega)
    · rw [take_succ_get hx] at hy
      rcases List.mem_append.1 hy with hy | hy
      · exact hall2 y hy
      · obtain rfl := List.mem_singleton.1 hy; exact ⟨hp, nodeB_iff.1 hnb⟩

theorem netCheck_spec (g : Int) (ns : List NodeP) (hf : NetFit ns) (H : AHeap) (K : ARes → AHeap → Prop) (hK : K (.ret (lin (if netB g ns then 0 else 50))) H) : ACall Tryd.prog G0 66 [netV g ns] H K := by
  refine ACall.clo ⟨_, Tryd.func66, rfl, rfl⟩ fun hcl => ?_
  refine ACall.of_body (n := 11) (rs := [.tmp 2]) Tryd.func66 rfl rfl rfl (by decide) (by kernel_rfl) (by simp) ?_
  simp (config := { maxSteps := 1000000 }) only [go_sem, netV, nodesV, appendA_U]
  refine AApply.clo (read_spec g ns hf _ _ ⟨trivial, ?_⟩)
  cases hb : netB g ns
  · rw [hb] at hK
    simp (config := { maxSteps := 1000000 }) only [go_sem, netZv, ints_nil, List.length_nil, appendA_U]
    exact FinV.dropO G0_ok hcl (.ext _ _) (.lit _) hK
  · rw [hb] at hK
    simp (config := { maxSteps := 1000000 }) only [go_sem, netR, nodesV, appendA_U]
    exact FinV.dropO G0_ok hcl (.ext _ _) (.lit _) hK
end Go.Proofs
namespace Go.Hx
variable {P : Program} {G : Nat → Option (List AVal)}
def AHeap.melt (H : AHeap) (rk ob : Nat) (b : Blk) : AHeap := ⟨fun id => if id = rk then none else if id = ob then some b else H.get id, H.next⟩
theorem fzH_melt {H : AHeap} (hc : Clo H) {rk ob g : Nat} {e : TypeId} {cells cells' : List AVal} (hob : H.get ob = some (.arr g e cells)) (hne : ob ≠ rk) (hl : cells'.length = cells.length)
    (hcell : ∀ i (h : i < cells.length) (h' : i < cells'.length), Fz (fun id => id = rk) H H.next cells[i] cells'[i]) : FzH (fun id => id = rk) H (H.melt rk ob (.arr g e cells')) where
  gone id hs := by simp [AHeap.melt, hs]
  kept id b hs hb := by
    have hbb := hc.below id b hb
    refine ⟨hc.lt id b hb, ?_⟩
    by_cases h : id = ob
    · subst h
      rw [hob] at hb
      cases hb
      exact ⟨.arr g e cells', by simp [AHeap.melt, hs], rfl, rfl, hl, hcell⟩
    · refine ⟨b, by simp [AHeap.melt, hs, h, hb], ?_⟩
      cases b with
      | rsv => trivial
      | mp => rfl
      | arr g e cells => exact ⟨rfl, rfl, rfl, fun i h _ => .dead (hbb i h)⟩
      | loop st pend n env ps asg body => exact ⟨rfl, rfl, rfl, rfl, rfl, rfl, rfl, fun t ht => .dead (hbb t ht)⟩
  none id hs hb := by
    by_cases h : id = ob
    · subst h; rw [hob] at hb; cases hb
    · simp [AHeap.melt, hs, h, hb]
theorem WeakS.melt (hG : GOk G) {s : St} {rk ob g : Nat} {e : TypeId} {cells cells' : List AVal} (hob : s.H.get ob = some (.arr g e cells)) (hne : ob ≠ rk) (hl : cells'.length = cells.length)
    (hcell : ∀ i (h : i < cells.length) (h' : i < cells'.length), Fz (fun id => id = rk) s.H s.H.next cells[i] cells'[i]) : WeakS P G s ⟨s.ρ, s.H.melt rk ob (.arr g e cells')⟩ := by
  intro n wb Γ a w hs
  exact WeakS.freeze (s := s) (s' := ⟨s.ρ, s.H.melt rk ob (.arr g e cells')⟩) hG (fzH_melt hs.heap.clo hob hne hl hcell) (fun t => .dead (hs.env t).belowN) n wb Γ a w hs
theorem melt_ob {H : AHeap} {rk ob : Nat} {b : Blk} (h : ob ≠ rk) : (H.melt rk ob b).get ob = some b := by simp [AHeap.melt, h]
theorem melt_other {H : AHeap} {rk ob id : Nat} {b : Blk} (h : id ≠ rk) (h2 : id ≠ ob) : (H.melt rk ob b).get id = H.get id := by simp [AHeap.melt, h, h2]

theorem fz_set {S : Nat → Prop} {H : AHeap} {nx : Nat} {l : List AVal} {i : Nat} {a b : AVal} (hl : ∀ v, v ∈ l → Fz S H nx v v) (hab : Fz S H nx a b) : ∀ j (h : j < (l.set i a).length) (h' : j < (l.set i b).length), Fz S H nx (l.set i a)[j] (l.set i b)[j] := by
  intro j h h'
  rw [List.getElem_set, List.getElem_set]
  split
  · exact hab
  · exact hl _ (List.getElem_mem _)
theorem W.postWeak {n : Nat} {rd : Option Nat} {Q Q' : AX → St → Prop} {c : Code} {s : St} (h : W P G n rd c Q' s) (hw : ∀ e s2, Q' e s2 → ∃ s3, WeakS P G s2 s3 ∧ s2.H.next ≤ s3.H.next ∧ RdIn s3.H rd ∧ Q e s3) : W P G n rd c Q s := by
  intro wb Γ a w rb hs hr
  refine wpIn_mono (h wb Γ a w rb hs hr) fun e a' w' hp => ?_
  obtain ⟨x, s', Γ', hx, hq, hrel, E, hn, hrd, hfr⟩ := hp
  obtain ⟨s3, hw3, hn3, hri, hq3⟩ := hw x s' hq
  obtain ⟨Γ3, hs3, E3, hrd3⟩ := hw3 n wb Γ' a' w' hrel
  exact ⟨x, s3, Γ3, hx, hq3, hs3, E.trans hn E3, Nat.le_trans hn hn3, hrd3 rd rb hrd hri, hfr⟩

theorem OwnG.ne {lo : Nat} {H : AHeap} {e : TypeId} {v : AVal} {cs : List AVal} (h : OwnG lo H e v cs) {k : Nat} (hk : k < lo) : ∀ g n, v ≠ .own k g 0 n 1 := fun g n he => by
  rcases h with ⟨h, _⟩ | ⟨i2, g2, a1, _, h, _⟩
  · rw [h] at he; cases he
  · rw [h] at he; have := AVal.own.inj he; omega
def OwnZ (lo : Nat) (H : AHeap) (e : TypeId) (z : Nat) (v : AVal) (n : Nat) (cs : List AVal) : Prop :=
  (v = .lit (.slice none 0 0) ∧ n = 0 ∧ cs = []) ∨ ∃ id g, lo ≤ id ∧ id < H.next ∧ v = .own id g 0 n z ∧ cs.length = n * z ∧ H.get id = some (.arr g e cs)
theorem OwnZ.nil {lo : Nat} {H : AHeap} {e : TypeId} {z : Nat} : OwnZ lo H e z (.lit (.slice none 0 0)) 0 [] := .inl ⟨rfl, rfl, rfl⟩
theorem OwnZ.keep {lo : Nat} {H H' : AHeap} {e : TypeId} {z n : Nat} {v : AVal} {cs : List AVal} (h : OwnZ lo H e z v n cs) (hn : H.next ≤ H'.next) (hk : ∀ id g, lo ≤ id → id < H.next → v = .own id g 0 n z → H'.get id = H.get id) : OwnZ lo H' e z v n cs := by
  rcases h with h | ⟨id, g, h1, h2, h3, h4, h5⟩
  · exact .inl h
  · exact .inr ⟨id, g, h1, by omega, h3, h4, (hk id g h1 h2 h3).trans h5⟩
theorem OwnZ.over {lo : Nat} {H H' : AHeap} {e : TypeId} {z n : Nat} {v : AVal} {cs : List AVal} (h : OwnZ lo H e z v n cs) (ho : Over H H') : OwnZ lo H' e z v n cs := h.keep ho.next fun id _ _ h2 _ => ho.old id h2
theorem OwnZ.one {lo : Nat} {H : AHeap} {e : TypeId} {z n : Nat} {v : AVal} {cs : List AVal} (h : OwnZ lo H e z v n cs) : v.one = true := by
  rcases h with ⟨rfl, _⟩ | ⟨_, _, _, _, rfl, _⟩ <;> rfl
theorem OwnZ.cells {lo : Nat} {H : AHeap} {e : TypeId} {z n : Nat} {v : AVal} {cs : List AVal} (h : OwnZ lo H e z v n cs) : v.cells = [v] := by
  rcases h with ⟨rfl, _⟩ | ⟨_, _, _, _, rfl, _⟩ <;> rfl
theorem OwnZ.ne {lo : Nat} {H : AHeap} {e : TypeId} {z m : Nat} {v : AVal} {cs : List AVal} (h : OwnZ lo H e z v m cs) {k : Nat} (hk : k < lo) : ∀ g n, v ≠ .own k g 0 n z := fun g n he => by
  rcases h with ⟨h, _⟩ | ⟨i2, g2, a1, _, h, _⟩
  · rw [h] at he; cases he
  · rw [h] at he; have := AVal.own.inj he; omega
theorem app_oneZ {H : AHeap} {t e : TypeId} {lo n z m : Nat} {v : AVal} {cs xs : List AVal} {zs : List AVal} (ht : P.underlying t = some (.slice e)) (hz : P.cellsOf e = z) (hzero : zeroA P e = some zs) (hx : xs.all AVal.one = true) (hxl : xs.length = z)
    (hb : (n + 1) * P.bytesOf e ≤ 2 ^ 46 ∧ n + 1 ≤ 2 ^ 46) (ho : OwnZ lo H e z v n cs) (hlo : lo ≤ H.next) (hn : m = H.next + 1) :
    ∃ v' H', appendA P (ext H [.arr 0 e xs]) m t t v (.own H.next 0 0 1 z) = some (v', H') ∧ OwnZ lo H' e z v' (n + 1) (cs ++ xs) ∧ H.next ≤ H'.next ∧ (∀ k, k < H.next → (∀ g n, v ≠ .own k g 0 n z) → H'.get k = H.get k) := by
  have hne : (ext H [.arr 0 e xs]).next = H.next + 1 := rfl
  have hsrc : sourceA (ext H [.arr 0 e xs]) z (.own H.next 0 0 1 z) = some (1, xs) := by
    unfold sourceA
    have := get_live (H := ext H [.arr 0 e xs]) (g := 0) (ext1_get_new (b := .arr 0 e xs))
    simp [this, ← hxl]
  rcases ho with ⟨rfl, rfl, rfl⟩ | ⟨i, g, h1, h2, rfl, h4, h5⟩
  · refine ⟨.own m 0 0 1 z, ext (ext H [.arr 0 e xs]) [.arr 0 e xs], ?_, .inr ⟨m, 0, by omega, by rw [ext_next, hne, hn]; simp, by simp, by simp [hxl], ?_⟩, by rw [ext_next, hne]; omega, fun k hk _ => ?_⟩
    · unfold appendA; rw [ht]
      simp only [hzero, hz, Option.bind_some]
      rw [hsrc]
      simp only [Option.bind_some]
      rw [if_neg (by decide), if_pos (by simpa using hb), lay_at (by rw [hn, hne])]
      rfl
    · rw [hn, ← hne]; exact ext1_get_new
    · rw [ext1_get_old (by rw [hne]; omega), ext1_get_old hk]
  · have h5' : (ext H [.arr 0 e xs]).get i = some (.arr g e cs) := by rw [ext1_get_old h2]; exact h5
    refine ⟨.own i (g + 1) 0 (n + 1) z, (ext H [.arr 0 e xs]).upd i (.arr (g + 1) e (cs ++ xs)), ?_, .inr ⟨i, g + 1, h1, by rw [upd_next, hne]; omega, rfl, by simp [h4, hxl, Nat.add_mul], by rw [upd_get, if_pos rfl]⟩, by rw [upd_next, hne]; omega, fun k hk hne2 => ?_⟩
    · unfold appendA; rw [ht]
      have hl := get_live h5'
      simp only [hzero, hz, Option.bind_some]
      rw [hsrc]
      simp only [Option.bind_some, hl]
      rw [if_pos ⟨trivial, trivial, by omega, hb.1, hb.2, hx⟩]
      simp
    · rw [upd_get, if_neg, ext1_get_old hk]
      rintro rfl; exact hne2 _ _ rfl
end Go.Hx
