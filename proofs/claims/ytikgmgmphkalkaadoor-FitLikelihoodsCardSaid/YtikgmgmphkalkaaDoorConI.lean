/- Own work: contracts. -/
import Derived.Test.YtikgmgmphkalkaaDoorConH
import Derived.Test.YtikgmgmphkalkaaDoorConB
import Derived.Test.YtikgmgmphkalkaaDoorConD
set_option linter.all false
set_option maxRecDepth 100000
namespace Go.Proofs
open Go.Hx
theorem app_intG {lo : Nat} {H' : AHeap} {v : AVal} {l : List Int} (x : Int) (h : OwnG lo H' 3 v (ints l)) (hlo : lo ≤ H'.next) (hl : l.length < 2 ^ 40) :
    ∃ v' H2, appendA Tryd.prog (ext H' [.arr 0 3 [.lit (.int .i64 x)]]) (H'.next + 1) 22 22 v (.own H'.next 0 0 1 1) = some (v', H2) ∧ OwnG lo H2 3 v' (ints (l ++ [x])) ∧ H'.next ≤ H2.next ∧ (∀ k, k < H'.next → (∀ g n, v ≠ .own k g 0 n 1) → H2.get k = H'.get k) := by
  obtain ⟨v', H2, hA, hO, hn2, hp⟩ := app_oneG (P := Tryd.prog) (H := H') (t := 22) (x := lin x) (n := H'.next + 1) Tryd.underlying22 Tryd.cells3 Tryd.zero3 rfl (by rw [Tryd.bytes3, ints_length]; omega) h hlo rfl
  simp only [lin] at hA
  exact ⟨v', H2, hA, by simpa [ints, lin] using hO, hn2, hp⟩
theorem ownD2_one {lo : Nat} {H : AHeap} {e1 e0 : TypeId} {v : AVal} {rows : List (List AVal)} (h : OwnD2 lo H e1 e0 v rows) : v.one = true ∧ v.cells = [v] := let ⟨_, a, _⟩ := h; ⟨a.one, a.cells⟩
theorem ownD2_upd {lo : Nat} {H : AHeap} {e1 e0 : TypeId} {v : AVal} {rows : List (List AVal)} (h : OwnD2 lo H e1 e0 v rows) {k : Nat} {b : Blk} (hk : k < lo) : OwnD2 lo (H.upd k b) e1 e0 v rows :=
  let ⟨cs, a, b', c, e⟩ := h
  have u : ∀ {u : AVal} {e : TypeId} {l : List AVal}, OwnG lo H e u l → OwnG lo (H.upd k b) e u l := fun h => h.keep (Nat.le_refl _) (by rw [upd_next]; exact Nat.le_refl _) fun i _ h1 _ _ _ => by rw [upd_get, if_neg (by omega)]
  ⟨cs, u a, b', fun j r q h1 h2 => u (c j r q h1 h2), e⟩
abbrev data25B (d : D25) : Blk := .arr 0 37 [.vec d.cards.length (bytesL d.cards), .vec d.cases.length (casesC d.cases), .lit (.int .u8 d.follow), .vec d.miss.length (bytesL d.miss)]
abbrev dBlk (a b : AVal) : Blk := .arr 0 50 [a, b]
set_option maxHeartbeats 4000000 in
theorem data25_spec (d : D25) (hd : d.Ok) (H : AHeap) (K : ARes → AHeap → Prop) (hK : K (.ret (dataV (cardsD d) (missD d))) H) : ACall Tryd.prog G0 15 [.agg d.cells] H K := by
  refine ACall.clo ⟨_, Tryd.func15, rfl, rfl⟩ fun hcl => ?_
  refine ACall.of_bodyW (n := 139) (rs := [.cell 2 50]) Tryd.func15 rfl rfl rfl (by decide) (by simp) ?_
  refine W.seq (vc_sound _ _ _ (by rfl) ?_)
  simp (config := { maxSteps := 1000000 }) only [go_sem, D25.cells, appendA_U]
  refine W.seq (vc_sound _ _ _ (by rfl) ?_)
  simp (config := { maxSteps := 1000000 }) only [go_sem, appendA_U]
  obtain ⟨H1, hH1⟩ : ∃ H1, H1 = ext H [data25B d, dBlk (.lit (.slice none 0 0)) (.lit (.slice none 0 0)), dBlk (.lit (.slice none 0 0)) (.lit (.slice none 0 0))] := ⟨_, rfl⟩
  have b0 : H1.get H.next = some (data25B d) := by rw [hH1]; exact get_ext0 ..
  have b1 : H1.get (H.next + 1) = some (dBlk (.lit (.slice none 0 0)) (.lit (.slice none 0 0))) := by rw [hH1]; exact get_ext H _ 1 (by simp)
  have b2 : H1.get (H.next + 2) = some (dBlk (.lit (.slice none 0 0)) (.lit (.slice none 0 0))) := by rw [hH1]; exact get_ext H _ 2 (by simp)
  have n1 : H1.next = H.next + 3 := by rw [hH1]; rfl
  have o1 : Over H H1 := by rw [hH1]; exact .ext _ _
  refine W.env fun E hE => ?_
  have e1 : E 1 = .ptr H.next 0 0 := by rw [hE]; simp (config := { maxSteps := 1000000 }) only [go_sem, appendA_U]
  have e2 : E 2 = .ptr (H.next + 1) 0 0 := by rw [hE]; simp (config := { maxSteps := 1000000 }) only [go_sem, appendA_U]
  have e3 : E 3 = .ptr (H.next + 2) 0 0 := by rw [hE]; simp (config := { maxSteps := 1000000 }) only [go_sem, appendA_U]
  clear hE
  rw [← hH1]
  clear hH1
  refine W.midN (fun s' => s'.ρ 1 = .ptr H.next 0 0 ∧ s'.ρ 2 = .ptr (H.next + 1) 0 0 ∧ s'.ρ 3 = .ptr (H.next + 2) 0 0 ∧ H.next + 3 ≤ s'.H.next ∧ (∀ id, id < H.next + 2 → s'.H.get id = H1.get id) ∧ ∃ cv, s'.H.get (H.next + 2) = some (dBlk cv (.lit (.slice none 0 0))) ∧ OwnG (H.next + 3) s'.H 3 cv (ints (cardsK d.cards))) ?_ ?_
  · refine W.seq (vc_sound _ _ _ (by rfl) ?_)
    simp (config := { maxSteps := 1000000 }) only [go_sem, appendA_U]
    refine W.block ?_
    refine W.loop0 34359736336 (by rfl) (fun ρ Hx => ∃ (k : Nat) (cv : AVal), ρ 4 = lin k ∧ k ≤ d.cards.length ∧ k ≤ 5 ∧ H.next + 3 ≤ Hx.next ∧ (∀ id, id < H.next + 2 → Hx.get id = H1.get id) ∧ Hx.get (H.next + 2) = some (dBlk cv (.lit (.slice none 0 0))) ∧ OwnG (H.next + 3) Hx 3 cv (ints ((d.cards.take k).map fun x => 2 + x % 2))) (fun ρ H => 5 - (iv (ρ 4)).toNat) ?_ ?_
    · simp (config := { maxSteps := 1000000 }) only [go_sem, appendA_U]
      exact ⟨0, _, rfl, by omega, by omega, by omega, b2, .nil⟩
    rintro ρ Hx ⟨k, cv, h4, hk, hk5, hn, hold, hb2, hO⟩
    refine vc_sound _ _ _ (by rfl) ?_
    have l0 := get_live ((hold _ (by omega)).trans b0)
    have l2 := get_live hb2
    by_cases c1 : (k : Int) < d.cards.length
    rotate_left
    · simp (config := { maxSteps := 1000000 }) only [go_sem, e1, e2, e3, h4, l0, c1, guardA_undef, appendA_U]
      rw [List.take_of_length_le (by omega)] at hO
      refine ⟨by omega, hold, cv, hb2, ?_⟩
      unfold cardsK
      rw [List.take_of_length_le (by omega)]
      exact hO
    by_cases c2 : (k : Int) < 5
    rotate_left
    · simp (config := { maxSteps := 1000000 }) only [go_sem, e1, e2, e3, h4, l0, c1, c2, guardA_undef, appendA_U]
      obtain rfl : k = 5 := by omega
      exact ⟨by omega, hold, cv, hb2, hO⟩
    obtain ⟨x, hx⟩ := get_of_lt (l := d.cards) (i := k) (by omega)
    have x8 := hd.c8 x (List.mem_of_getElem? hx)
    unfold U8 at x8
    have hx' := bytesL_get hx
    have hxn := ne_of_get hx'
    have m2 : x.tmod 2 = x % 2 := Int.tmod_eq_emod_of_nonneg x8.1
    have u1 : IntKind.u8.wrap (x % 2) = x % 2 := IntWalk.u8_in _ (by omega)
    have u2 := IntWalk.i64_in (x % 2) (by omega)
    have u3 := IntWalk.i64_in (2 + x % 2) (by omega)
    have w1 := IntWalk.i64_in ((k : Int) + 1) (by omega)
    obtain ⟨cv2, H3, hA, hO3, hn3, hp⟩ := app_intG (2 + x % 2) hO hn (by rw [List.length_map, List.length_take]; omega)
    have hcells := hO3.cells
    have hone := hO3.one
    have g3 := (hp _ (by omega) (hO.ne (by omega))).trans hb2
    have l3 := get_live g3
    simp (config := { maxSteps := 1000000 }) only [go_sem, e1, e2, e3, h4, l0, c1, c2, guardA_undef, appendA_U]
    refine W.draw 11 [0, 1, 0, 4, 0, 28, 60, 124, 252, 508, 1020] Tryd.mixed (by kernel_rfl) (by kernel_rfl) ?_
    simp (config := { maxSteps := 1000000 }) only [go_sem, e1, e2, e3, h4, l0, l2, c1, hx', hxn, m2, u1, u2, u3, w1, hA, l3, hcells, hone]
    repeat (refine And.intro (by first | omega | (simp; done) | (simp; omega) | (intros; omega) | exact ⟨rfl, by omega, by omega, all_one_ints _⟩) ?_)
    refine ⟨by rw [upd_next]; omega, ⟨k + 1, cv2, rfl, by omega, by omega, by rw [upd_next]; omega, fun id h => by rw [upd_get, if_neg (by omega), hp id (by omega) (hO.ne (by omega))]; exact hold id h, by rw [upd_get, if_pos rfl], ?_⟩, by omega⟩
    rw [take_succ_get hx, List.map_append]
    exact hO3.keep (Nat.le_refl _) (by rw [upd_next]; omega) fun id g h1 _ _ _ => by rw [upd_get, if_neg (by omega)]
  rintro ⟨ρ1, Ha⟩ ⟨p1, p2, p3, hn, hold, cv, hb2, hO⟩
  simp only at p1 p2 p3 hn hold hb2 hO
  refine W.midN (fun s' => s'.ρ 1 = .ptr H.next 0 0 ∧ s'.ρ 2 = .ptr (H.next + 1) 0 0 ∧ s'.ρ 3 = .ptr (H.next + 2) 0 0 ∧ H.next + 3 ≤ s'.H.next ∧ (∀ id, id < H.next + 2 → s'.H.get id = H1.get id) ∧ s'.H.get (H.next + 2) = some (dBlk (vecI (cardsD d)) (.lit (.slice none 0 0)))) (W.postWeak (Q' := fun e s' => e = .normal ∧ s'.ρ 1 = .ptr H.next 0 0 ∧ s'.ρ 2 = .ptr (H.next + 1) 0 0 ∧ s'.ρ 3 = .ptr (H.next + 2) 0 0 ∧ H.next + 3 ≤ s'.H.next ∧ (∀ id, id < H.next + 2 → s'.H.get id = H1.get id) ∧ ∃ cv, s'.H.get (H.next + 2) = some (dBlk cv (.lit (.slice none 0 0))) ∧ OwnG (H.next + 3) s'.H 3 cv (ints (cardsD d))) ?_ ?_) ?_
  · have l2 := get_live hb2
    have hone := hO.one
    have hlen := own_len hO (d := some (.slice 3)) rfl
    rw [ints_length] at hlen
    refine vc_sound _ _ _ (by rfl) ?_
    by_cases hc : cardsK d.cards = []
    · have hl0 : ((cardsK d.cards).length : Int) = 0 := by rw [hc]; rfl
      have l2e : ∀ L, (ext Ha L).live (H.next + 2) 0 = _ := fun L => (ext_live_old (by omega)).trans l2
      simp (config := { maxSteps := 1000000 }) only [go_sem, p1, p2, p3, l2, l2e, hlen, hl0, appendA_U]
      refine ⟨by rw [upd_next, ext_next]; omega, fun id h => by rw [upd_get, if_neg (by omega), get_ext_old _ _ _ (by omega)]; exact hold id h, .own Ha.next 0 0 1 1, by rw [upd_get, if_pos rfl], ?_⟩
      unfold cardsD
      rw [if_pos hc]
      exact .inr ⟨Ha.next, 0, hn, by rw [upd_next, ext_next]; simp, rfl, by rw [upd_get, if_neg (by omega)]; exact ext1_get_new⟩
    · have hl0 : ¬ ((cardsK d.cards).length : Int) = 0 := fun h => hc (List.eq_nil_of_length_eq_zero (by omega))
      simp (config := { maxSteps := 1000000 }) only [go_sem, p1, p2, p3, l2, hlen, hl0, appendA_U]
      refine ⟨hn, hold, cv, hb2, ?_⟩
      unfold cardsD
      rw [if_neg hc]
      exact hO
  · rintro e ⟨ρ2, Hb⟩ ⟨rfl, q1, q2, q3, qn, qold, cv2, qb, qO⟩
    simp only at q1 q2 q3 qn qold qb qO
    refine ⟨⟨ρ2, Hb.meltN (H.next + 3) (H.next + 2) (dBlk (vecI (cardsD d)) (.lit (.slice none 0 0)))⟩, WeakS.meltN G0_ok qb (by omega) rfl (fun i hi _ => ?_), Nat.le_refl _, trivial, rfl, q1, q2, q3, qn, fun id h => by rw [meltN_other (by omega) (by omega)]; exact qold id h, meltN_ob (by omega)⟩
    match i, hi with
    | 0, _ => exact qO.fzI fun i h => h
    | 1, _ => exact .lit _
  rintro ⟨ρ2, Hb⟩ ⟨p1, p2, p3, hn, hold, hb2⟩
  simp only at p1 p2 p3 hn hold hb2

  obtain ⟨cs, hcs⟩ : ∃ cs, cs = cardsD d := ⟨_, rfl⟩
  obtain ⟨n, hnl⟩ : ∃ n, n = cs.length := ⟨_, rfl⟩
  have n5 : 1 ≤ n ∧ n ≤ 5 := by rw [hnl, hcs]; exact cardsD_len d
  have crng : ∀ c ∈ cs, 2 ≤ c ∧ c ≤ 3 := by rw [hcs]; exact cardsD_rng d
  have hrow : casesD d = (d.cases.take 40).map fun r => caseS cs d.follow r n := by unfold casesD; rw [← hcs, ← hnl]
  rw [← hcs] at hb2
  have clen := casesC_len (l := d.cases) fun r hr => (hd.x8 r hr).1
  have f8 := hd.f8
  unfold U8 at f8
  have fm : d.follow.tmod 8 = d.follow % 8 := Int.tmod_eq_emod_of_nonneg f8.1
  have fu : IntKind.u8.wrap (d.follow % 8) = d.follow % 8 := IntWalk.u8_in _ (by omega)
  have fi := IntWalk.i64_in (d.follow % 8) (by omega)
  refine W.midN (fun s' => s'.ρ 1 = .ptr H.next 0 0 ∧ s'.ρ 2 = .ptr (H.next + 1) 0 0 ∧ s'.ρ 3 = .ptr (H.next + 2) 0 0 ∧ H.next + 3 ≤ s'.H.next ∧ (∀ id, id < H.next + 2 → s'.H.get id = H1.get id) ∧ ∃ xv, s'.H.get (H.next + 2) = some (dBlk (vecI cs) xv) ∧ OwnD2 (H.next + 3) s'.H 22 3 xv ((casesD d).map ints)) ?_ ?_
  · refine W.seq (vc_sound _ _ _ (by rfl) ?_)
    simp (config := { maxSteps := 1000000 }) only [go_sem, appendA_U]
    refine W.block ?_
    refine W.loop0 633825300114114698549328347616 (by rfl) (fun ρ Hi => ∃ (i : Nat) (xv : AVal), ρ 5 = lin i ∧ i ≤ d.cases.length ∧ i ≤ 40 ∧ Hb.next ≤ Hi.next ∧ (∀ id, id < H.next + 2 → Hi.get id = H1.get id) ∧ Hi.get (H.next + 2) = some (dBlk (vecI cs) xv) ∧ OwnD2 (H.next + 3) Hi 22 3 xv (((d.cases.take i).map fun r => caseS cs d.follow r n).map ints)) (fun ρ H => 40 - (iv (ρ 5)).toNat) ?_ ?_
    · simp (config := { maxSteps := 1000000 }) only [go_sem, appendA_U]
      exact ⟨0, _, rfl, by omega, by omega, hold, hb2, .nil⟩
    rintro ρ Hi ⟨i, xv, h5, hi, hi4, hni', holdi, hbi, hD⟩
    have hni : H.next + 3 ≤ Hi.next := by omega
    refine W.env fun E hE => ?_
    have a1 : E 1 = .ptr H.next 0 0 := by rw [hE]; simp (config := { maxSteps := 1000000 }) only [go_sem, p1, appendA_U]
    have a2 : E 2 = .ptr (H.next + 1) 0 0 := by rw [hE]; simp (config := { maxSteps := 1000000 }) only [go_sem, p2, appendA_U]
    have a3 : E 3 = .ptr (H.next + 2) 0 0 := by rw [hE]; simp (config := { maxSteps := 1000000 }) only [go_sem, p3, appendA_U]
    have a5 : E 5 = lin i := by rw [hE]; simp (config := { maxSteps := 1000000 }) only [go_sem, h5, appendA_U]
    clear hE
    have l0 := get_live ((holdi _ (by omega)).trans b0)
    have l2 := get_live hbi
    by_cases c1 : (i : Int) < d.cases.length
    rotate_left
    · refine vc_sound _ _ _ (by rfl) ?_
      simp (config := { maxSteps := 1000000 }) only [go_sem, a1, a2, a3, a5, l0, c1, guardA_undef, appendA_U]
      rw [List.take_of_length_le (by omega)] at hD
      refine ⟨by omega, holdi, xv, hbi, ?_⟩
      rw [hrow, List.take_of_length_le (by omega)]
      exact hD
    by_cases c2 : (i : Int) < 40
    rotate_left
    · refine vc_sound _ _ _ (by rfl) ?_
      simp (config := { maxSteps := 1000000 }) only [go_sem, a1, a2, a3, a5, l0, c1, c2, guardA_undef, appendA_U]
      obtain rfl : i = 40 := by omega
      refine ⟨by omega, holdi, xv, hbi, ?_⟩
      rw [hrow]
      exact hD
    obtain ⟨raw, hraw⟩ := get_of_lt (l := d.cases) (i := i) (by omega)
    obtain ⟨r5, r8⟩ := hd.x8 raw (List.mem_of_getElem? hraw)
    have rnn : ∀ x ∈ raw, 0 ≤ x := fun x hx => (r8 x hx).1
    refine W.seq (vc_sound _ _ _ (by rfl) ?_)
    simp (config := { maxSteps := 1000000 }) only [go_sem, a1, a2, a3, a5, l0, c1, c2, guardA_undef, appendA_U]
    refine W.seq (W.block ?_)
    refine W.seq (vc_sound _ _ _ (by rfl) ?_)
    simp (config := { maxSteps := 1000000 }) only [go_sem, appendA_U]
    refine W.midN (fun s' => s'.ρ 1 = .ptr H.next 0 0 ∧ s'.ρ 2 = .ptr (H.next + 1) 0 0 ∧ s'.ρ 3 = .ptr (H.next + 2) 0 0 ∧ s'.ρ 5 = lin i ∧ Over Hi s'.H ∧ OwnG Hi.next s'.H 3 (s'.ρ 6) (ints (caseS cs d.follow raw n))) ?_ ?_
    · refine W.seq (vc_sound _ _ _ (by rfl) ?_)
      simp (config := { maxSteps := 1000000 }) only [go_sem, appendA_U]
      refine W.block ?_
      refine W.loop0 9903520314278538599565623744 (by rfl) (fun ρ2 Hj => ∃ v : Nat, ρ2 7 = lin v ∧ v ≤ n ∧ Over Hi Hj ∧ OwnG Hi.next Hj 3 (ρ2 6) (ints (caseS cs d.follow raw v))) (fun ρ2 H => n - (iv (ρ2 7)).toNat) ?_ ?_
      · simp (config := { maxSteps := 1000000 }) only [go_sem, appendA_U]
        exact ⟨0, rfl, by omega, .refl _, .nil⟩
      rintro ρ3 Hj ⟨v, h7, hv, ov, hO⟩
      refine W.env fun E2 hE2 => ?_
      have d1 : E2 1 = .ptr H.next 0 0 := by rw [hE2]; simp (config := { maxSteps := 1000000 }) only [go_sem, a1, appendA_U]
      have d2 : E2 2 = .ptr (H.next + 1) 0 0 := by rw [hE2]; simp (config := { maxSteps := 1000000 }) only [go_sem, a2, appendA_U]
      have d3 : E2 3 = .ptr (H.next + 2) 0 0 := by rw [hE2]; simp (config := { maxSteps := 1000000 }) only [go_sem, a3, appendA_U]
      have d5 : E2 5 = lin i := by rw [hE2]; simp (config := { maxSteps := 1000000 }) only [go_sem, a5, appendA_U]
      have d7 : E2 7 = lin v := by rw [hE2]; simp (config := { maxSteps := 1000000 }) only [go_sem, h7, appendA_U]
      obtain ⟨cv, hcv⟩ : ∃ cv, cv = ρ3 6 := ⟨_, rfl⟩
      have d6 : E2 6 = cv := by rw [hE2, hcv]; simp (config := { maxSteps := 1000000 }) only [go_sem, appendA_U]
      rw [← hcv] at hO
      clear hE2
      have m0 := (ov.live (g := 0) (by omega : H.next < Hi.next)).trans l0
      have m2 := (ov.live (g := 0) (by omega : H.next + 2 < Hi.next)).trans l2
      have ovn := ov.next
      by_cases c3 : (v : Int) < cs.length
      rotate_left
      · refine vc_sound _ _ _ (by rfl) ?_
        simp (config := { maxSteps := 1000000 }) only [go_sem, d1, d2, d3, d5, d6, d7, m0, m2, c3, appendA_U]
        obtain rfl : v = n := by omega
        exact ⟨ov, hO⟩
      obtain ⟨x, hx⟩ := get_of_lt (l := raw) (i := v) (by omega)
      obtain ⟨c, hc⟩ := get_of_lt (l := cs) (i := v) (by omega)
      have x8 := r8 x (List.mem_of_getElem? hx)
      unfold U8 at x8
      have hxc := casesC_get (fun r hr => (hd.x8 r hr).1) hraw hx
      have hxn := ne_of_get hxc
      have v5 : (v : Int) < 5 := by omega
      have ux := IntWalk.i64_in x (by omega)
      refine W.seq (vc_sound _ _ _ (by rfl) ?_)
      simp (config := { maxSteps := 1000000 }) only [go_sem, d1, d2, d3, d5, d6, d7, m0, m2, c3, appendA_U]
      refine W.seq (W.block ?_)
      refine W.seq (vc_sound _ _ _ (by rfl) ?_)
      simp (config := { maxSteps := 1000000 }) only [go_sem, d1, d2, d3, d5, d6, d7, m0, m2, c1, hxc, hxn, v5, ux, appendA_U]
      have xm : x.tmod 8 = x % 8 := Int.tmod_eq_emod_of_nonneg x8.1
      have cl := caseS_len cs d.follow raw v
      obtain ⟨y, hy⟩ : ∃ y, y = (if 0 < v ∧ raw.getD v 0 % 8 < d.follow % 8 then (caseS cs d.follow raw v).getD (v - 1) 0 else raw.getD v 0) := ⟨_, rfl⟩
      have hxd := getD_of_get (d := 0) hx
      have y0 : 0 ≤ y := by
        rw [hy]
        split
        · exact getD_nn (caseS_nn crng rnn v) _
        · rw [hxd]; exact x8.1
      have yb : y < 256 := by
        rw [hy]
        split
        · rw [List.getD_eq_getElem?_getD]
          cases hk : (caseS cs d.follow raw v)[v - 1]? with
          | none => decide
          | some z =>
            have h1 := (caseS_rng crng rnn v _ z hk).2
            rw [List.getD_eq_getElem?_getD] at h1
            cases hk2 : cs[v - 1]? with
            | none => rw [hk2] at h1; simp at h1 ⊢; omega
            | some q => rw [hk2] at h1; have := crng q (List.mem_of_getElem? hk2); simp at h1 ⊢; omega
        · rw [hxd]; exact x8.2
      refine W.midN (fun s' => s'.ρ 1 = .ptr H.next 0 0 ∧ s'.ρ 2 = .ptr (H.next + 1) 0 0 ∧ s'.ρ 3 = .ptr (H.next + 2) 0 0 ∧ s'.ρ 5 = lin i ∧ s'.ρ 6 = cv ∧ s'.ρ 7 = lin v ∧ s'.ρ 8 = lin y ∧ s'.H = Hj) ?_ ?_
      · refine vc_sound _ _ _ (by rfl) ?_
        rw [hxd] at hy
        by_cases g1 : (v : Int) > 0
        rotate_left
        · rw [if_neg (by omega)] at hy
          simp (config := { maxSteps := 1000000 }) only [go_sem, d1, d2, d3, d5, d6, d7, m0, m2, g1, guardA_undef, hy, appendA_U]
        by_cases g2 : x % 8 < d.follow % 8
        rotate_left
        · rw [if_neg (by omega)] at hy
          simp (config := { maxSteps := 1000000 }) only [go_sem, d1, d2, d3, d5, d6, d7, m0, m2, g1, xm, fm, fu, fi, g2, guardA_undef, hy, appendA_U]
        rw [if_pos (by omega)] at hy
        obtain ⟨z, hz⟩ := get_of_lt (l := caseS cs d.follow raw v) (i := v - 1) (by omega)
        rw [getD_of_get hz] at hy
        rcases hO with ⟨_, e⟩ | ⟨ic, gc, _, _, e, hgc⟩
        · have := congrArg List.length e
          rw [ints_length, cl, List.length_nil] at this
          omega
        · rw [ints_length, cl] at e
          have lc := get_live hgc
          have zn := ne_of_get hz
          have wv := IntWalk.i64_in ((v - 1 : Nat) : Int) (by omega)
          have ev : (v : Int) - 1 = ((v - 1 : Nat) : Int) := by omega
          have vl : ((v - 1 : Nat) : Int) < v := by omega
          rw [e] at d6
          simp (config := { maxSteps := 1000000 }) only [go_sem, d1, d2, d3, d5, d6, d7, m0, m2, g1, xm, fm, fu, fi, g2, guardA_undef, wv, ev, lc, hz, zn, vl, hy, e, appendA_U]
      rintro ⟨ρ4, H4⟩ ⟨r1, r2, r3, r5', r6, r7, r8', rfl⟩
      simp only at r1 r2 r3 r5' r6 r7 r8'
      have c23 := crng c (List.mem_of_getElem? hc)
      have cz : ¬ c = 0 := by omega
      have cn := ne_of_get hc
      have ym : y.tmod c = y % c := Int.tmod_eq_emod_of_nonneg y0
      have ymr := Int.emod_lt_of_pos y (show 0 < c by omega)
      have ymn := Int.emod_nonneg y (show c ≠ 0 by omega)
      have uy := IntWalk.i64_in (y % c) (by omega)
      have w1 := IntWalk.i64_in ((v : Int) + 1) (by omega)
      obtain ⟨cv2, H5, hA, hO5, hn5, hp⟩ := app_intG (y % c) hO ovn (by rw [cl]; omega)
      refine vc_sound _ _ _ (by rfl) ?_
      simp (config := { maxSteps := 1000000 }) only [go_sem, r1, r2, r3, r5', r6, r7, r8', m0, m2, c3, hc, cn, cz, ym, uy, hA]
      refine vc_sound _ _ _ (by rfl) ?_
      simp (config := { maxSteps := 1000000 }) only [go_sem, r7, w1, appendA_U]
      have o5 : Over Hi H5 := ⟨by omega, fun id h => (hp id (by omega) (hO.ne h)).trans (ov.old id h)⟩
      refine ⟨by omega, ⟨v + 1, rfl, by omega, o5, ?_⟩, by rw [h7]; simp only [lin, iv_int]; omega⟩
      rw [show caseS cs d.follow raw (v + 1) = caseS cs d.follow raw v ++ [y % c] by rw [hy]; show _ ++ [_ % cs.getD v 2] = _; rw [getD_of_get hc]]
      exact hO5
    rintro ⟨ρ4, Hk⟩ ⟨r1, r2, r3, r5', ov, hO⟩
    simp only at r1 r2 r3 r5' ov hO
    obtain ⟨rv, hrv⟩ : ∃ rv, ρ4 6 = rv := ⟨_, rfl⟩
    rw [hrv] at hO
    have ovn := ov.next
    have w1 := IntWalk.i64_in ((i : Int) + 1) (by omega)
    obtain ⟨xv2, H5, hA, hD5, hn5, hp⟩ := OwnD2.app (P := Tryd.prog) (n := Hk.next + 1) (t := 48) Tryd.underlying48 Tryd.cells22 Tryd.zero22 Tryd.bytes22 (by decide) (by rw [List.length_map, List.length_map, List.length_take]; omega) hD ov hni hO rfl
    have k2 := (ov.live (g := 0) (by omega : H.next + 2 < Hi.next)).trans l2
    have k2e : ∀ L, (ext Hk L).live (H.next + 2) 0 = _ := fun L => (ext_live_old (by omega)).trans k2
    have k5 : H5.live (H.next + 2) 0 = _ := get_live ((hp _ (by omega) (by omega)).trans ((ov.old _ (by omega)).trans hbi))
    obtain ⟨xone, xcells⟩ := ownD2_one hD5
    refine vc_sound _ _ _ (by rfl) ?_
    have rvo := hO.one
    have rvc := hO.cells
    simp (config := { maxSteps := 1000000 }) only [go_sem, r1, r2, r3, r5', hrv, k2, k2e, hA, k5, xone, xcells, rvo, rvc]
    refine vc_sound _ _ _ (by rfl) ?_
    simp (config := { maxSteps := 1000000 }) only [go_sem, r5', w1, appendA_U]
    refine ⟨by rw [upd_next]; omega, ⟨i + 1, xv2, rfl, by omega, by omega, by rw [upd_next]; omega, fun id h => by rw [upd_get, if_neg (by omega), hp id (by omega) (by omega), ov.old id (by omega)]; exact holdi id h, by rw [upd_get, if_pos rfl], ?_⟩, by rw [h5]; simp only [lin, iv_int]; omega⟩
    rw [take_succ_get hraw, List.map_append, List.map_append]
    exact ownD2_upd hD5 (by omega)
  rintro ⟨ρ5, Hc⟩ ⟨p1, p2, p3, hn, hold, xv, hb2, hD⟩
  simp only at p1 p2 p3 hn hold hb2 hD
  refine W.seq (vc_sound _ _ _ (by rfl) ?_)
  simp (config := { maxSteps := 1000000 }) only [go_sem, appendA_U]
  have cfit := casesD_fit (d := d)
  rw [← hcs] at cfit
  refine W.loop0 348449143726407161286381483309382296929792 (by rfl) (fun ρ Hi => ∃ (i : Nat) (xv : AVal) (xs : List (List Int)), ρ 9 = lin i ∧ i ≤ d.miss.length ∧ xs = (d.miss.take i).foldl missS (casesD d) ∧ Hc.next ≤ Hi.next ∧ (∀ id, id < H.next + 2 → Hi.get id = H1.get id) ∧ Hi.get (H.next + 2) = some (dBlk (vecI cs) xv) ∧ OwnD2 (H.next + 3) Hi 22 3 xv (xs.map ints)) (fun ρ H => d.miss.length - (iv (ρ 9)).toNat) ?_ ?_
  · simp (config := { maxSteps := 1000000 }) only [go_sem, appendA_U]
    exact ⟨0, _, _, rfl, by omega, rfl, hold, hb2, hD⟩
  rintro ρ Hi ⟨i, xv, xs, h9, hi, hxs, hni', holdi, hbi, hDi⟩
  have hni : H.next + 3 ≤ Hi.next := by omega
  refine vc_sound _ _ _ (by rfl) ?_
  have l0 := get_live ((holdi _ (by omega)).trans b0)
  have l1 := get_live ((holdi _ (by omega)).trans b1)
  have l2 := get_live hbi
  obtain ⟨xone, xcells⟩ := ownD2_one hDi
  obtain ⟨mlen, mrow⟩ := missF_ok (n := cs.length) (d.miss.take i) (xs := casesD d) cfit.2
  rw [← hxs] at mlen mrow
  have fin : missD d = xs → FinV Tryd.prog G0 H K (.agg [vecI cs, xv]) (Hi.upd (H.next + 1) (dBlk (vecI cs) xv)) := fun hm => by
    rw [← hcs, hm] at hK
    refine FinV.dropO G0_ok hcl ⟨by rw [upd_next]; omega, fun id h => by rw [upd_get, if_neg (by omega), holdi id (by omega)]; exact o1.old id h⟩ (fz_data (.keepInts _) (fz_rows (ownD2_upd hDi (by omega)).toG fun i hi => by omega)) hK
  have hlen : ∃ dd, dd = some (TypeDesc.slice 22) ∧ lenU dd Hi xv = some (.lit (.int .i64 xs.length)) := by
    obtain ⟨ocs, oG, oL, _, _⟩ := hDi
    have := own_len oG (d := some (.slice 22)) rfl
    rw [oL, List.length_map] at this
    exact ⟨_, rfl, this⟩
  obtain ⟨_, rfl, hlen⟩ := hlen
  by_cases c1 : (i : Int) < d.miss.length
  rotate_left
  · simp (config := { maxSteps := 1000000 }) only [go_sem, p1, p2, p3, h9, l0, l1, l2, c1, xone, xcells, guardA_undef, appendA_U]
    refine vc_sound _ _ _ (by rfl) ?_
    simp (config := { maxSteps := 1000000 }) only [go_sem, p1, p2, p3, h9, l0, l1, l2, c1, xone, xcells, guardA_undef, appendA_U]
    exact fin (by rw [hxs, List.take_of_length_le (by omega)]; rfl)
  by_cases c2 : (xs.length : Int) > 0
  rotate_left
  · simp (config := { maxSteps := 1000000 }) only [go_sem, p1, p2, p3, h9, l0, l1, l2, c1, c2, hlen, xone, xcells, guardA_undef, appendA_U]
    refine vc_sound _ _ _ (by rfl) ?_
    simp (config := { maxSteps := 1000000 }) only [go_sem, p1, p2, p3, h9, l0, l1, l2, c1, xone, xcells, guardA_undef, appendA_U]
    refine fin ?_
    have h1 := (missF_ok (n := cs.length) d.miss (xs := casesD d) cfit.2).1
    rw [List.eq_nil_of_length_eq_zero (l := xs) (by omega)]
    exact List.eq_nil_of_length_eq_zero (by unfold missD; omega)
  obtain ⟨m, hm⟩ := get_of_lt (l := d.miss) (i := i) (by omega)
  have m8 := hd.m8 m (List.mem_of_getElem? hm)
  unfold U8 at m8
  have hm' := bytesL_get hm
  have hmn := ne_of_get hm'
  have kr := Int.emod_lt_of_pos (m / 5) (show (0 : Int) < xs.length by omega)
  have kn := Int.emod_nonneg (m / 5) (show (xs.length : Int) ≠ 0 by omega)
  obtain ⟨k, hk⟩ := Int.eq_ofNat_of_zero_le kn
  obtain ⟨r, hr⟩ := get_of_lt (l := xs) (i := k) (by omega)
  have rl := mrow r (List.mem_of_getElem? hr)
  have jr := Int.emod_lt_of_pos m (show (0 : Int) < r.length by omega)
  have jn := Int.emod_nonneg m (show (r.length : Int) ≠ 0 by omega)
  obtain ⟨j, hj⟩ := Int.eq_ofNat_of_zero_le jn
  obtain ⟨idt, gt, idr, gr, cells, hxv, hgt, hcl2, it1, it2, hck, hgr, ir1, ir2, hset⟩ := OwnD2.row hDi (by decide) (k := k) (r := ints r) (by rw [List.getElem?_map, hr]; rfl) (by intro e; have := congrArg List.length e; rw [ints_length, List.length_nil] at this; omega)
  rw [List.length_map] at hxv hcl2
  rw [ints_length] at hck
  have lt := get_live hgt
  have lr := get_live hgr
  have cne := ne_of_get hck
  have q5 : m.tdiv 5 = m / 5 := Int.tdiv_eq_ediv_of_nonneg m8.1
  have u1 : IntKind.u8.wrap (m / 5) = m / 5 := IntWalk.u8_in _ (by omega)
  have u2 := IntWalk.i64_in (m / 5) (by omega)
  have u3 : (m / 5).tmod (xs.length : Int) = k := by rw [Int.tmod_eq_emod_of_nonneg (by omega)]; exact hk
  have u4 := IntWalk.i64_in (k : Int) (by omega)
  have u5 := IntWalk.i64_in m (by omega)
  have u6 : m.tmod (r.length : Int) = j := by rw [Int.tmod_eq_emod_of_nonneg (by omega)]; exact hj
  have u7 := IntWalk.i64_in (j : Int) (by omega)
  have x0 : ¬ (xs.length : Int) = 0 := by omega
  have r0 : ¬ (r.length : Int) = 0 := by omega
  have kl : (k : Int) < xs.length := by omega
  have jl : (j : Int) < r.length := by omega
  have ml := hd.ml
  have w1 := IntWalk.i64_in ((i : Int) + 1) (by omega)
  rw [hxv] at l2 hlen
  simp (config := { maxSteps := 1000000 }) only [go_sem, p1, p2, p3, h9, l0, l1, l2, c1, c2, hlen, guardA_undef, appendA_U]
  refine W.draw 13 [0, 1, 0, 4, 0, 28, 60, 124, 252, 0, 512, 1536, 4092] Tryd.mixed (by kernel_rfl) (by kernel_rfl) ?_
  simp (config := { maxSteps := 1000000 }) only [go_sem, p1, p2, p3, h9, l0, l1, l2, c1, hm', hmn, q5, u1, u2, u3, u4, u5, u6, u7, x0, r0, kl, jl, lt, lr, hck, cne, w1, appendA_U]
  refine ⟨by omega, by rw [upd_next]; omega, ⟨i + 1, xv, xs.set k (r.set j (-1)), rfl, by omega, ?_, by rw [upd_next]; omega, fun id h => by rw [upd_get, if_neg (by omega)]; exact holdi id h, ?_, ?_⟩, by omega⟩
  · rw [take_succ_get hm, List.foldl_append, ← hxs]
    show _ = missS xs m
    unfold missS
    simp only [hk, Int.ofNat_eq_natCast, Int.toNat_natCast, getD_of_get hr, hj]
  · rw [upd_get, if_neg (by omega), hbi, hxv]; rfl
  · rw [setAt_ints (by omega), List.map_set]
    exact hset (ints (r.set j (-1))) (by rw [ints_length, ints_length, List.length_set])
def bendD (w a n : Int) (cs : List Int) (xs : List (List Int)) : List Int × List (List Int) :=
  if w % 6 = 0 then (cs.set (a % (cs.length : Int)).toNat n, xs)
  else if w % 6 = 1 ∧ 0 < xs.length then
    (cs, xs.set (a / 4 % (xs.length : Int)).toNat ((xs.getD (a / 4 % (xs.length : Int)).toNat []).set (a % ((xs.getD (a / 4 % (xs.length : Int)).toNat []).length : Int)).toNat n))
  else if w % 6 = 2 ∧ 0 < xs.length then (cs, xs.set (a % (xs.length : Int)).toNat ((xs.getD (a % (xs.length : Int)).toNat []).drop 1))
  else if w % 6 = 3 then (cs, xs ++ List.replicate (41 - xs.length) (List.replicate cs.length 0))
  else if w % 6 = 4 then ([4, 4, 4, 4, 4, 4], [])
  else ([], xs)
def bend25C (w a n : Int) : List AVal := [.lit (.int .u8 w), .lit (.int .u8 a), .lit (.int .i64 n)]
abbrev bend25B (w a n : Int) : Blk := .arr 0 39 [.lit (.int .u8 w), .lit (.int .u8 a), .lit (.int .i64 n)]
theorem fz_cut1 {S : Nat → Prop} {lo nx idt gt idr gr k : Nat} {Hi Hz : AHeap} {ocs : List AVal} {xs : List (List Int)} {r : List Int} (hS : ∀ i, lo ≤ i → S i) (oL : ocs.length = (xs.map ints).length) (oC : ∀ (j : Nat) (q : List AVal) (c : AVal), (xs.map ints)[j]? = some q → ocs[j]? = some c → OwnG lo Hi 3 c q)
    (hit : lo ≤ idt) (hgt : Hz.get idt = some (.arr gt 22 (ocs.set k (.own idr gr 1 (r.length - 1) 1)))) (hn : idt < Hz.next) (hir : lo ≤ idr) (hgr : Hz.get idr = some (.arr gr 3 (ints r))) (hkeep : ∀ id g c, lo ≤ id → Hi.get id = some (.arr g 3 c) → Hz.get id = Hi.get id) (hnx : Hi.next ≤ Hz.next) :
    Fz S Hz nx (.own idt gt 0 xs.length 1) (vecV (xs.set k (r.drop 1))) := by
  rw [List.length_map] at oL
  have hG : OwnG lo Hz 22 (.own idt gt 0 xs.length 1) (ocs.set k (.own idr gr 1 (r.length - 1) 1)) := .inr ⟨idt, gt, hit, hn, by rw [List.length_set, oL], hgt⟩
  have := hG.fz (S := S) (nx := nx) (cs' := (xs.set k (r.drop 1)).map vecI) hS (by simp [oL]) fun i h h' => by
    simp only [List.getElem_map, List.getElem_set]
    split
    · have hl : (vecI (r.drop 1)) = .vec (r.length - 1) (ints (r.drop 1)) := by unfold vecI; rw [List.length_drop]
      rw [hl]
      refine .frz (hS _ hir) hgr (by rw [ints_length, List.length_drop]; omega) fun j a b c => ?_
      simp only [ints, List.getElem_map, List.getElem_drop]
      exact .lit _
    · rw [List.length_set] at h
      refine OwnG.fzI (lo := lo) (e := 3) ?_ hS
      have h1 : ocs[i]? = some ocs[i] := List.getElem?_eq_getElem h
      have h2 : (xs.map ints)[i]? = some (ints (xs[i]'(by omega))) := by rw [List.getElem?_map, List.getElem?_eq_getElem (by omega)]; rfl
      exact (oC i _ _ h2 h1).keep (Nat.le_refl _) hnx fun id g a _ b _ => hkeep id g _ a b
  rw [List.length_map, List.length_set] at this
  unfold vecV
  rw [List.length_set]
  exact this
set_option maxHeartbeats 4000000 in
theorem bend25_spec (w a n : Int) (hw : U8 w) (ha : U8 a) (cs : List Int) (xs : List (List Int)) (hc : 1 ≤ cs.length ∧ cs.length ≤ 64) (hx : xs.length ≤ 41) (hr : RowsN cs.length xs) (H : AHeap) (K : ARes → AHeap → Prop) (hK : K (.ret (dataV (bendD w a n cs xs).1 (bendD w a n cs xs).2)) H) :
    ACall Tryd.prog G0 17 [.agg (bend25C w a n), dataV cs xs] H K := by
  refine ACall.clo ⟨_, Tryd.func17, rfl, rfl⟩ fun hcl => ?_
  unfold U8 at hw ha
  refine ACall.of_bodyW (n := 138) (rs := [.cell 4 50]) Tryd.func17 rfl rfl rfl (by decide) (by simp) ?_
  refine W.seq (vc_sound _ _ _ (by rfl) ?_)
  simp (config := { maxSteps := 1000000 }) only [go_sem, bend25C, dataV, vecV, appendA_U]
  obtain ⟨H1, hH1⟩ : ∃ H1, H1 = ext H [bend25B w a n, dBlk (vecI cs) (.vec xs.length (xs.map vecI)), dBlk (.lit (.slice none 0 0)) (.lit (.slice none 0 0))] := ⟨_, rfl⟩
  have b0 : H1.get H.next = some (bend25B w a n) := by rw [hH1]; exact get_ext0 ..
  have b1 : H1.get (H.next + 1) = some (dBlk (vecI cs) (.vec xs.length (xs.map vecI))) := by rw [hH1]; exact get_ext H _ 1 (by simp)
  have b2 : H1.get (H.next + 2) = some (dBlk (.lit (.slice none 0 0)) (.lit (.slice none 0 0))) := by rw [hH1]; exact get_ext H _ 2 (by simp)
  have n1 : H1.next = H.next + 3 := by rw [hH1]; rfl
  have o1 : Over H H1 := by rw [hH1]; exact .ext _ _
  refine W.env fun E hE => ?_
  have e2 : E 2 = .ptr H.next 0 0 := by rw [hE]; simp (config := { maxSteps := 1000000 }) only [go_sem, appendA_U]
  have e3 : E 3 = .ptr (H.next + 1) 0 0 := by rw [hE]; simp (config := { maxSteps := 1000000 }) only [go_sem, appendA_U]
  have e4 : E 4 = .ptr (H.next + 2) 0 0 := by rw [hE]; simp (config := { maxSteps := 1000000 }) only [go_sem, appendA_U]
  clear hE
  show W _ _ _ _ _ _ ⟨E, ext H [bend25B w a n, dBlk (vecI cs) (.vec xs.length (xs.map vecI)), dBlk (.lit (.slice none 0 0)) (.lit (.slice none 0 0))]⟩
  rw [← hH1]
  clear hH1
  have l1 := get_live b1
  have l1e : ∀ L, (ext H1 L).live (H.next + 1) 0 = _ := fun L => (ext_live_old (by omega)).trans l1
  obtain ⟨cv, Hq, hA1, hcO, hqn, hqp⟩ := app_vecG (P := Tryd.prog) (H := ext H1 [.arr 0 3 []]) (t := 22) (n := H1.next + 1) (lo := H1.next) (src := ints cs) Tryd.underlying22 Tryd.cells3 Tryd.zero3 (all_one_ints _) (by rw [Tryd.bytes3, ints_length, List.length_nil]; omega) (OwnG.new (H := H1) (cs := [])) (by rw [ext_next]; simp) rfl
  rw [List.nil_append] at hcO
  rw [ints_length] at hA1
  simp only [List.length_nil] at hA1
  have cone := hcO.one
  have ccells := hcO.cells
  have rz : List.replicate 0 (AVal.lit (.int .i64 0)) = [] := rfl
  refine W.seq (vc_sound _ _ _ (by rfl) ?_)
  simp (config := { maxSteps := 1000000 }) only [go_sem, e2, e3, e4, l1, l1e, hA1, cone, ccells, rz]
  have hxn : (ext H1 [.arr 0 3 []]).next = H1.next + 1 := rfl
  have oq : Over H1 Hq := ⟨by omega, fun id h => by rw [hqp id (by omega) (fun g m e => by have := (AVal.own.inj e).1; omega), get_ext_old _ _ _ h]⟩
  obtain ⟨Hs, hHs⟩ : ∃ Hs, Hs = ext Hq [dBlk cv (.lit (.slice none 0 0))] := ⟨_, rfl⟩
  have ns : Hs.next = Hq.next + 1 := by rw [hHs]; rfl
  have os : Over Hq Hs := by rw [hHs]; exact .ext _ _
  have b5 : Hs.get Hq.next = some (dBlk cv (.lit (.slice none 0 0))) := by rw [hHs]; exact ext1_get_new
  have oall := (o1.trans oq).trans os
  have c0 := (os.old _ (by omega)).trans ((oq.old _ (by omega)).trans b0)
  have c1 := (os.old _ (by omega)).trans ((oq.old _ (by omega)).trans b1)
  have c2 := (os.old _ (by omega)).trans ((oq.old _ (by omega)).trans b2)
  have csO := hcO.over os
  rw [← hHs]
  refine W.env fun E hE => ?_
  have f2 : E 2 = .ptr H.next 0 0 := by rw [hE]; simp (config := { maxSteps := 1000000 }) only [go_sem, e2, appendA_U]
  have f3 : E 3 = .ptr (H.next + 1) 0 0 := by rw [hE]; simp (config := { maxSteps := 1000000 }) only [go_sem, e3, appendA_U]
  have f4 : E 4 = .ptr (H.next + 2) 0 0 := by rw [hE]; simp (config := { maxSteps := 1000000 }) only [go_sem, e4, appendA_U]
  have f5 : E 5 = .ptr Hq.next 0 0 := by rw [hE]; simp (config := { maxSteps := 1000000 }) only [go_sem, appendA_U]
  clear hE hHs
  obtain ⟨idc, gc, ic1, ic2, hcv, hgc⟩ : ∃ id g, H1.next ≤ id ∧ id < Hq.next ∧ cv = .own id g 0 cs.length 1 ∧ Hs.get id = some (.arr g 3 (ints cs)) := by
    rcases hcO with ⟨_, e⟩ | ⟨id, g, h1, h2, h3, h4⟩
    · have := congrArg List.length e
      rw [ints_length, List.length_nil] at this
      omega
    · rw [ints_length] at h3
      exact ⟨id, g, h1, h2, h3, (os.old _ h2).trans h4⟩
  clear csO hcO cone ccells hqp hA1
  refine W.midN (fun s' => s'.ρ 2 = .ptr H.next 0 0 ∧ s'.ρ 3 = .ptr (H.next + 1) 0 0 ∧ s'.ρ 4 = .ptr (H.next + 2) 0 0 ∧ s'.ρ 5 = .ptr Hq.next 0 0 ∧ Hs.next ≤ s'.H.next ∧ (∀ id, id < Hq.next → s'.H.get id = Hs.get id) ∧ ∃ xv, s'.H.get Hq.next = some (dBlk cv xv) ∧ OwnD2 Hs.next s'.H 22 3 xv (xs.map ints)) ?_ ?_
  · refine W.seq (vc_sound _ _ _ (by rfl) ?_)
    simp (config := { maxSteps := 1000000 }) only [go_sem, appendA_U]
    refine W.block ?_
    refine W.loop0 8589918272 (by rfl) (fun ρ Hi => ∃ (i : Nat) (xv : AVal), ρ 6 = lin i ∧ i ≤ xs.length ∧ Hs.next ≤ Hi.next ∧ (∀ id, id < Hq.next → Hi.get id = Hs.get id) ∧ Hi.get Hq.next = some (dBlk cv xv) ∧ OwnD2 Hs.next Hi 22 3 xv ((xs.take i).map ints)) (fun ρ H => xs.length - (iv (ρ 6)).toNat) ?_ ?_
    · simp (config := { maxSteps := 1000000 }) only [go_sem, appendA_U]
      exact ⟨0, _, rfl, by omega, b5, .nil⟩
    rintro ρ Hi ⟨i, xv, h6, hi, hni, holdi, hbi, hD⟩
    refine vc_sound _ _ _ (by rfl) ?_
    have l1 := get_live ((holdi _ (by omega)).trans c1)
    have l5 := get_live hbi
    by_cases g1 : (i : Int) < xs.length
    rotate_left
    · simp (config := { maxSteps := 1000000 }) only [go_sem, f2, f3, f4, f5, h6, l1, g1, appendA_U]
      rw [List.take_of_length_le (by omega)] at hD
      exact ⟨hni, holdi, xv, hbi, hD⟩
    obtain ⟨r, hrr⟩ := get_of_lt (l := xs) (i := i) (by omega)
    have rl := hr r (List.mem_of_getElem? hrr)
    have hr' := vecV_get hrr
    have hrn := ne_of_get hr'
    have l1e : ∀ L, (ext Hi L).live (H.next + 1) 0 = _ := fun L => (ext_live_old (by omega)).trans l1
    have l5e : ∀ L, (ext Hi L).live Hq.next 0 = _ := fun L => (ext_live_old (by omega)).trans l5
    obtain ⟨rv, Hx, hA1, rO, hxn', hxp⟩ := app_vecG (P := Tryd.prog) (H := ext Hi [.arr 0 3 []]) (t := 22) (n := Hi.next + 1) (lo := Hi.next) (src := ints r) Tryd.underlying22 Tryd.cells3 Tryd.zero3 (all_one_ints _) (by rw [Tryd.bytes3, ints_length, List.length_nil]; omega) (OwnG.new (H := Hi) (cs := [])) (by rw [ext_next]; simp) rfl
    rw [List.nil_append] at rO
    rw [ints_length] at hA1
    simp only [List.length_nil] at hA1
    have hen : (ext Hi [.arr 0 3 []]).next = Hi.next + 1 := rfl
    have ox : Over Hi Hx := ⟨by omega, fun id h => by rw [hxp id (by omega) (fun g m e => by have := (AVal.own.inj e).1; omega), get_ext_old _ _ _ h]⟩
    have rone := rO.one
    have rcells := rO.cells
    obtain ⟨xv2, H5, hA2, hD5, hn5, hp⟩ := OwnD2.app (P := Tryd.prog) (n := Hx.next + 1) (t := 48) Tryd.underlying48 Tryd.cells22 Tryd.zero22 Tryd.bytes22 (by decide) (by rw [List.length_map, List.length_take]; omega) hD ox hni rO rfl
    have k5 : H5.live Hq.next 0 = _ := get_live ((hp _ (by omega) (by omega)).trans ((ox.old _ (by omega)).trans hbi))
    obtain ⟨xone, xcells⟩ := ownD2_one hD5
    have w1 := IntWalk.i64_in ((i : Int) + 1) (by omega)
    simp (config := { maxSteps := 1000000 }) only [go_sem, f2, f3, f4, f5, h6, l1, g1, appendA_U]
    refine W.draw 10 [0, 1, 0, 0, 8, 0, 56, 120, 252, 508] Tryd.mixed (by kernel_rfl) (by kernel_rfl) ?_
    simp (config := { maxSteps := 1000000 }) only [go_sem, f2, f3, f4, f5, h6, l1, l5, l1e, l5e, g1, hr', hrn, hA1, rone, rcells, hA2, k5, xone, xcells, rz, w1]
    refine ⟨⟨fun _ h => by omega, fun _ h => by omega⟩, fun _ h => by omega, fun _ h => by omega, ⟨fun _ h => by omega, fun _ h => by omega⟩, ⟨fun _ h => by omega, fun _ h => by omega⟩, by rw [upd_next]; omega, ⟨i + 1, xv2, rfl, by omega, by rw [upd_next]; omega, fun id h => by rw [upd_get, if_neg (by omega), hp id (by omega) (by omega), ox.old id (by omega)]; exact holdi id h, by rw [upd_get, if_pos rfl], ?_⟩, by omega⟩
    rw [take_succ_get hrr, List.map_append]
    exact ownD2_upd hD5 (by omega)
  rintro ⟨ρ1, Hi⟩ ⟨p2, p3, p4, p5, hni, hold, xv, hb5, hD⟩
  simp only at p2 p3 p4 p5 hni hold hb5 hD
  have k0 := get_live ((hold _ (by omega)).trans c0)
  have k2 := get_live ((hold _ (by omega)).trans c2)
  have k5 := get_live hb5
  have gci := (hold _ ic2).trans hgc
  have kc := get_live gci
  obtain ⟨xone, xcells⟩ := ownD2_one hD
  have oi : Over H Hi := ⟨by have := oall.next; omega, fun id h => (hold id (by omega)).trans (oall.old id h)⟩
  have wm : w.tmod 6 = w % 6 := Int.tmod_eq_emod_of_nonneg hw.1
  have wu : IntKind.u8.wrap (w % 6) = w % 6 := IntWalk.u8_in _ (by omega)
  have ai := IntWalk.i64_in a (by omega)
  have fin : ∀ (Hz : AHeap) (cv' xv' : AVal) (cs' : List Int) (xs' : List (List Int)), H.next ≤ Hz.next → (∀ id, id < H.next → Hz.get id = H.get id) → Fz (fun id => H.next ≤ id) Hz H.next cv' (vecI cs') → Fz (fun id => H.next ≤ id) Hz H.next xv' (vecV xs') → (cs', xs') = bendD w a n cs xs → FinV Tryd.prog G0 H K (.agg [cv', xv']) Hz := fun Hz cv' xv' cs' xs' h1 h2 h3 h4 h5 => by
    rw [← h5] at hK
    exact FinV.dropO G0_ok hcl ⟨h1, h2⟩ (fz_data h3 h4) hK
  rw [hcv] at k5 hb5
  have own : ∀ (Hz : AHeap) (cs' : List Int), idc < Hz.next → cs'.length = cs.length → Hz.get idc = some (.arr gc 3 (ints cs')) → Fz (fun id => H.next ≤ id) Hz H.next (.own idc gc 0 cs.length 1) (vecI cs') := fun Hz cs' h1 h2 h3 => by
    rw [← h2]
    exact OwnG.fzI (lo := H.next) (.inr ⟨idc, gc, by omega, h1, by rw [ints_length], h3⟩) fun i h => h
  have kl : (0 : Int) < cs.length := by omega
  have cz : ¬ (cs.length : Int) = 0 := by omega
  have hlen : lenU (some (TypeDesc.slice 22)) Hi xv = some (.lit (.int .i64 xs.length)) := by
    obtain ⟨ocs, oG, oL, _, _⟩ := hD
    have := own_len oG (d := some (.slice 22)) rfl
    rw [oL, List.length_map] at this
    exact this
  have u2 : ∀ b, (Hi.upd Hq.next b).live (H.next + 2) 0 = _ := fun b => (live_upd_other (by omega)).trans k2
  have onext := oi.next
  have nilC : bendD w a n cs xs = ([], xs) → FinV Tryd.prog G0 H K (.agg [.lit (.slice none 0 0), xv]) ((Hi.upd Hq.next (dBlk (.lit (.slice none 0 0)) xv)).upd (H.next + 2) (dBlk (.lit (.slice none 0 0)) xv)) := fun hb =>
    fin _ _ _ [] xs (by rw [upd_next, upd_next]; omega) (fun id h => by rw [upd_get, if_neg (by omega), upd_get, if_neg (by omega)]; exact oi.old id h) .nil (fz_rows (ownD2_upd (ownD2_upd hD (by omega)) (by omega)).toG fun i hi => by omega) hb.symm
  refine vc_sound _ _ _ (by rfl) ?_
  have hw6 : w % 6 = 0 ∨ w % 6 = 1 ∨ w % 6 = 2 ∨ w % 6 = 3 ∨ w % 6 = 4 ∨ w % 6 = 5 := by omega
  rcases hw6 with d | d | d | d | d | d
  · have jr := Int.emod_lt_of_pos a kl
    have jn := Int.emod_nonneg a cz
    obtain ⟨j, hj⟩ := Int.eq_ofNat_of_zero_le jn
    have jt : a.tmod (cs.length : Int) = j := by rw [Int.tmod_eq_emod_of_nonneg ha.1]; exact hj
    have jl : (j : Int) < cs.length := by omega
    have u5 : ∀ b, (Hi.upd idc b).live Hq.next 0 = _ := fun b => (live_upd_other (by omega)).trans k5
    have u2 : ∀ b, (Hi.upd idc b).live (H.next + 2) 0 = _ := fun b => (live_upd_other (by omega)).trans k2
    simp (config := { maxSteps := 1000000 }) only [go_sem, p2, p3, p4, p5, k0, k5, wm, wu, d, appendA_U]
    refine W.draw 11 [0, 1, 0, 4, 12, 0, 32, 96, 252, 0, 512] Tryd.mixed (by kernel_rfl) (by kernel_rfl) ?_
    simp (config := { maxSteps := 1000000 }) only [go_sem, p2, p3, p4, p5, k0, k2, k5, wm, wu, d, ai, jt, cz, jl, kc, u5, u2, xone, xcells, appendA_U]
    refine ⟨by omega, fin _ _ _ (cs.set j n) xs (by rw [upd_next, upd_next]; have := oi.next; omega) (fun id h => by rw [upd_get, if_neg (by omega), upd_get, if_neg (by omega)]; exact oi.old id h) (own _ _ (by rw [upd_next, upd_next]; omega) (by simp) (by rw [upd_get, if_neg (by omega), upd_get, if_pos rfl, setAt_ints (by omega)])) (fz_rows (ownD2_upd (ownD2_upd hD (by omega)) (by omega)).toG fun i hi => by omega) ?_⟩
    unfold bendD
    rw [if_pos d, hj]
    rfl
  · by_cases hxl : (xs.length : Int) > 0
    rotate_left
    · simp (config := { maxSteps := 1000000 }) only [go_sem, p2, p3, p4, p5, k0, k2, k5, wm, wu, d, hlen, hxl, xone, xcells, u2, guardA_undef, appendA_U]
      refine nilC ?_
      have : ¬ 0 < xs.length := by omega
      unfold bendD
      rw [d, if_neg (by decide), if_neg (fun h => this h.2), if_neg (fun h => this h.2), if_neg (by decide), if_neg (by decide)]
    have kr := Int.emod_lt_of_pos (a / 4) (show (0 : Int) < xs.length by omega)
    have kn := Int.emod_nonneg (a / 4) (show (xs.length : Int) ≠ 0 by omega)
    obtain ⟨k, hk⟩ := Int.eq_ofNat_of_zero_le kn
    obtain ⟨r, hrr⟩ := get_of_lt (l := xs) (i := k) (by omega)
    have rl := hr r (List.mem_of_getElem? hrr)
    have jr := Int.emod_lt_of_pos a (show (0 : Int) < r.length by omega)
    have jn := Int.emod_nonneg a (show (r.length : Int) ≠ 0 by omega)
    obtain ⟨j, hj⟩ := Int.eq_ofNat_of_zero_le jn
    obtain ⟨idt, gt, idr, gr, cells, hxv, hgt, hcl2, it1, it2, hck, hgr, ir1, ir2, hset⟩ := OwnD2.row hD (by decide) (k := k) (r := ints r) (by rw [List.getElem?_map, hrr]; rfl) (by intro e; have := congrArg List.length e; rw [ints_length, List.length_nil] at this; omega)
    rw [List.length_map] at hxv hcl2
    rw [ints_length] at hck
    have lt := get_live hgt
    have lr := get_live hgr
    have cne := ne_of_get hck
    have q4 : a.tdiv 4 = a / 4 := Int.tdiv_eq_ediv_of_nonneg ha.1
    have v1 : IntKind.u8.wrap (a / 4) = a / 4 := IntWalk.u8_in _ (by omega)
    have v2 := IntWalk.i64_in (a / 4) (by omega)
    have v3 : (a / 4).tmod (xs.length : Int) = k := by rw [Int.tmod_eq_emod_of_nonneg (by omega)]; exact hk
    have v6 : a.tmod (r.length : Int) = j := by rw [Int.tmod_eq_emod_of_nonneg (by omega)]; exact hj
    have x0 : ¬ (xs.length : Int) = 0 := by omega
    have r0 : ¬ (r.length : Int) = 0 := by omega
    have kl' : (k : Int) < xs.length := by omega
    have jl : (j : Int) < r.length := by omega
    have hset' := hset (ints (r.set j n)) (by rw [ints_length, ints_length, List.length_set])
    rw [hxv] at k5 hlen xone xcells hset'
    have u5 : ∀ b, (Hi.upd idr b).live Hq.next 0 = _ := fun b => (live_upd_other (by omega)).trans k5
    have u2' : ∀ b, (Hi.upd idr b).live (H.next + 2) 0 = _ := fun b => (live_upd_other (by omega)).trans k2
    simp (config := { maxSteps := 1000000 }) only [go_sem, p2, p3, p4, p5, k0, k2, k5, wm, wu, d, hlen, hxl, guardA_undef, appendA_U]
    refine W.draw 10 [0, 1, 0, 4, 12, 28, 0, 64, 192, 508] Tryd.mixed (by kernel_rfl) (by kernel_rfl) ?_
    simp (config := { maxSteps := 1000000 }) only [go_sem, p2, p3, p4, p5, k0, k2, k5, wm, wu, d, q4, v1, v2, v3, x0, kl', lt, hck, cne, appendA_U]
    refine W.draw 9 [0, 0, 2, 6, 0, 16, 62, 0, 128] Tryd.mixed (by kernel_rfl) (by kernel_rfl) ?_
    simp (config := { maxSteps := 1000000 }) only [go_sem, p2, p3, p4, p5, k0, k2, k5, wm, wu, d, ai, v6, r0, jl, lr, u5, u2', xone, xcells, appendA_U]
    rw [setAt_ints (by omega)]
    have e : (xs.map ints).set k (ints (r.set j n)) = (xs.set k (r.set j n)).map ints := by rw [List.map_set]
    rw [e] at hset'
    refine ⟨by omega, fin _ _ _ cs (xs.set k (r.set j n)) (by rw [upd_next, upd_next]; omega) (fun id h => by rw [upd_get, if_neg (by omega), upd_get, if_neg (by omega)]; exact oi.old id h) (own _ _ (by rw [upd_next, upd_next]; omega) rfl (by rw [upd_get, if_neg (by omega), upd_get, if_neg (by omega)]; exact gci)) (fz_rows (ownD2_upd hset' (by omega)).toG fun i hi => by omega) ?_⟩
    unfold bendD
    rw [if_neg (by omega), if_pos ⟨d, by omega⟩]
    simp only [hk, Int.ofNat_eq_natCast, Int.toNat_natCast, getD_of_get hrr, hj]
  · by_cases hxl : (xs.length : Int) > 0
    rotate_left
    · simp (config := { maxSteps := 1000000 }) only [go_sem, p2, p3, p4, p5, k0, k2, k5, wm, wu, d, hlen, hxl, xone, xcells, u2, guardA_undef, appendA_U]
      refine nilC ?_
      have : ¬ 0 < xs.length := by omega
      unfold bendD
      rw [d, if_neg (by decide), if_neg (fun h => this h.2), if_neg (fun h => this h.2), if_neg (by decide), if_neg (by decide)]
    have kr := Int.emod_lt_of_pos a (show (0 : Int) < xs.length by omega)
    have kn := Int.emod_nonneg a (show (xs.length : Int) ≠ 0 by omega)
    obtain ⟨k, hk⟩ := Int.eq_ofNat_of_zero_le kn
    obtain ⟨r, hrr⟩ := get_of_lt (l := xs) (i := k) (by omega)
    have rl := hr r (List.mem_of_getElem? hrr)
    obtain ⟨ocs, oG, oL, oC, oD⟩ := hD
    have hri : (xs.map ints)[k]? = some (ints r) := by rw [List.getElem?_map, hrr]; rfl
    obtain ⟨ck, hck⟩ := get_of_lt (l := ocs) (i := k) (by rw [oL, List.length_map]; omega)
    have okR := oC k _ ck hri hck
    rcases oG with ⟨_, e⟩ | ⟨idt, gt, it1, it2, hxv, hgt⟩
    · rw [e] at hck; cases hck
    rcases okR with ⟨_, e⟩ | ⟨idr, gr, ir1, ir2, hcr, hgr⟩
    · have := congrArg List.length e
      rw [ints_length, List.length_nil] at this
      omega
    rw [oL, List.length_map] at hxv
    rw [ints_length] at hcr
    rw [hcr] at hck
    have lt := get_live hgt
    have cne := ne_of_get hck
    have v3 : a.tmod (xs.length : Int) = k := by rw [Int.tmod_eq_emod_of_nonneg (by omega)]; exact hk
    have v4 := IntWalk.i64_in (k : Int) (by omega)
    have x0 : ¬ (xs.length : Int) = 0 := by omega
    have kl' : (k : Int) < xs.length := by omega
    have r1 : (1 : Int) ≤ r.length := by omega
    rw [hxv] at k5 hlen xone xcells
    have u5 : ∀ b, (Hi.upd idt b).live Hq.next 0 = _ := fun b => (live_upd_other (by omega)).trans k5
    have u2' : ∀ b, (Hi.upd idt b).live (H.next + 2) 0 = _ := fun b => (live_upd_other (by omega)).trans k2
    simp (config := { maxSteps := 1000000 }) only [go_sem, p2, p3, p4, p5, k0, k2, k5, wm, wu, d, hlen, hxl, ai, v3, v4, x0, guardA_undef, appendA_U]
    refine W.draw 9 [0, 1, 0, 0, 8, 0, 56, 120, 248] Tryd.mixed (by kernel_rfl) (by kernel_rfl) ?_
    have lr := get_live hgr
    simp (config := { maxSteps := 1000000 }) only [go_sem, p2, p3, p4, p5, k0, k2, k5, kl', lt, lr, hck, cne, r1, u5, u2', xone, xcells, appendA_U]
    have hlt : Hi.next ≤ ((Hi.upd idt (.arr gt 22 (setAt ocs k [.own idr gr 1 (r.length - 1) 1]))).upd (H.next + 2) (dBlk (.own idc gc 0 cs.length 1) (.own idt gt 0 xs.length 1))).next := by rw [upd_next, upd_next]; exact Nat.le_refl _
    refine ⟨by rw [oL, List.length_map]; omega, fin _ _ _ cs (xs.set k (r.drop 1)) (Nat.le_trans onext hlt) (fun id h => by rw [upd_get, if_neg (by omega), upd_get, if_neg (by omega)]; exact oi.old id h) (own _ _ (Nat.lt_of_lt_of_le (show idc < Hi.next by omega) hlt) rfl (by rw [upd_get, if_neg (by omega), upd_get, if_neg (by omega)]; exact gci)) ?_ ?_⟩
    · have hne2 : idr ≠ idt := fun e => by rw [e, hgt] at hgr; cases hgr
      refine fz_cut1 (lo := Hs.next) (Hi := Hi) (fun i h => by omega) oL oC it1 (by rw [upd_get, if_neg (by omega), upd_get, if_pos rfl, setAt_one (by rw [oL, List.length_map]; omega)]) (Nat.lt_of_lt_of_le it2 hlt) ir1 (by rw [upd_get, if_neg (by omega), upd_get, if_neg hne2]; exact hgr) (fun id g c h1 h2 => ?_) hlt
      rw [upd_get, if_neg (by omega), upd_get, if_neg]
      rintro rfl
      rw [hgt] at h2
      cases h2
    · unfold bendD
      rw [if_neg (by omega), if_neg (fun h => by omega), if_pos ⟨d, by omega⟩]
      simp only [hk, Int.ofNat_eq_natCast, Int.toNat_natCast, getD_of_get hrr]
  · simp (config := { maxSteps := 1000000 }) only [go_sem, p2, p3, p4, p5, k0, k2, k5, wm, wu, d, xone, xcells, appendA_U]
    refine W.loop0 1360963314184280739369385453844537802752 (by rfl) (fun ρ Hj => ∃ (m : Nat) (xv' : AVal), m + xs.length ≤ 41 ∧ Hi.next ≤ Hj.next ∧ (∀ id, id < Hq.next → Hj.get id = Hi.get id) ∧ Hj.get Hq.next = some (dBlk (.own idc gc 0 cs.length 1) xv') ∧ OwnD2 Hs.next Hj 22 3 xv' ((xs ++ List.replicate m (List.replicate cs.length 0)).map ints)) (fun _ Hj => match Hj.get Hq.next with | some (.arr _ _ [_, .own _ _ _ l _]) => 41 - l | _ => 42) ?_ ?_
    · simp (config := { maxSteps := 1000000 }) only [go_sem, appendA_U]
      exact ⟨0, xv, by omega, hb5, by simpa using hD⟩
    rintro ρ Hj ⟨m, xv', hm, hnj, holdj, hbj, hDj⟩
    refine vc_sound _ _ _ (by rfl) ?_
    have j2 := get_live ((holdj _ (by omega)).trans ((hold _ (by omega)).trans c2))
    have j5 := get_live hbj
    obtain ⟨yone, ycells⟩ := ownD2_one hDj
    have hlenj : lenU (some (TypeDesc.slice 22)) Hj xv' = some (.lit (.int .i64 ((xs.length + m : Nat) : Int))) := by
      obtain ⟨ocs, oG, oL, _, _⟩ := hDj
      have := own_len oG (d := some (.slice 22)) rfl
      rw [oL, List.length_map, List.length_append, List.length_replicate] at this
      exact this
    by_cases g1 : ((xs.length + m : Nat) : Int) < 41
    rotate_left
    · simp (config := { maxSteps := 1000000 }) only [go_sem, p2, p3, p4, p5, j2, j5, hlenj, g1, yone, ycells, appendA_U]
      obtain rfl : m = 41 - xs.length := by omega
      refine fin _ _ _ cs (xs ++ List.replicate (41 - xs.length) (List.replicate cs.length 0)) (by rw [upd_next]; omega) (fun id h => by rw [upd_get, if_neg (by omega), holdj id (by omega)]; exact oi.old id h) (own _ _ (by rw [upd_next]; omega) rfl (by rw [upd_get, if_neg (by omega)]; exact (holdj _ ic2).trans gci)) (fz_rows (ownD2_upd hDj (by omega)).toG fun i hi => by omega) ?_
      unfold bendD
      rw [d, if_neg (by decide), if_neg (fun h => absurd h.1 (by decide)), if_neg (fun h => absurd h.1 (by decide)), if_pos rfl]
    have zr : List.replicate cs.length (AVal.lit (.int .i64 0)) = ints (List.replicate cs.length 0) := by simp [ints, lin]
    have zO : OwnG Hj.next (ext Hj [.arr 0 3 (ints (List.replicate cs.length 0))]) 3 (.own Hj.next 0 0 cs.length 1) (ints (List.replicate cs.length 0)) := by
      have := OwnG.new (H := Hj) (e := 3) (cs := ints (List.replicate cs.length 0))
      rw [ints_length, List.length_replicate] at this
      exact this
    have zn : (ext Hj [.arr 0 3 (ints (List.replicate cs.length 0))]).next = Hj.next + 1 := rfl
    obtain ⟨xv2, H5, hA2, hD5, hn5, hp⟩ := OwnD2.app (P := Tryd.prog) (n := Hj.next + 1 + 1) (t := 48) Tryd.underlying48 Tryd.cells22 Tryd.zero22 Tryd.bytes22 (by decide) (by rw [List.length_map, List.length_append, List.length_replicate]; omega) hDj (.ext _ _) (by omega) zO (by rw [zn])
    rw [zn] at hA2 hn5 hp
    have k5' : H5.live Hq.next 0 = _ := get_live ((hp _ (by omega) (by omega)).trans ((get_ext_old _ _ _ (by omega)).trans hbj))
    obtain ⟨xone2, xcells2⟩ := ownD2_one hD5
    have kcj := get_live ((holdj _ ic2).trans gci)
    simp (config := { maxSteps := 1000000 }) only [go_sem, p2, p3, p4, p5, j2, j5, hlenj, g1, yone, ycells, appendA_U]
    refine W.draw 7 [0, 1, 0, 4, 12, 28, 60] Tryd.mixed (by kernel_rfl) (by kernel_rfl) ?_
    simp (config := { maxSteps := 1000000 }) only [go_sem, p2, p3, p4, p5, j5, kcj, zr, hA2, k5', xone2, xcells2]
    refine ⟨⟨by omega, by omega⟩, ⟨fun _ h => by omega, fun _ h => by omega⟩, ⟨fun _ h => by omega, fun _ h => by omega⟩, by rw [upd_next]; omega, ⟨m + 1, xv2, by omega, by rw [upd_next]; omega, fun id h => by rw [upd_get, if_neg (by omega), hp id (by omega) (by omega), get_ext_old _ _ _ (by omega)]; exact holdj id h, by rw [upd_get, if_pos rfl], ?_⟩, ?_⟩
    · rw [show List.replicate (m + 1) (List.replicate cs.length (0 : Int)) = List.replicate m (List.replicate cs.length 0) ++ [List.replicate cs.length 0] from List.replicate_succ', ← List.append_assoc, List.map_append]
      exact ownD2_upd hD5 (by omega)
    · rw [upd_get, if_pos rfl, hbj]
      have e2 : ∃ i2 g2, xv2 = .own i2 g2 0 (xs.length + m + 1) 1 := by
        obtain ⟨ocs, oG, oL, _, _⟩ := hD5
        rw [List.length_append, List.length_map, List.length_append, List.length_replicate, List.length_singleton] at oL
        rcases oG with ⟨_, e⟩ | ⟨i2, g2, _, _, h, _⟩
        · rw [e] at oL; simp at oL
        · rw [oL] at h; exact ⟨i2, g2, h⟩
      obtain ⟨i2, g2, rfl⟩ := e2
      have e1 : xv' = .lit (.slice none 0 0) ∨ ∃ i1 g1, xv' = .own i1 g1 0 (xs.length + m) 1 := by
        obtain ⟨ocs, oG, oL, _, _⟩ := hDj
        rw [List.length_map, List.length_append, List.length_replicate] at oL
        rcases oG with ⟨h, _⟩ | ⟨i1, g1, _, _, h, _⟩
        · exact .inl h
        · rw [oL] at h; exact .inr ⟨i1, g1, h⟩
      rcases e1 with rfl | ⟨i1, g1', rfl⟩
      · show 41 - (xs.length + m + 1) < 42
        omega
      · show 41 - (xs.length + m + 1) < 41 - (xs.length + m)
        omega
  · simp (config := { maxSteps := 1000000 }) only [go_sem, p2, p3, p4, p5, k0, k2, k5, wm, wu, d, xone, xcells, appendA_U]
    refine ⟨by decide, by decide, by decide, by decide, by decide, by decide, ?_⟩
    have u5 : ∀ L, (ext Hi L).live Hq.next 0 = _ := fun L => (ext_live_old (by omega)).trans k5
    have u2 : ∀ L b, ((ext Hi L).upd Hq.next b).live (H.next + 2) 0 = _ := fun L b => (live_upd_other (by omega)).trans ((ext_live_old (by omega)).trans k2)
    simp (config := { maxSteps := 1000000 }) only [go_sem, p2, p3, p4, p5, k0, k2, k5, wm, wu, d, xone, xcells, u5, u2, appendA_U]
    refine fin _ _ _ [4, 4, 4, 4, 4, 4] [] (by rw [upd_next, upd_next, ext_next]; omega) (fun id h => by rw [upd_get, if_neg (by omega), upd_get, if_neg (by omega), get_ext_old _ _ _ (by omega)]; exact oi.old id h) (OwnG.fzI (lo := H.next) (l := [4, 4, 4, 4, 4, 4]) (.inr ⟨Hi.next, 0, by omega, by rw [upd_next, upd_next, ext_next]; simp, rfl, by rw [upd_get, if_neg (by omega), upd_get, if_neg (by omega)]; exact ext1_get_new⟩) fun i h => h) .nil ?_
    unfold bendD
    rw [d, if_neg (by decide), if_neg (fun h => absurd h.1 (by decide)), if_neg (fun h => absurd h.1 (by decide)), if_neg (by decide), if_pos rfl]
  · simp (config := { maxSteps := 1000000 }) only [go_sem, p2, p3, p4, p5, k0, k2, k5, wm, wu, d, xone, xcells, u2, appendA_U]
    refine nilC ?_
    unfold bendD
    rw [d, if_neg (by decide), if_neg (fun h => absurd h.1 (by decide)), if_neg (fun h => absurd h.1 (by decide)), if_neg (by decide), if_neg (by decide)]
def stepW (g : Int) (e : List Int) (w : Int) : List Int := addP (addP e 1 w) (-1) g
def foldW (g : Int) (e ws : List Int) : List Int := ws.foldl (stepW g) e
theorem foldW_snoc (g : Int) (e ws : List Int) (w : Int) : foldW g e (ws ++ [w]) = stepW g (foldW g e ws) w := by unfold foldW; rw [List.foldl_append]; rfl
theorem foldW_app (g : Int) (e a b : List Int) : foldW g e (a ++ b) = foldW g (foldW g e a) b := by unfold foldW; rw [List.foldl_append]
theorem foldW_ok (g : Int) (ws : List Int) : ∀ {e : List Int} {b : Int}, 0 ≤ b → e.length = 18 → InB e b → (foldW g e ws).length = 18 ∧ InB (foldW g e ws) (b + 12 * ws.length) := by
  induction ws with
  | nil => intro e b _ h1 h2; exact ⟨h1, by simpa [foldW] using h2⟩
  | cons w ws ih =>
    intro e b hb h1 h2
    have := ih (e := stepW g e w) (b := b + 6 + 6) (by omega) (addP_len ..) ((h2.add hb (.inl rfl) w).add (by omega) (.inr rfl) g)
    refine ⟨this.1, ?_⟩
    intro x hx
    have := this.2 x hx
    rw [List.length_cons]
    omega
noncomputable def likeE (g : Int) (ns : List NodeP) (cs : List Int) (xs : List (List Int)) : Int := if netB g ns = true then (if dataB cs xs = true then (if cardsL ns = cs then 0 else 261) else 250) else 50
def allW (ns : List NodeP) (xs : List (List Int)) : List Int := (xs.map (wgtL ns)).flatten
noncomputable def likeV (g : Int) (ns : List NodeP) (cs : List Int) (xs : List (List Int)) : AVal :=
  if likeE g ns cs xs ≠ 0 then .tup [.agg (ints zeroP), lin (likeE g ns cs xs)]
  else if ∀ r ∈ xs, wholeB r = true then (if ∀ w ∈ allW ns xs, w ≠ 0 then .tup [.agg (ints (foldW g zeroP (allW ns xs))), lin 0] else .tup [.agg (ints zeroP), lin 7])
  else .tup [.agg (ints zeroP), lin 260]
theorem allW_succ {ns : List NodeP} {xs : List (List Int)} {i : Nat} {r : List Int} (h : xs[i]? = some r) : allW ns (xs.take (i + 1)) = allW ns (xs.take i) ++ wgtL ns r := by
  unfold allW; rw [take_succ_get h]; simp
theorem allW_len (ns : List NodeP) (xs : List (List Int)) : (allW ns xs).length = xs.length * ns.length := by
  induction xs with
  | nil => simp [allW]
  | cons r xs ih =>
    have e : allW ns (r :: xs) = wgtL ns r ++ allW ns xs := rfl
    rw [e, List.length_append, ih, wgtL_len, List.length_cons, Nat.add_mul]
    omega
theorem allW_zero {ns : List NodeP} {xs : List (List Int)} {i v : Nat} {r : List Int} (h : xs[i]? = some r) (hv : v < ns.length) (h0 : wgtN ns r v = 0) : ¬ ∀ w ∈ allW ns xs, w ≠ 0 := fun hh => by
  refine hh 0 ?_ rfl
  unfold allW
  rw [List.mem_flatten]
  exact ⟨wgtL ns r, List.mem_map.2 ⟨r, List.mem_of_getElem? h, rfl⟩, by rw [← h0]; exact List.mem_of_getElem? (wgtL_get hv)⟩
theorem rowOf_spec (ns : List NodeP) (x : NodeP) (vals : List Int) (hin : InRange x.parents ns.length) (hs : SmallC (parC ns x)) (hf : FitsC (cardsL ns) vals) (H : AHeap) (K : ARes → AHeap → Prop)
    (hK : K (.ret (lin (idxL (parC ns x) (atL vals x.parents)))) H) : ACall Tryd.prog G0 69 [vecI (cardsL ns), vecI x.parents, vecI vals] H K := by
  have l12 := hs.1
  have pl : (parC ns x).length = x.parents.length := atL_len _ _
  have vl : (atL vals x.parents).length = x.parents.length := atL_len _ _
  have hfl : vals.length = ns.length := by rw [hf.1, cards_len]
  have at_get : ∀ (k : Nat) (q : Int), x.parents[k]? = some q → ∃ (j : Nat) (y : NodeP) (b : Int), q = j ∧ ns[j]? = some y ∧ vals[j]? = some b ∧ (parC ns x)[k]? = some y.card ∧ (atL vals x.parents)[k]? = some b ∧ 0 ≤ b ∧ b < y.card := fun k q hq => by
    obtain ⟨j, rfl, y, hy⟩ := get_of_int (l := ns) (hin q (List.mem_of_getElem? hq)).1 (hin q (List.mem_of_getElem? hq)).2
    obtain ⟨b, hb⟩ := get_of_lt (l := vals) (i := j) (by rw [hfl]; exact get_lt hy)
    have r := hf.2 j y.card b (cards_get hy) hb
    exact ⟨j, y, b, rfl, hy, hb, by rw [show (parC ns x)[k]? = _ from atL_get hq, Int.toNat_natCast, getD_of_get (cards_get hy)], by rw [atL_get hq, Int.toNat_natCast, getD_of_get hb], r⟩
  have ft : ∀ k, FitsC ((parC ns x).take k) ((atL vals x.parents).take k) := fun k => ⟨by simp [pl, vl], fun i c b h1 h2 => by
    rw [List.getElem?_take] at h1 h2
    split at h1
    · rename_i hik
      rw [if_pos hik] at h2
      obtain ⟨q, hq⟩ := get_of_lt (l := x.parents) (i := i) (by rw [← pl]; exact get_lt h1)
      obtain ⟨j, y, b', _, _, _, a1, a2, a3⟩ := at_get i q hq
      rw [h1] at a1; rw [h2] at a2
      cases a1; cases a2; exact a3
    · cases h1⟩
  have hr : ∀ k, 0 ≤ hornL ((parC ns x).take k) ((atL vals x.parents).take k) ∧ hornL ((parC ns x).take k) ((atL vals x.parents).take k) < 68719476737 := fun k => by
    rw [hornL_eq (ft k).1]
    have a := idxL_range (ft k)
    have b := (hs.take k).prod
    omega
  refine ACall.of_body (n := 29) (rs := [.tmp 6]) Tryd.func69 rfl rfl rfl (by decide) (by kernel_rfl) (by simp) ?_
  simp (config := { maxSteps := 1000000 }) only [go_sem, appendA_U]
  refine W.loop0 268432000 (by rfl) (fun ρ H' => H' = H ∧ ∃ k : Nat, ρ 12 = lin k ∧ k ≤ x.parents.length ∧ ρ 7 = lin (hornL ((parC ns x).take k) ((atL vals x.parents).take k))) (fun ρ H => x.parents.length - (iv (ρ 12)).toNat) ?_ ?_
  · simp (config := { maxSteps := 1000000 }) only [go_sem, appendA_U]
    exact ⟨0, rfl, by omega, rfl⟩
  rintro ρ H' ⟨rfl, k, h16, hk, h7⟩
  refine vc_sound _ _ _ (by rfl) ?_
  by_cases hb : (k : Int) < x.parents.length
  · obtain ⟨q, hq⟩ := get_of_lt (l := x.parents) (i := k) (by omega)
    obtain ⟨j, y, b, rfl, hy, hbv, a1, a2, a3⟩ := at_get k q hq
    have hne2 := ne_of_get hq
    have hne3 := ne_of_get hbv
    have hcy := cards_get hy
    have hne := ne_of_get hcy
    have hj : (j : Int) < (cardsL ns).length := by have := get_lt hcy; omega
    have hj2 : (j : Int) < vals.length := by have := get_lt hbv; omega
    have w1 := IntWalk.i64_in ((k : Int) + 1) (by omega)
    have r1 := hr (k + 1)
    rw [hornL_snoc a1 a2] at r1
    have r0 := hr k
    have m0 : 0 ≤ hornL ((parC ns x).take k) ((atL vals x.parents).take k) * y.card := Int.mul_nonneg r0.1 (by omega)
    have w2 := IntWalk.i64_in (hornL ((parC ns x).take k) ((atL vals x.parents).take k) * y.card) (by omega)
    have w3 := IntWalk.i64_in (hornL ((parC ns x).take k) ((atL vals x.parents).take k) * y.card + b) (by omega)
    simp (config := { maxSteps := 1000000 }) only [go_sem, h16, h7, hb, hq, hne2, appendA_U]
    refine W.draw 10 [0, 0, 0, 6, 14, 31, 0, 0, 192, 448] Tryd.mixed (by kernel_rfl) (by kernel_rfl) ?_
    simp (config := { maxSteps := 1000000 }) only [go_sem, h16, h7, hb, hq, hne, hne2, hne3, hj, hj2, hbv, hcy, w1, w2, w3, appendA_U]
    exact ⟨⟨k + 1, by simp, by omega, by rw [hornL_snoc a1 a2]⟩, by omega⟩
  · simp (config := { maxSteps := 1000000 }) only [go_sem, h16, h7, hb, appendA_U]
    rw [List.take_of_length_le (by omega), List.take_of_length_le (by omega), hornL_eq (by rw [pl, vl])]
    exact FinV.mk (Nat.le_refl _) hK
set_option maxHeartbeats 1000000 in
theorem like_spec (g : Int) (ns : List NodeP) (cs : List Int) (xs : List (List Int)) (hn : NetFit ns) (hf : DataFit cs xs) (H : AHeap) (K : ARes → AHeap → Prop) (hK : K (.ret (lin (likeE g ns cs xs))) H) : ACall Tryd.prog G0 71 [netV g ns, dataV cs xs] H K := by
  refine ACall.clo ⟨_, Tryd.func71, rfl, rfl⟩ fun hcl => ?_
  have hf' := hf
  obtain ⟨f1, f2, f3⟩ := hf
  have hn1 := hn.1
  refine ACall.of_body (n := 38) (rs := [.tmp 4]) Tryd.func71 rfl rfl rfl (by decide) (by kernel_rfl) (by simp) ?_
  simp (config := { maxSteps := 1000000 }) only [go_sem, dataV, vecV, netV, nodesV, appendA_U]
  obtain ⟨H1, hH1⟩ : ∃ H1, H1 = ext H [.arr 0 61 [.lit (.int .i64 g), .vec ns.length (nodesC ns)], .arr 0 50 [.vec cs.length (ints cs), .vec xs.length (xs.map vecI)]] := ⟨_, rfl⟩
  have l1 : H1.live H.next 0 = some (61, [.lit (.int .i64 g), .vec ns.length (nodesC ns)]) := by rw [hH1]; exact get_live (get_ext0 ..)
  have l2 : H1.live (H.next + 1) 0 = some (50, [.vec cs.length (ints cs), .vec xs.length (xs.map vecI)]) := by rw [hH1]; exact get_live (get_ext H _ 1 (by simp))
  have o1 : Over H H1 := by rw [hH1]; exact .ext _ _
  rw [← hH1]
  refine AApply.clo (right05_spec g ns hn _ _ ⟨trivial, ?_⟩)
  cases hN : netB g ns
  · simp (config := { maxSteps := 1000000 }) only [go_sem, appendA_U]
    unfold likeE at hK
    rw [if_neg (by rw [hN]; decide)] at hK
    exact FinV.dropO G0_ok hcl o1 (.lit _) hK
  simp (config := { maxSteps := 1000000 }) only [go_sem, l1, l2, appendA_U]
  refine AApply.clo (right25_spec cs xs hf' _ _ ⟨trivial, ?_⟩)
  cases hD : dataB cs xs
  · simp (config := { maxSteps := 1000000 }) only [go_sem, appendA_U]
    unfold likeE at hK
    rw [if_pos hN, if_neg (by rw [hD]; decide)] at hK
    exact FinV.dropO G0_ok hcl o1 (.lit _) hK
  have unl : ¬ cardsL ns = cs → FinV Tryd.prog G0 H K (lin 261) H1 := fun h => by
    unfold likeE at hK
    rw [if_pos hN, if_pos hD, if_neg h] at hK
    exact FinV.dropO G0_ok hcl o1 (.lit _) hK
  by_cases hl : (ns.length : Int) = cs.length
  rotate_left
  · simp (config := { maxSteps := 1000000 }) only [go_sem, l1, l2, hl, appendA_U]
    exact unl fun h => hl (by rw [← h, cards_len])
  simp (config := { maxSteps := 1000000 }) only [go_sem, l1, l2, hl, appendA_U]
  refine W.loop0 274877382704 (by rfl) (fun ρ H' => H' = H1 ∧ ∃ k : Nat, ρ 5 = lin k ∧ k ≤ ns.length ∧ (cardsL ns).take k = cs.take k) (fun ρ H => ns.length - (iv (ρ 5)).toNat) ?_ ?_
  · simp (config := { maxSteps := 1000000 }) only [go_sem, appendA_U]
    exact ⟨0, rfl, by omega, rfl⟩
  rintro ρ H' ⟨rfl, k, h5, hk, he⟩
  refine vc_sound _ _ _ (by rfl) ?_
  by_cases hb : (k : Int) < cs.length
  · obtain ⟨x, hx⟩ := get_of_lt (l := ns) (i := k) (by omega)
    obtain ⟨c, hc⟩ := get_of_lt (l := cs) (i := k) (by omega)
    have hne := nodesC_ne hx
    have e0 := nodesC_0 hx
    have hcn := ne_of_get hc
    have hbn : (k : Int) < ns.length := by omega
    simp (config := { maxSteps := 1000000 }) only [go_sem, h5, hb, l1, l2, appendA_U]
    refine W.draw 11 [0, 1, 0, 7, 15, 31, 0, 64, 0, 448, 960] Tryd.mixed (by kernel_rfl) (by kernel_rfl) ?_
    by_cases hd : x.card = c
    · have w1 := IntWalk.i64_in ((k : Int) + 1) (by omega)
      simp (config := { maxSteps := 1000000 }) only [go_sem, h5, hb, hbn, hl, hne, e0, l1, l2, hc, hcn, hd, w1, appendA_U]
      exact ⟨⟨k + 1, rfl, by omega, by rw [take_succ_get (cards_get hx), take_succ_get hc, he, hd]⟩, by omega⟩
    · simp (config := { maxSteps := 1000000 }) only [go_sem, h5, hb, hbn, hl, hne, e0, l1, l2, hc, hcn, hd, appendA_U]
      exact unl fun h => hd (by have := cards_get hx; rw [h, hc] at this; exact (Option.some.inj this).symm)
  · simp (config := { maxSteps := 1000000 }) only [go_sem, h5, hb, hl, l1, l2, appendA_U]
    rw [List.take_of_length_le (by rw [cards_len]; omega), List.take_of_length_le (by omega)] at he
    unfold likeE at hK
    rw [if_pos hN, if_pos hD, if_pos he] at hK
    exact FinV.dropO G0_ok hcl o1 (.lit _) hK
theorem likeV_err {g : Int} {ns : List NodeP} {cs : List Int} {xs : List (List Int)} {e : Int} (h : likeE g ns cs xs = e) (he : e ≠ 0) : likeV g ns cs xs = .tup [.agg (ints zeroP), lin e] := by
  unfold likeV; rw [if_pos (by rw [h]; exact he), h]
theorem likeE_net {g : Int} {ns : List NodeP} {cs : List Int} {xs : List (List Int)} (h : netB g ns = false) : likeE g ns cs xs = 50 := by
  unfold likeE; rw [if_neg (by rw [h]; decide)]
theorem likeE_data {g : Int} {ns : List NodeP} {cs : List Int} {xs : List (List Int)} (h : netB g ns = true) (h2 : dataB cs xs = false) : likeE g ns cs xs = 250 := by
  unfold likeE; rw [if_pos h, if_neg (by rw [h2]; decide)]
theorem likeE_un {g : Int} {ns : List NodeP} {cs : List Int} {xs : List (List Int)} (h : netB g ns = true) (h2 : dataB cs xs = true) (h3 : ¬ cardsL ns = cs) : likeE g ns cs xs = 261 := by
  unfold likeE; rw [if_pos h, if_pos h2, if_neg h3]
theorem likeE_ok {g : Int} {ns : List NodeP} {cs : List Int} {xs : List (List Int)} (h : netB g ns = true) (h2 : dataB cs xs = true) (h3 : cardsL ns = cs) : likeE g ns cs xs = 0 := by
  unfold likeE; rw [if_pos h, if_pos h2, if_pos h3]
theorem likeV_miss {g : Int} {ns : List NodeP} {cs : List Int} {xs : List (List Int)} (h : likeE g ns cs xs = 0) (h2 : ¬ ∀ r ∈ xs, wholeB r = true) : likeV g ns cs xs = .tup [.agg (ints zeroP), lin 260] := by
  unfold likeV; rw [if_neg (fun hh => hh h), if_neg h2]
theorem likeV_zero {g : Int} {ns : List NodeP} {cs : List Int} {xs : List (List Int)} (h : likeE g ns cs xs = 0) (h2 : ∀ r ∈ xs, wholeB r = true) (h3 : ¬ ∀ w ∈ allW ns xs, w ≠ 0) : likeV g ns cs xs = .tup [.agg (ints zeroP), lin 7] := by
  unfold likeV; rw [if_neg (fun hh => hh h), if_pos h2, if_neg h3]
theorem likeV_ok {g : Int} {ns : List NodeP} {cs : List Int} {xs : List (List Int)} (h : likeE g ns cs xs = 0) (h2 : ∀ r ∈ xs, wholeB r = true) (h3 : ∀ w ∈ allW ns xs, w ≠ 0) : likeV g ns cs xs = .tup [.agg (ints (foldW g zeroP (allW ns xs))), lin 0] := by
  unfold likeV; rw [if_neg (fun hh => hh h), if_pos h2, if_pos h3]
theorem fold_small {g : Int} {ns : List NodeP} {xs : List (List Int)} (hx : xs.length ≤ 40) (hn : ns.length ≤ 8) {r : List Int} (i v : Nat) : (foldW g (foldW g zeroP (allW ns (xs.take i))) ((wgtL ns r).take v)).length = 18 ∧ InB (foldW g (foldW g zeroP (allW ns (xs.take i))) ((wgtL ns r).take v)) 9000 := by
  have h1 := foldW_ok g (allW ns (xs.take i)) (e := zeroP) (b := 0) (by omega) rfl .zero
  have l1 : (allW ns (xs.take i)).length ≤ 320 := by
    rw [allW_len, List.length_take]
    calc min i xs.length * ns.length ≤ 40 * 8 := Nat.mul_le_mul (by omega) hn
      _ = 320 := rfl
  have h2 := foldW_ok g ((wgtL ns r).take v) (by omega) h1.1 h1.2
  have l2 : ((wgtL ns r).take v).length ≤ 8 := by rw [List.length_take, wgtL_len]; omega
  exact ⟨h2.1, fun x hx => by have := h2.2 x hx; omega⟩
theorem fold_small0 {g : Int} {ns : List NodeP} {xs : List (List Int)} (hx : xs.length ≤ 40) (hn : ns.length ≤ 8) (i : Nat) : (foldW g zeroP (allW ns (xs.take i))).length = 18 ∧ InB (foldW g zeroP (allW ns (xs.take i))) 9000 := fold_small (g := g) (r := []) hx hn i 0
theorem InB.mono {e : List Int} {a b : Int} (h : InB e a) (hab : a ≤ b) : InB e b := fun x hx => by have := h x hx; omega
set_option maxHeartbeats 4000000 in
theorem likelihood_spec (g : Int) (ns : List NodeP) (cs : List Int) (xs : List (List Int)) (hn : NetFit ns) (hf : DataFit cs xs) (H : AHeap) (K : ARes → AHeap → Prop) (hK : K (.ret (likeV g ns cs xs)) H) : ACall Tryd.prog G0 30 [netV g ns, dataV cs xs] H K := by
  refine ACall.clo ⟨_, Tryd.func30, rfl, rfl⟩ fun hcl => ?_
  have hf' := hf
  obtain ⟨f1, f2, f3⟩ := hf
  have hn1 := hn.1
  refine ACall.of_bodyW (n := 86) (rs := [.cell 4 84, .tmp 5]) Tryd.func30 rfl rfl rfl (by decide) (by simp) ?_
  refine W.seq (vc_sound _ _ _ (by rfl) ?_)
  simp (config := { maxSteps := 1000000 }) only [go_sem, dataV, vecV, netV, nodesV, appendA_U]
  obtain ⟨H1, hH1⟩ : ∃ H1, H1 = ext H [.arr 0 61 [.lit (.int .i64 g), .vec ns.length (nodesC ns)], .arr 0 50 [.vec cs.length (ints cs), .vec xs.length (xs.map vecI)], .arr 0 84 (ints zeroP)] := ⟨_, rfl⟩
  have b0 : H1.get H.next = some (.arr 0 61 [.lit (.int .i64 g), .vec ns.length (nodesC ns)]) := by rw [hH1]; exact get_ext0 ..
  have b1 : H1.get (H.next + 1) = some (.arr 0 50 [.vec cs.length (ints cs), .vec xs.length (xs.map vecI)]) := by rw [hH1]; exact get_ext H _ 1 (by simp)
  have b2 : H1.get (H.next + 2) = some (.arr 0 84 (ints zeroP)) := by rw [hH1]; exact get_ext H _ 2 (by simp)
  have n1 : H1.next = H.next + 3 := by rw [hH1]; rfl
  have o1 : Over H H1 := by rw [hH1]; exact .ext _ _
  refine W.env fun E hE => ?_
  have e2 : E 2 = .ptr H.next 0 0 := by rw [hE]; simp (config := { maxSteps := 1000000 }) only [go_sem, appendA_U]
  have e3 : E 3 = .ptr (H.next + 1) 0 0 := by rw [hE]; simp (config := { maxSteps := 1000000 }) only [go_sem, appendA_U]
  have e4 : E 4 = .ptr (H.next + 2) 0 0 := by rw [hE]; simp (config := { maxSteps := 1000000 }) only [go_sem, appendA_U]
  have e5 : E 5 = lin 0 := by rw [hE]; simp (config := { maxSteps := 1000000 }) only [go_sem, appendA_U]
  clear hE
  show W _ _ _ _ _ _ ⟨E, ext H [.arr 0 61 [.lit (.int .i64 g), .vec ns.length (nodesC ns)], .arr 0 50 [.vec cs.length (ints cs), .vec xs.length (xs.map vecI)], .arr 0 84 (ints zeroP)]⟩
  rw [← hH1]
  clear hH1
  have l0 := get_live b0
  have l1 := get_live b1
  have l2 := get_live b2
  have zt := take18 (e := zeroP) rfl
  have zl : (ints zeroP).length = 18 := rfl
  have za := all_one_ints zeroP
  have fail : ∀ (c : Int) (Hx : AHeap), likeV g ns cs xs = .tup [.agg (ints zeroP), lin c] → Over H Hx → FinV Tryd.prog G0 H K (.tup [.agg (ints zeroP), lin c]) Hx := fun c Hx h o => by
    rw [h] at hK
    exact FinV.dropO G0_ok hcl o (fz_pow _ _) hK
  refine W.seq (vc_sound _ _ _ (by rfl) ?_)
  simp (config := { maxSteps := 1000000 }) only [go_sem, e2, e3, e4, l0, appendA_U]
  refine AApply.clo (netCheck_spec g ns hn _ _ ⟨trivial, ?_⟩)
  cases hN : netB g ns
  · simp (config := { maxSteps := 1000000 }) only [go_sem, e2, e3, e4, l2, zt, zl, za, drop18, appendA_U]
    exact fail 50 _ (likeV_err (likeE_net hN) (by decide)) (o1.upd (by omega) _)
  simp (config := { maxSteps := 1000000 }) only [go_sem, appendA_U]
  refine W.seq (vc_sound _ _ _ (by rfl) ?_)
  simp (config := { maxSteps := 1000000 }) only [go_sem, e2, e3, e4, l1, appendA_U]
  refine AApply.clo (check25_spec cs xs hf' _ _ ⟨trivial, ?_⟩)
  cases hD : dataB cs xs
  · simp (config := { maxSteps := 1000000 }) only [go_sem, e2, e3, e4, l2, zt, zl, za, drop18, appendA_U]
    exact fail 250 _ (likeV_err (likeE_data hN hD) (by decide)) (o1.upd (by omega) _)
  simp (config := { maxSteps := 1000000 }) only [go_sem, appendA_U]
  refine W.seq (vc_sound _ _ _ (by rfl) ?_)
  simp (config := { maxSteps := 1000000 }) only [go_sem, e2, e3, e4, l0, l1, appendA_U]
  refine AApply.clo (alike_spec g ns cs xs hn1 hf' _ _ ⟨trivial, ?_⟩)
  by_cases hcs : cardsL ns = cs
  rotate_left
  · simp (config := { maxSteps := 1000000 }) only [go_sem, e2, e3, e4, l2, zt, zl, za, drop18, hcs, appendA_U]
    exact fail 261 _ (likeV_err (likeE_un hN hD hcs) (by decide)) (o1.upd (by omega) _)
  simp (config := { maxSteps := 1000000 }) only [go_sem, hcs, appendA_U]
  have hE0 := likeE_ok hN hD hcs
  subst hcs
  have nok := netB_iff.1 hN
  have dok := dataB_iff.1 hD
  refine W.env fun E2 hE2 => ?_
  have a2 : E2 2 = .ptr H.next 0 0 := by rw [hE2]; simp (config := { maxSteps := 1000000 }) only [go_sem, e2, appendA_U]
  have a3 : E2 3 = .ptr (H.next + 1) 0 0 := by rw [hE2]; simp (config := { maxSteps := 1000000 }) only [go_sem, e3, appendA_U]
  have a4 : E2 4 = .ptr (H.next + 2) 0 0 := by rw [hE2]; simp (config := { maxSteps := 1000000 }) only [go_sem, e4, appendA_U]
  have a5 : E2 5 = lin 0 := by rw [hE2]; simp (config := { maxSteps := 1000000 }) only [go_sem, e5, appendA_U]
  clear hE2
  refine W.seq (vc_sound _ _ _ (by rfl) ?_)
  simp (config := { maxSteps := 1000000 }) only [go_sem, a2, a3, a4, a5, l1, appendA_U]

  refine W.loop0 17523466568224 (by rfl) (fun ρ H' => H' = H1 ∧ ∃ k : Nat, ρ 36 = lin k ∧ k ≤ xs.length ∧ ∀ r ∈ xs.take k, wholeB r = true) (fun ρ H => xs.length - (iv (ρ 36)).toNat) ?_ ?_
  · simp (config := { maxSteps := 1000000 }) only [go_sem, appendA_U]
    exact ⟨0, rfl, by omega, by simp⟩
  rintro ρ H' ⟨rfl, k, h36, hk, hall⟩
  refine vc_sound _ _ _ (by rfl) ?_
  by_cases hb : (k : Int) < xs.length
  · obtain ⟨r, hr⟩ := get_of_lt (l := xs) (i := k) (by omega)
    have hrm := List.mem_of_getElem? hr
    have hr' := vecV_get hr
    have hrn := ne_of_get hr'
    have rl := f3 r hrm
    simp (config := { maxSteps := 1000000 }) only [go_sem, h36, hb, hr', hrn, appendA_U]
    refine AApply.clo (contains_spec r (-1) (by omega) _ _ ⟨trivial, ?_⟩)
    have wi := whole_iff (dok.row r hrm)
    by_cases hm : (-1 : Int) ∈ r
    · simp (config := { maxSteps := 1000000 }) only [go_sem, hm, a4, l2, zt, zl, za, drop18, appendA_U]
      exact fail 260 _ (likeV_miss hE0 fun hh => (wi.1 (hh r hrm)) hm) (o1.upd (by omega) _)
    · have w1 := IntWalk.i64_in ((k : Int) + 1) (by omega)
      simp (config := { maxSteps := 1000000 }) only [go_sem, hm, h36, w1, appendA_U]
      refine ⟨⟨k + 1, rfl, by omega, fun q hq => ?_⟩, by omega⟩
      rw [take_succ_get hr] at hq
      rcases List.mem_append.1 hq with hq | hq
      · exact hall q hq
      · obtain rfl := List.mem_singleton.1 hq; exact wi.2 hm
  rw [List.take_of_length_le (by omega)] at hall
  simp (config := { maxSteps := 1000000 }) only [go_sem, h36, hb, appendA_U]
  refine W.env fun E3 hE3 => ?_
  have c2 : E3 2 = .ptr H.next 0 0 := by rw [hE3]; simp (config := { maxSteps := 1000000 }) only [go_sem, a2, appendA_U]
  have c3 : E3 3 = .ptr (H.next + 1) 0 0 := by rw [hE3]; simp (config := { maxSteps := 1000000 }) only [go_sem, a3, appendA_U]
  have c4 : E3 4 = .ptr (H.next + 2) 0 0 := by rw [hE3]; simp (config := { maxSteps := 1000000 }) only [go_sem, a4, appendA_U]
  clear hE3
  refine W.seq (vc_sound _ _ _ (by rfl) ?_)
  simp (config := { maxSteps := 1000000 }) only [go_sem, appendA_U]
  obtain ⟨Hs, hHs⟩ : ∃ Hs, Hs = ext H' [.arr 0 84 (ints zeroP)] := ⟨_, rfl⟩
  have ns' : Hs.next = H.next + 4 := by rw [hHs]; show H'.next + 1 = _; omega
  have os : Over H' Hs := by rw [hHs]; exact .ext _ _
  have b10 : Hs.get (H.next + 3) = some (.arr 0 84 (ints zeroP)) := by rw [hHs, ← n1]; exact ext1_get_new
  have oall := o1.trans os
  have s0 := (os.old _ (by omega)).trans b0
  have s1 := (os.old _ (by omega)).trans b1
  have s2 := (os.old _ (by omega)).trans b2
  refine W.env fun E4 hE4 => ?_
  have d2 : E4 2 = .ptr H.next 0 0 := by rw [hE4]; simp (config := { maxSteps := 1000000 }) only [go_sem, c2, appendA_U]
  have d3 : E4 3 = .ptr (H.next + 1) 0 0 := by rw [hE4]; simp (config := { maxSteps := 1000000 }) only [go_sem, c3, appendA_U]
  have d4 : E4 4 = .ptr (H.next + 2) 0 0 := by rw [hE4]; simp (config := { maxSteps := 1000000 }) only [go_sem, c4, appendA_U]
  have d10 : E4 10 = .ptr (H.next + 3) 0 0 := by rw [hE4]; simp (config := { maxSteps := 1000000 }) only [go_sem, n1, appendA_U]
  clear hE4
  show W _ _ _ _ _ _ ⟨E4, ext H' [.arr 0 84 (ints zeroP)]⟩
  rw [← hHs]
  clear hHs
  have m0 := get_live s0
  have m1 := get_live s1
  have m2 := get_live s2
  refine W.seq (vc_sound _ _ _ (by rfl) ?_)
  simp (config := { maxSteps := 1000000 }) only [go_sem, d3, m1, appendA_U]
  have nn8 := nok.n1.2
  have x40 := dok.x1
  refine W.loop0 38685626227527396102303776 (by rfl) (fun ρ Hx => ∃ i : Nat, ρ 47 = lin i ∧ i ≤ xs.length ∧ Hs.next ≤ Hx.next ∧ (∀ id, id < H.next + 3 → Hx.get id = Hs.get id) ∧ Hx.get (H.next + 3) = some (.arr 0 84 (ints (foldW g zeroP (allW ns (xs.take i))))) ∧ ∀ w ∈ allW ns (xs.take i), w ≠ 0) (fun ρ H => xs.length - (iv (ρ 47)).toNat) ?_ ?_
  · simp (config := { maxSteps := 1000000 }) only [go_sem, appendA_U]
    exact ⟨0, rfl, by omega, b10, by simp [allW]⟩
  rintro ρ2 Hx ⟨i, h47, hi, hnx, hold, hg10, hnz⟩
  refine vc_sound _ _ _ (by rfl) ?_
  have p2 := get_live ((hold _ (by omega)).trans s2)
  have p10 := get_live hg10
  by_cases hb2 : (i : Int) < xs.length
  rotate_left
  · rw [List.take_of_length_le (by omega)] at hg10 hnz p10
    have fs := fold_small0 (g := g) (xs := xs) x40 nn8 xs.length
    rw [List.take_of_length_le (Nat.le_refl _)] at fs
    have ft := take18 fs.1
    have fl : (ints (foldW g zeroP (allW ns xs))).length = 18 := by rw [ints_length, fs.1]
    have fa := all_one_ints (foldW g zeroP (allW ns xs))
    have fl1 := fs.1
    simp (config := { maxSteps := 1000000 }) only [go_sem, h47, hb2, d4, d10, appendA_U]
    refine vc_sound _ _ _ (by rfl) ?_
    simp (config := { maxSteps := 1000000 }) only [go_sem, h47, hb2, d4, d10, p2, p10, ft, fl, fa, fl1, zl, drop18, appendA_U]
    rw [likeV_ok hE0 hall hnz] at hK
    exact FinV.dropO G0_ok hcl ⟨by rw [upd_next]; omega, fun id h => by rw [upd_get, if_neg (by omega), hold id (by omega)]; exact oall.old id h⟩ (fz_pow _ _) hK
  obtain ⟨r, hr⟩ := get_of_lt (l := xs) (i := i) (by omega)
  have hrm := List.mem_of_getElem? hr
  have hr' := vecV_get hr
  have hrn := ne_of_get hr'
  have hfit : FitsC (cardsL ns) r := whole_fits (dok.row r hrm) (hall r hrm)
  have p0 := get_live ((hold _ (by omega)).trans s0)
  have p1 := get_live ((hold _ (by omega)).trans s1)
  obtain ⟨e, he⟩ : ∃ e, e = foldW g zeroP (allW ns (xs.take i)) := ⟨_, rfl⟩
  rw [← he] at hg10
  simp (config := { maxSteps := 1000000 }) only [go_sem, h47, hb2, hr', hrn, d2, p0, appendA_U]
  refine W.loop0 19342813095819668285874208 (by rfl) (fun ρ3 Hy => ∃ v : Nat, ρ3 54 = lin v ∧ v ≤ ns.length ∧ Hx.next ≤ Hy.next ∧ (∀ id, id < H.next + 3 → Hy.get id = Hs.get id) ∧ Hy.get (H.next + 3) = some (.arr 0 84 (ints (foldW g e ((wgtL ns r).take v)))) ∧ ∀ w ∈ (wgtL ns r).take v, w ≠ 0) (fun ρ3 H => ns.length - (iv (ρ3 54)).toNat) ?_ ?_
  · simp (config := { maxSteps := 1000000 }) only [go_sem, appendA_U]
    exact ⟨0, rfl, by omega, hold, hg10, by simp⟩
  rintro ρ3 Hy ⟨v, h54, hv, hny, holdy, hgy, hnzv⟩
  refine W.env fun E5 hE5 => ?_
  have f2 : E5 2 = .ptr H.next 0 0 := by rw [hE5]; simp (config := { maxSteps := 1000000 }) only [go_sem, d2, appendA_U]
  have f3 : E5 3 = .ptr (H.next + 1) 0 0 := by rw [hE5]; simp (config := { maxSteps := 1000000 }) only [go_sem, d3, appendA_U]
  have f4 : E5 4 = .ptr (H.next + 2) 0 0 := by rw [hE5]; simp (config := { maxSteps := 1000000 }) only [go_sem, d4, appendA_U]
  have f10 : E5 10 = .ptr (H.next + 3) 0 0 := by rw [hE5]; simp (config := { maxSteps := 1000000 }) only [go_sem, d10, appendA_U]
  have f12 : E5 12 = vecI r := by rw [hE5]; simp (config := { maxSteps := 1000000 }) only [go_sem, appendA_U]
  have f47 : E5 47 = lin i := by rw [hE5]; simp (config := { maxSteps := 1000000 }) only [go_sem, h47, appendA_U]
  have f52 : E5 52 = .vec ns.length (nodesC ns) := by rw [hE5]; simp (config := { maxSteps := 1000000 }) only [go_sem, appendA_U]
  have f53 : E5 53 = lin ns.length := by rw [hE5]; simp (config := { maxSteps := 1000000 }) only [go_sem, appendA_U]
  have f54 : E5 54 = lin v := by rw [hE5]; simp (config := { maxSteps := 1000000 }) only [go_sem, h54, appendA_U]
  clear hE5
  refine vc_sound _ _ _ (by rfl) ?_
  by_cases hb3 : (v : Int) < ns.length
  rotate_left
  · obtain rfl : v = ns.length := by omega
    rw [List.take_of_length_le (by rw [wgtL_len]; omega)] at hgy hnzv
    have w1 := IntWalk.i64_in ((i : Int) + 1) (by omega)
    simp (config := { maxSteps := 1000000 }) only [go_sem, f53, f54, f47, hb3, w1, appendA_U]
    refine ⟨by omega, ⟨i + 1, rfl, by omega, by omega, holdy, ?_, fun w hw => ?_⟩, by omega⟩
    · rw [allW_succ hr, foldW_app, ← he]; exact hgy
    · rw [allW_succ hr] at hw
      rcases List.mem_append.1 hw with hw | hw
      · exact hnz w hw
      · exact hnzv w hw
  obtain ⟨x, hx⟩ := get_of_lt (l := ns) (i := v) (by omega)
  have hxm := List.mem_of_getElem? hx
  have hin : InRange x.parents ns.length := fun q hq => by have := (nok.node x hxm).2.2 q hq; omega
  have sm := parC_small nn8 (nok.node x hxm).2 fun y hy => (nok.node y hy).1
  obtain ⟨i0, row, a, w, hR⟩ := row_at nok hx hfit
  obtain ⟨a', rfl⟩ := Int.eq_ofNat_of_zero_le hR.a0
  have hra : row[a']? = some w := by have := hR.hw; rw [Int.toNat_natCast] at this; exact this
  have hrane := ne_of_get hra
  have hva := hR.val
  have hvne := ne_of_get hva
  have hri := vecV_get hR.row
  have hrine := ne_of_get hri
  have hvv : (v : Int) < r.length := by have := get_lt hva; omega
  have hal := hR.al
  have hi0 : (i0 : Int) < x.rows.length := by have := get_lt hR.row; omega
  have e0 := nodesC_part hx
  have e1 : v * 3 + 3 ≤ (nodesC ns).length := by rw [nodesC_len]; omega
  have hne := nodesC_ne hx
  have q1 := get_live ((holdy _ (by omega)).trans s1)
  have q1e : ∀ L, (ext Hy L).live (H.next + 1) 0 = _ := fun L => (ext_live_old (by omega)).trans q1
  simp (config := { maxSteps := 1000000 }) only [go_sem, f52, f53, f54, hb3, hne, e0, e1, appendA_U]
  refine W.draw 14 [0, 1, 0, 4, 0, 16, 0, 124, 255, 511, 0, 0, 3072, 7168] Tryd.mixed (by kernel_rfl) (by kernel_rfl) ?_
  simp (config := { maxSteps := 1000000 }) only [go_sem, f3, f12, q1e, vecV, appendA_U]
  refine ⟨lin i0, [], PCall.pure (fun H2 => rowOf_spec ns x r hin sm hfit H2 _ ⟨by rw [hR.idx], rfl⟩), ?_⟩
  simp (config := { maxSteps := 1000000 }) only [go_sem, f3, f12, q1e, hi0, hri, hrine, hva, hvne, hvv, hra, hrane, hal, appendA_U]
  obtain ⟨Hn, hHn⟩ : ∃ Hn, Hn = ext Hy [.arr 0 91 [.lit (.int .i64 x.card), .vec x.parents.length (ints x.parents), vecV x.rows]] := ⟨_, rfl⟩
  have nn1 : Hn.next = Hy.next + 1 := by rw [hHn]; rfl
  have holdn : ∀ id, id < H.next + 3 → Hn.get id = Hs.get id := fun id h => by rw [hHn, get_ext_old _ _ _ (by omega)]; exact holdy id h
  have gn10 : Hn.get (H.next + 3) = some (.arr 0 84 (ints (foldW g e ((wgtL ns r).take v)))) := by rw [hHn, get_ext_old _ _ _ (by omega)]; exact hgy
  have fsm := fold_small (g := g) (r := r) x40 nn8 (xs := xs) i v
  rw [← he] at fsm
  have r0 := get_live ((holdn _ (by omega)).trans s0)
  have r2 := get_live ((holdn _ (by omega)).trans s2)
  rw [show vecV x.rows = .vec x.rows.length (x.rows.map vecI) from rfl] at hHn
  rw [← hHn]
  by_cases hw0 : w = 0
  · simp (config := { maxSteps := 1000000 }) only [go_sem, hw0, f4, r2, zt, zl, za, drop18, appendA_U]
    rw [likeV_zero hE0 hall (allW_zero hr (get_lt hx) (by rw [hR.eq, hw0]))] at hK
    exact FinV.dropO G0_ok hcl ⟨by rw [upd_next]; omega, fun id h => by rw [upd_get, if_neg (by omega), holdn id (by omega)]; exact oall.old id h⟩ (fz_pow zeroP _) hK
  have g60 := nok.g1
  have wb := hR.wb
  simp (config := { maxSteps := 1000000 }) only [go_sem, hw0, f10, appendA_U]
  refine AApply.clo (multiply_spec (H.next + 3) _ w 1 (by omega) (.inl rfl) fsm.1 (fsm.2.mono (by omega)) Hn gn10 _ fun Hm gm holdm nm => ⟨trivial, ?_⟩)
  have rm0 := get_live ((holdm _ (by omega)).trans ((holdn _ (by omega)).trans s0))
  simp (config := { maxSteps := 1000000 }) only [go_sem, f2, f10, rm0, appendA_U]
  refine AApply.clo (multiply_spec (H.next + 3) _ g (-1) (by omega) (.inr rfl) (addP_len ..) ((fsm.2.add (by omega) (.inl rfl) w).mono (by omega)) Hm gm _ fun Hm2 gm2 holdm2 nm2 => ⟨trivial, ?_⟩)
  have w1 := IntWalk.i64_in ((v : Int) + 1) (by omega)
  simp (config := { maxSteps := 1000000 }) only [go_sem, f54, w1, appendA_U]
  refine ⟨by omega, ⟨v + 1, rfl, by omega, by omega, fun id h => by rw [holdm2 id (by omega), holdm id (by omega)]; exact holdn id h, ?_, fun q hq => ?_⟩, by rw [h54]; simp only [lin, iv_int]; omega⟩
  · rw [take_succ_get (wgtL_get (get_lt hx)), foldW_snoc, hR.eq]
    exact gm2
  · rw [take_succ_get (wgtL_get (get_lt hx)), hR.eq] at hq
    rcases List.mem_append.1 hq with hq | hq
    · exact hnzv q hq
    · obtain rfl := List.mem_singleton.1 hq; exact hw0
end Go.Proofs
