/- Own work: contracts. -/
import Derived.Test.YtikgmgmphkalkaaDoorConG
import Derived.Test.YtikgmgmphkalkaaDoorConF
set_option linter.all false
set_option maxRecDepth 100000
namespace Go.Proofs
open Go.Hx

set_option maxHeartbeats 8000000 in
theorem round26_spec {c : List Int} {grain least : Int} {n : Nat} (hn : c.length = n) (h1 : 1 ≤ n) (hl : n ≤ 1024) (hc : ∀ x ∈ c, 0 ≤ x ∧ x ≤ 1099511627776) (hg : 1 ≤ grain ∧ grain ≤ 720) (hle : 0 ≤ least ∧ least ≤ 720) (hfit : least * n ≤ grain) (H : AHeap) (K : ARes → AHeap → Prop)
    (hK : ∀ s, ShareOk least (spareOf grain least c) c s → K (.ret (vecI s)) H) :
    ACall Tryd.prog G0 12 [vecI c, lin grain, lin least] H K := by
  refine ACall.clo ⟨_, Tryd.func12, rfl, rfl⟩ fun hcl => ?_
  obtain ⟨sp, hsp⟩ : ∃ sp, sp = spareOf grain least c := ⟨_, rfl⟩
  have hsp2 : sp = grain - least * n := by rw [hsp]; unfold spareOf; rw [hn]
  have m0 : 0 ≤ least * n := Int.mul_nonneg hle.1 (by omega)
  have sp0 : 0 ≤ sp ∧ sp ≤ 720 := by omega
  have hcn : ∀ x ∈ c, 0 ≤ x := fun x h => (hc x h).1
  have cel := effC_len c
  rw [hn] at cel
  have her := effC_rng hc
  have hT := effT_pos (c := c) (by omega)
  have hlb := left_bound (sp := sp) (c := c) (by omega)
  rw [← hsp] at hK
  refine ACall.of_bodyW (n := 97) (rs := [.tmp 6]) Tryd.func12 rfl rfl rfl (by decide) (by simp) ?_
  refine W.seq (vc_sound _ _ _ (by rfl) ?_)
  simp (config := { maxSteps := 1000000 }) only [go_sem, appendA_U]
  refine W.seq (vc_sound _ _ _ (by rfl) ?_)
  simp (config := { maxSteps := 1000000 }) only [go_sem, appendA_U]
  refine AApply.clo (due26_spec (by omega) (by omega) hc hg hle H _ ⟨trivial, ?_⟩)
  rw [← hsp]
  obtain ⟨ec, hec⟩ : ∃ ec, ec = effC c := ⟨_, rfl⟩
  obtain ⟨T, hTe⟩ : ∃ T, T = effT c := ⟨_, rfl⟩
  rw [← hec, ← hTe]
  rw [← hTe] at hT
  rw [← hec] at her cel
  simp (config := { maxSteps := 1000000 }) only [go_sem, appendA_U]
  refine W.seq (vc_sound _ _ _ (by rfl) ?_)
  simp (config := { maxSteps := 1000000 }) only [go_sem, appendA_U]
  refine W.seq (vc_sound _ _ _ (by rfl) ?_)
  simp (config := { maxSteps := 1000000 }) only [go_sem, appendA_U]
  refine W.seq (vc_sound _ _ _ (by rfl) ?_)
  simp (config := { maxSteps := 1000000 }) only [go_sem, appendA_U]
  refine W.env fun E hE => ?_
  have e2 : E 2 = lin least := by rw [hE]; simp (config := { maxSteps := 1000000 }) only [go_sem, appendA_U]
  have e7 : E 7 = vecI ec := by rw [hE]; simp (config := { maxSteps := 1000000 }) only [go_sem, appendA_U]
  have e8 : E 8 = lin T := by rw [hE]; simp (config := { maxSteps := 1000000 }) only [go_sem, appendA_U]
  have e9 : E 9 = lin sp := by rw [hE]; simp (config := { maxSteps := 1000000 }) only [go_sem, appendA_U]
  have e10 : E 10 = .lit (.slice none 0 0) := by rw [hE]; simp (config := { maxSteps := 1000000 }) only [go_sem, appendA_U]
  have e11 : E 11 = .lit (.slice none 0 0) := by rw [hE]; simp (config := { maxSteps := 1000000 }) only [go_sem, appendA_U]
  have e12 : E 12 = lin sp := by rw [hE]; simp (config := { maxSteps := 1000000 }) only [go_sem, appendA_U]
  have e13 : E 13 = lin 0 := by rw [hE]; simp (config := { maxSteps := 1000000 }) only [go_sem, appendA_U]
  clear hE
  refine W.loop0 36893488147385564160 (by rfl) (fun ρ Hx => Over H Hx ∧ ∃ (i : Nat), ρ 13 = lin i ∧ i ≤ n ∧ ρ 12 = lin (leftK sp c i) ∧ Own2 H.next Hx 3 (ρ 10) (ints ((List.range i).map fun j => least + partAt sp c j)) (ρ 11) (ints ((List.range i).map (restAt sp c)))) (fun ρ Hx => n - (iv (ρ 13)).toNat) ?_ ?_
  · refine ⟨.refl _, 0, e13, by omega, e12.trans (by unfold leftK; simp), ?_⟩
    show Own2 _ _ _ (E 10) _ (E 11) _
    rw [e10, e11]
    exact .nil
  rintro ρ Hx ⟨ov, i, h13, hi, h12, hO⟩
  obtain ⟨v, hv⟩ : ∃ v, v = ρ 10 := ⟨_, rfl⟩
  obtain ⟨u, hu⟩ : ∃ u, u = ρ 11 := ⟨_, rfl⟩
  rw [← hv, ← hu] at hO
  refine W.env fun E1 hE1 => ?_
  have f2 : E1 2 = lin least := by rw [hE1]; simp (config := { maxSteps := 1000000 }) only [go_sem, e2, appendA_U]
  have f7 : E1 7 = vecI ec := by rw [hE1]; simp (config := { maxSteps := 1000000 }) only [go_sem, e7, appendA_U]
  have f8 : E1 8 = lin T := by rw [hE1]; simp (config := { maxSteps := 1000000 }) only [go_sem, e8, appendA_U]
  have f9 : E1 9 = lin sp := by rw [hE1]; simp (config := { maxSteps := 1000000 }) only [go_sem, e9, appendA_U]
  have f10 : E1 10 = v := by rw [hE1]; simp (config := { maxSteps := 1000000 }) only [go_sem, hv, appendA_U]
  have f11 : E1 11 = u := by rw [hE1]; simp (config := { maxSteps := 1000000 }) only [go_sem, hu, appendA_U]
  have f12 : E1 12 = lin (leftK sp c i) := by rw [hE1]; simp (config := { maxSteps := 1000000 }) only [go_sem, h12, appendA_U]
  have f13 : E1 13 = lin i := by rw [hE1]; simp (config := { maxSteps := 1000000 }) only [go_sem, h13, appendA_U]
  clear hE1
  have vo := hO.a.one
  have vcl := hO.a.cells
  have uo := hO.b.one
  have ucl := hO.b.cells
  have hov := ov.next
  refine vc_sound _ _ _ (by rfl) ?_
  by_cases hb : (i : Int) < n
  · obtain ⟨x, hx⟩ := get_of_lt (l := ec) (i := i) (by omega)
    have hxr := her x (List.mem_of_getElem? hx)
    have hxn := ne_of_get hx
    have p0 : 0 ≤ sp * x := Int.mul_nonneg sp0.1 hxr.1
    have p1 : sp * x ≤ 720 * 1099511627776 := Int.mul_le_mul sp0.2 hxr.2 hxr.1 (by omega)
    have hpa := part_at (sp := sp) (c := c) (i := i) (x := x) (by rw [← hec]; exact hx)
    rw [← hTe] at hpa
    have q1 : (sp * x).tdiv T = partAt sp c i := by rw [hpa.1]; exact Int.tdiv_eq_ediv_of_nonneg p0
    have q2 : (sp * x).tmod T = restAt sp c i := by rw [hpa.2]; exact Int.tmod_eq_emod_of_nonneg p0
    have pn := part_nn hcn (by omega) sp0.1 i
    have pl := part_le hcn (by omega) sp0.1 i
    have rb := rest_bound (sp := sp) (c := c) (by omega) i
    have rl : restAt sp c i ≤ sp * x := by
      have h0 : 0 ≤ T * (sp * x / T) := Int.mul_nonneg (by omega) (by rw [← hpa.1]; exact pn)
      rw [hpa.2, Int.emod_def]
      omega
    have lk := leftK_rng hcn (by omega) sp0.1 i
    have lk1 : sp * (i : Int) ≤ 720 * 1024 := Int.mul_le_mul sp0.2 (by omega) (by omega) (by omega)
    have t0 : ¬ T = 0 := by omega
    have w1 := IntWalk.i64_in (sp * x) (by omega)
    have w2 := IntWalk.i64_in (partAt sp c i) (by omega)
    have w3 := IntWalk.i64_in (least + partAt sp c i) (by omega)
    have w4 := IntWalk.i64_in (restAt sp c i) (by omega)
    have w5 := IntWalk.i64_in (leftK sp c i - partAt sp c i) (by omega)
    have w6 := IntWalk.i64_in ((i : Int) + 1) (by omega)
    obtain ⟨v', Ha, hA1, hOa, hna, hpa1⟩ := Own2.app (P := Tryd.prog) (t := 22) (x := lin (least + partAt sp c i)) (n := Hx.next + 1) Tryd.underlying22 Tryd.cells3 Tryd.zero3 rfl (by rw [Tryd.bytes3, ints_length, List.length_map, List.length_range]; omega) hO hov rfl
    simp only [lin] at hA1
    have vo1 := hOa.a.one
    have vc1 := hOa.a.cells
    obtain ⟨u', Hc, hA2, hOc, hnc, hpc⟩ := Own2.app (P := Tryd.prog) (t := 22) (x := lin (restAt sp c i)) (n := Ha.next + 1) Tryd.underlying22 Tryd.cells3 Tryd.zero3 rfl (by rw [Tryd.bytes3, ints_length, List.length_map, List.length_range]; omega) hOa.symm (by omega) rfl
    simp only [lin] at hA2
    have vo2 := hOc.a.one
    have vc2 := hOc.a.cells
    simp (config := { maxSteps := 1000000 }) only [go_sem, f2, f7, f8, f9, f10, f11, f12, f13, cel, hb, hx, hxn, t0, q1, q2, w1, w2, w3, w4, w5, w6, vo, vcl, uo, ucl, hA1, vo1, vc1, hA2, vo2, vc2]
    have er1 : ints ((List.range i).map fun j => least + partAt sp c j) ++ [lin (least + partAt sp c i)] = ints ((List.range (i + 1)).map fun j => least + partAt sp c j) := by rw [List.range_succ, List.map_append]; unfold ints; rw [List.map_append]; rfl
    have er2 : ints ((List.range i).map (restAt sp c)) ++ [lin (restAt sp c i)] = ints ((List.range (i + 1)).map (restAt sp c)) := by rw [List.range_succ, List.map_append]; unfold ints; rw [List.map_append]; rfl
    rw [er1, er2] at hOc
    exact ⟨by omega, ⟨⟨by omega, fun id hid => (hpc id hid).trans ((hpa1 id hid).trans (ov.old id hid))⟩, i + 1, rfl, by omega, by rw [leftK_succ], hOc.symm⟩, by rw [h13]; simp only [lin, iv_int]; omega⟩
  simp (config := { maxSteps := 1000000 }) only [go_sem, f7, f13, cel, hb, appendA_U]
  obtain rfl : i = n := by omega
  have iA : (ints ((List.range i).map fun j => least + partAt sp c j)).length = i := by rw [ints_length, List.length_map, List.length_range]
  have iB : (ints ((List.range i).map (restAt sp c))).length = i := by rw [ints_length, List.length_map, List.length_range]
  obtain ⟨io, go, hio, hlo, gio, hve⟩ : ∃ io go, H.next ≤ io ∧ io < Hx.next ∧ Hx.get io = some (.arr go 3 (ints ((List.range i).map fun j => least + partAt sp c j))) ∧ v = .own io go 0 i 1 := by
    rcases hO.a with ⟨_, h⟩ | ⟨io, go, a, a2, b, d⟩
    · rw [h] at iA; simp at iA; omega
    · exact ⟨io, go, a, a2, d, by rw [b, iA]⟩
  obtain ⟨ir, gr, hir, hlr, gir, hue⟩ : ∃ ir gr, H.next ≤ ir ∧ ir < Hx.next ∧ Hx.get ir = some (.arr gr 3 (ints ((List.range i).map (restAt sp c)))) ∧ u = .own ir gr 0 i 1 := by
    rcases hO.b with ⟨_, h⟩ | ⟨io, go, a, a2, b, d⟩
    · rw [h] at iB; simp at iB; omega
    · exact ⟨io, go, a, a2, d, by rw [b, iB]⟩
  have hne : io ≠ ir := fun e => hO.ne io go i gr i hve (by rw [hue, e])
  rw [hve] at f10 vo vcl
  rw [hue] at f11 uo ucl
  clear hO hve hue hv hu
  refine W.env fun E2 hE2 => ?_
  have g10 : E2 10 = .own io go 0 i 1 := by rw [hE2]; simp (config := { maxSteps := 1000000 }) only [go_sem, f10, appendA_U]
  have g11 : E2 11 = .own ir gr 0 i 1 := by rw [hE2]; simp (config := { maxSteps := 1000000 }) only [go_sem, f11, appendA_U]
  have g12 : E2 12 = lin (leftOf sp c) := by rw [hE2]; simp (config := { maxSteps := 1000000 }) only [go_sem, f12, appendA_U]; unfold leftK leftOf; rw [hn]
  clear hE2
  have eA : ((List.range i).map fun j => least + partAt sp c j) = sharesM least sp c fun _ => false := by unfold sharesM; rw [hn]; simp
  have eB : ((List.range i).map (restAt sp c)) = restM sp c fun _ => false := by unfold restM; rw [hn]; simp
  rw [eA] at gio
  rw [eB] at gir
  refine W.seq (W.block ?_)
  refine W.loop0 79228162477370849446124900352 (by kernel_rfl) (fun ρ Hy => ∃ (k : Nat) (M : Nat → Bool), ρ 12 = lin (leftOf sp c - k) ∧ (k : Int) ≤ leftOf sp c ∧ Top (restAt sp c) c.length k M ∧ Hy.next = Hx.next ∧ (∀ id, id < H.next → Hy.get id = Hx.get id) ∧ Hy.get io = some (.arr go 3 (ints (sharesM least sp c M))) ∧ Hy.get ir = some (.arr gr 3 (ints (restM sp c M)))) (fun ρ Hy => (iv (ρ 12)).toNat) ?_ ?_
  · exact ⟨0, _, g12.trans (by simp), by omega, .zero, rfl, fun _ _ => rfl, gio, gir⟩
  rintro ρ2 Hy ⟨k, M, h12', hk, hM, ny, hold, gyo, gyr⟩
  refine W.env fun E3 hE3 => ?_
  have d10 : E3 10 = .own io go 0 i 1 := by rw [hE3]; simp (config := { maxSteps := 1000000 }) only [go_sem, g10, appendA_U]
  have d11 : E3 11 = .own ir gr 0 i 1 := by rw [hE3]; simp (config := { maxSteps := 1000000 }) only [go_sem, g11, appendA_U]
  have d12 : E3 12 = lin (leftOf sp c - k) := by rw [hE3]; simp (config := { maxSteps := 1000000 }) only [go_sem, h12', appendA_U]
  clear hE3
  have lo := get_live gyo
  have lr := get_live gyr
  have il1 : (ints (sharesM least sp c M)).length = i := by rw [ints_length, shares_len, hn]
  have il2 : (ints (restM sp c M)).length = i := by rw [ints_length, restM_len, hn]
  by_cases hb2 : leftOf sp c - k > 0
  rotate_left
  · refine vc_sound _ _ _ (by rfl) ?_
    simp (config := { maxSteps := 1000000 }) only [go_sem, d12, hb2, appendA_U]
    refine vc_sound _ _ _ (by rfl) ?_
    simp (config := { maxSteps := 1000000 }) only [go_sem, d10, appendA_U]
    have hkl : k = (leftOf sp c).toNat := by omega
    refine FinV.dropO G0_ok hcl ⟨by omega, fun id hid => (hold id hid).trans (ov.old id hid)⟩ (v' := vecI (sharesM least sp c M)) ?_ (hK _ ⟨M, hkl ▸ hM, rfl⟩)
    rw [← il1]
    exact OwnG.fzI (lo := H.next) (.inr ⟨io, go, hio, by omega, rfl, gyo⟩) fun i h => h
  refine W.seq (vc_sound _ _ _ (by rfl) ?_)
  simp (config := { maxSteps := 1000000 }) only [go_sem, d12, hb2, appendA_U]
  refine W.seq (W.block ?_)
  refine W.seq (vc_sound _ _ _ (by rfl) ?_)
  simp (config := { maxSteps := 1000000 }) only [go_sem, appendA_U]
  refine W.seq (vc_sound _ _ _ (by rfl) ?_)
  simp (config := { maxSteps := 1000000 }) only [go_sem, appendA_U]
  refine W.env fun E4 hE4 => ?_
  have b10 : E4 10 = .own io go 0 i 1 := by rw [hE4]; simp (config := { maxSteps := 1000000 }) only [go_sem, d10, appendA_U]
  have b11 : E4 11 = .own ir gr 0 i 1 := by rw [hE4]; simp (config := { maxSteps := 1000000 }) only [go_sem, d11, appendA_U]
  have b12 : E4 12 = lin (leftOf sp c - k) := by rw [hE4]; simp (config := { maxSteps := 1000000 }) only [go_sem, d12, appendA_U]
  have b14 : E4 14 = lin 0 := by rw [hE4]; simp (config := { maxSteps := 1000000 }) only [go_sem, appendA_U]
  have b15 : E4 15 = lin 1 := by rw [hE4]; simp (config := { maxSteps := 1000000 }) only [go_sem, appendA_U]
  clear hE4
  obtain ⟨R, hR⟩ : ∃ R : Nat → Int, R = fun i => if M i then -1 else restAt sp c i := ⟨_, rfl⟩
  have hget : ∀ j, j < i → (restM sp c M)[j]? = Option.some (R j) := fun j hj => by rw [restM_get (by omega), hR]
  refine W.loop0 38685035931857774884995072 (by kernel_rfl) (fun ρ Hz => Hz = Hy ∧ ∃ (b j : Nat), ρ 14 = lin b ∧ ρ 15 = lin j ∧ 1 ≤ j ∧ j ≤ i ∧ b < j ∧ ∀ q, q < j → q ≠ b → before R b q) (fun ρ Hz => i - (iv (ρ 15)).toNat) ?_ ?_
  · exact ⟨rfl, 0, 1, b14, b15, by omega, by omega, by omega, fun q h1 h2 => by omega⟩
  rintro ρ4 Hz ⟨hHz, b, j, h14, h15, hj1, hji, hbj, hmin⟩
  rw [hHz]
  clear hHz
  refine W.env fun E5 hE5 => ?_
  have a10 : E5 10 = .own io go 0 i 1 := by rw [hE5]; simp (config := { maxSteps := 1000000 }) only [go_sem, b10, appendA_U]
  have a11 : E5 11 = .own ir gr 0 i 1 := by rw [hE5]; simp (config := { maxSteps := 1000000 }) only [go_sem, b11, appendA_U]
  have a12 : E5 12 = lin (leftOf sp c - k) := by rw [hE5]; simp (config := { maxSteps := 1000000 }) only [go_sem, b12, appendA_U]
  have a14 : E5 14 = lin b := by rw [hE5]; simp (config := { maxSteps := 1000000 }) only [go_sem, h14, appendA_U]
  have a15 : E5 15 = lin j := by rw [hE5]; simp (config := { maxSteps := 1000000 }) only [go_sem, h15, appendA_U]
  clear hE5
  have gb := hget b (by omega)
  have gbn := ne_of_get gb
  have hbi : (b : Int) < i := by omega
  by_cases hb3 : (j : Int) < i
  · have gj := hget j (by omega)
    have gjn := ne_of_get gj
    have w6 := IntWalk.i64_in ((j : Int) + 1) (by omega)
    refine W.seq (vc_sound _ _ _ (by rfl) ?_)
    simp (config := { maxSteps := 1000000 }) only [go_sem, a11, a15, lr, il2, hb3, appendA_U]
    refine W.seq (W.block ?_)
    refine W.seq ?_
    refine W.draw 8 [0, 0, 3, 7, 0, 0, 48, 112] Tryd.mixed (by kernel_rfl) (by kernel_rfl) ?_
    simp (config := { maxSteps := 1000000 }) only [go_sem, a11, a14, a15, lr, il2, hb3, hbi, gb, gbn, gj, gjn, appendA_U]
    refine vc_sound _ _ _ (by rfl) ?_
    by_cases hlt : R j > R b
    · simp (config := { maxSteps := 1000000 }) only [go_sem, hlt, a15, appendA_U]
      refine vc_sound _ _ _ (by rfl) ?_
      simp (config := { maxSteps := 1000000 }) only [go_sem, a15, w6, appendA_U]
      exact ⟨⟨j, j + 1, rfl, rfl, by omega, by omega, by omega, fun q h1 h2 => by
        by_cases hqb : q = b
        · subst hqb; exact .inl hlt
        · have := hmin q (by omega) hqb
          unfold before at this ⊢
          omega⟩, by rw [h15]; simp only [lin, iv_int]; omega⟩
    · simp (config := { maxSteps := 1000000 }) only [go_sem, hlt, a15, appendA_U]
      refine vc_sound _ _ _ (by rfl) ?_
      simp (config := { maxSteps := 1000000 }) only [go_sem, a14, a15, w6, appendA_U]
      exact ⟨⟨b, j + 1, rfl, rfl, by omega, by omega, by omega, fun q h1 h2 => by
        by_cases hqb : q = j
        · subst hqb; unfold before; omega
        · exact hmin q (by omega) h2⟩, by rw [h15]; simp only [lin, iv_int]; omega⟩
  obtain rfl : j = i := by omega
  obtain ⟨hMb, hstep⟩ := best_free (b := b) hM (by omega) (by omega) (fun q h1 h2 => by rw [← hR]; exact hmin q (by omega) h2)
  obtain ⟨w, hw⟩ := get_of_lt (l := sharesM least sp c M) (i := b) (by rw [shares_len]; omega)
  have hwn := ne_of_get hw
  have hwr : least ≤ w ∧ w ≤ 720 + sp + 1 := by
    rw [shares_get (by omega), hMb] at hw
    cases hw
    have pn := part_nn hcn (by omega) sp0.1 b
    have pl := part_le hcn (by omega) sp0.1 b
    simp
    omega
  have w7 := IntWalk.i64_in (w + 1) (by omega)
  have w8 := IntWalk.i64_in (leftOf sp c - k - 1) (by omega)
  refine vc_sound _ _ _ (by rfl) ?_
  simp (config := { maxSteps := 1000000 }) only [go_sem, a11, a15, lr, il2, hb3, appendA_U]
  refine vc_sound _ _ _ (by rfl) ?_
  have lrU : ∀ bk, (Hy.upd io bk).live ir gr = _ := fun bk => (live_upd_other (fun e => hne e.symm)).trans lr
  simp (config := { maxSteps := 1000000 }) only [go_sem, a10, a11, a14, lo, lrU, il1, il2, hbi, hw, hwn, w7, appendA_U]
  refine ⟨by omega, by omega, ?_⟩
  refine vc_sound _ _ _ (by rfl) ?_
  simp (config := { maxSteps := 1000000 }) only [go_sem, a12, w8, appendA_U]
  rw [setAt_ints (by rw [shares_len]; omega), setAt_ints (by rw [restM_len]; omega), sharesM_set (by omega) hMb hw, restM_set (by omega)]
  refine ⟨by rw [upd_next, upd_next, ny]; exact Nat.le_refl _, ⟨k + 1, _, by rw [show leftOf sp c - ((k + 1 : Nat) : Int) = leftOf sp c - k - 1 by omega], by omega, hM.step (by omega) hMb hstep, by rw [upd_next, upd_next]; exact ny, fun id hid => by rw [upd_get, if_neg (by omega), upd_get, if_neg (by omega)]; exact hold id hid, by rw [upd_get, if_neg hne, upd_get, if_pos rfl], by rw [upd_get, if_pos rfl]⟩, by rw [h12']; simp only [lin, iv_int]; omega⟩
end Go.Proofs
namespace Go.Hx
theorem ACall.fin {P : Program} {G : Nat → Option (List AVal)} {f : FuncId} {args : List AVal} {H : AHeap} {K : ARes → AHeap → Prop} (h : ACall P G f args H fun r H' => ∃ v, r = .ret v ∧ FinV P G H K v H') : ACall P G f args H K := by
  refine ⟨h.1, fun Γ w cargs R hr => (h.2 Γ w cargs R hr).mono ?_⟩
  rintro e w' ⟨r, H', Γ', hend, ⟨v, rfl, v', H2, hw, hn2, hk⟩, R', E, hn⟩
  obtain ⟨Γ2, R2, E2, hv⟩ := hw Γ' w' R'
  refine ⟨.ret v', H2, Γ2, ?_, hk, R2, E.trans hn E2, hn2⟩
  cases e with
  | returned cv => exact hv cv hend
  | _ => exact hend.elim
end Go.Hx
namespace Go.Proofs
open Go.Hx
open Classical in
noncomputable def shareF (least sp : Int) (c : List Int) : List Int := if h : ∃ s, ShareOk least sp c s then h.choose else []
theorem shareF_eq {least sp : Int} {c s : List Int} (h : ShareOk least sp c s) : s = shareF least sp c := by
  have hex : ∃ s, ShareOk least sp c s := ⟨s, h⟩
  unfold shareF
  rw [dif_pos hex]
  exact h.unique hex.choose_spec
def RoundOk (c : List Int) (grain least : Int) : Prop := (1 ≤ c.length ∧ c.length ≤ 1024) ∧ (∀ x ∈ c, 0 ≤ x ∧ x ≤ 1099511627776) ∧ (1 ≤ grain ∧ grain ≤ 720) ∧ 0 ≤ least ∧ least * c.length ≤ grain
noncomputable def roundB (c : List Int) (grain least : Int) : Bool := @decide (RoundOk c grain least) (Classical.propDecidable _)
theorem roundB_yes {c : List Int} {grain least : Int} (h : RoundOk c grain least) : roundB c grain least = true := by unfold roundB; exact @decide_eq_true _ (Classical.propDecidable _) h
theorem roundB_no {c : List Int} {grain least : Int} (h : ¬ RoundOk c grain least) : roundB c grain least = false := by unfold roundB; exact @decide_eq_false _ (Classical.propDecidable _) h
theorem roundB_iff {c : List Int} {grain least : Int} : roundB c grain least = true ↔ RoundOk c grain least := by unfold roundB; exact @decide_eq_true_iff _ (Classical.propDecidable _)
noncomputable def roundV (c : List Int) (grain least : Int) : AVal := if roundB c grain least then .tup [vecI (shareF least (spareOf grain least c) c), lin 0] else .tup [vecI [], lin 2]
theorem RoundOk.le {c : List Int} {grain least : Int} (h : RoundOk c grain least) : least ≤ 720 := by
  obtain ⟨h1, _, h3, h4, h5⟩ := h
  have : least * 1 ≤ least * c.length := Int.mul_le_mul_of_nonneg_left (by omega) h4
  omega
theorem round_bad {c : List Int} {grain least : Int} {n : Nat} (hn : c.length = n) (hl : n < 2 ^ 40) (hbad : ¬ RoundOk c grain least) (H : AHeap) (K : ARes → AHeap → Prop) (hK : K (.ret (.tup [vecI [], lin 2])) H) :
    ACall Tryd.prog G0 10 [.vec n (ints c), lin grain, lin least] H K := by
  refine ACall.clo ⟨_, Tryd.func10, rfl, rfl⟩ fun hcl => ?_
  have fin : FinV Tryd.prog G0 H K (.tup [.lit (.slice none 0 0), lin 2]) H := FinV.dropO (v' := .tup [vecI [], lin 2]) G0_ok hcl (.refl _) (.tup rfl fun i hi _ => match i, hi with
    | 0, _ => .nil
    | 1, _ => .lit _) hK
  have hil := ints_length c
  rw [hn] at hil
  refine ACall.of_bodyW (n := 144) (rs := [.tmp 6, .tmp 7]) Tryd.func10 rfl rfl rfl (by decide) (by simp) ?_
  refine W.seq (vc_sound _ _ _ (by rfl) ?_)
  simp (config := { maxSteps := 1000000 }) only [go_sem, appendA_U]
  by_cases b1 : (n : Int) < 1
  · refine W.seq (vc_sound _ _ _ (by rfl) ?_)
    simp (config := { maxSteps := 1000000 }) only [go_sem, b1, appendA_U]
    exact fin
  by_cases b2 : (n : Int) > 1024
  · refine W.seq (vc_sound _ _ _ (by rfl) ?_)
    simp (config := { maxSteps := 1000000 }) only [go_sem, b1, b2, appendA_U]
    exact fin
  refine W.seq (vc_sound _ _ _ (by rfl) ?_)
  simp (config := { maxSteps := 1000000 }) only [go_sem, b1, b2, appendA_U]
  refine W.seq (vc_sound _ _ _ (by rfl) ?_)
  simp (config := { maxSteps := 1000000 }) only [go_sem, appendA_U]
  refine W.seq (vc_sound _ _ _ (by rfl) ?_)
  simp (config := { maxSteps := 1000000 }) only [go_sem, appendA_U]
  refine W.env fun E hE1 => ?_
  have e0 : E 0 = .vec n (ints c) := by rw [hE1]; simp (config := { maxSteps := 1000000 }) only [go_sem, appendA_U]
  have e1 : E 1 = lin grain := by rw [hE1]; simp (config := { maxSteps := 1000000 }) only [go_sem, appendA_U]
  have e2 : E 2 = lin least := by rw [hE1]; simp (config := { maxSteps := 1000000 }) only [go_sem, appendA_U]
  have e8 : E 8 = lin 0 := by rw [hE1]; simp (config := { maxSteps := 1000000 }) only [go_sem, appendA_U]
  have e30 : E 30 = .vec n (ints c) := by rw [hE1]; simp (config := { maxSteps := 1000000 }) only [go_sem, appendA_U]
  have e31 : E 31 = lin n := by rw [hE1]; simp (config := { maxSteps := 1000000 }) only [go_sem, appendA_U]
  have e32 : E 32 = lin 0 := by rw [hE1]; simp (config := { maxSteps := 1000000 }) only [go_sem, appendA_U]
  clear hE1
  refine W.loop0 70364449211840 (by rfl) (fun ρ Hx => Hx = H ∧ ∃ i : Nat, ρ 32 = lin i ∧ i ≤ n ∧ (∀ x ∈ c.take i, 0 ≤ x ∧ x ≤ 1099511627776) ∧ ρ 8 = lin (c.take i).sum) (fun ρ Hx => n - (iv (ρ 32)).toNat) ?_ ?_
  · exact ⟨rfl, 0, e32, by omega, fun x h => by simp at h, e8⟩
  rintro ρ Hx ⟨hHx, i, h32, hi, hok, h8⟩
  rw [hHx]
  refine W.env fun E1 hE1 => ?_
  have f0 : E1 0 = .vec n (ints c) := by rw [hE1]; simp (config := { maxSteps := 1000000 }) only [go_sem, e0, appendA_U]
  have f1 : E1 1 = lin grain := by rw [hE1]; simp (config := { maxSteps := 1000000 }) only [go_sem, e1, appendA_U]
  have f2 : E1 2 = lin least := by rw [hE1]; simp (config := { maxSteps := 1000000 }) only [go_sem, e2, appendA_U]
  have f8 : E1 8 = lin (c.take i).sum := by rw [hE1]; simp (config := { maxSteps := 1000000 }) only [go_sem, h8, appendA_U]
  have f30 : E1 30 = .vec n (ints c) := by rw [hE1]; simp (config := { maxSteps := 1000000 }) only [go_sem, e30, appendA_U]
  have f31 : E1 31 = lin n := by rw [hE1]; simp (config := { maxSteps := 1000000 }) only [go_sem, e31, appendA_U]
  have f32 : E1 32 = lin i := by rw [hE1]; simp (config := { maxSteps := 1000000 }) only [go_sem, h32, appendA_U]
  clear hE1
  by_cases hb : (i : Int) < n
  · obtain ⟨x, hx⟩ := get_of_lt (l := c) (i := i) (by omega)
    have hxn := ne_of_get hx
    by_cases x1 : x < 0
    · refine vc_sound _ _ _ (by rfl) ?_
      simp (config := { maxSteps := 1000000 }) only [go_sem, f8, f30, f31, f32, hb, hil, hx, hxn, x1, appendA_U]
      exact fin
    by_cases x2 : x > 1099511627776
    · refine vc_sound _ _ _ (by rfl) ?_
      simp (config := { maxSteps := 1000000 }) only [go_sem, f8, f30, f31, f32, hb, hil, hx, hxn, x1, x2, appendA_U]
      exact fin
    have hsr := sumk_rng (c := c.take i) hok i
    have htl : ((c.take i).take i).length ≤ 1024 := by rw [List.length_take, List.length_take]; omega
    rw [List.take_take, Nat.min_self] at hsr htl
    have w1 := IntWalk.i64_in ((c.take i).sum + x) (by omega)
    have w2 := IntWalk.i64_in ((i : Int) + 1) (by omega)
    refine vc_sound _ _ _ (by rfl) ?_
    simp (config := { maxSteps := 1000000 }) only [go_sem, f8, f30, f31, f32, hb, hil, hx, hxn, x1, x2, w1, w2, appendA_U]
    refine ⟨⟨i + 1, rfl, by omega, fun y hy => ?_, by rw [sumk_succ hx]⟩, by rw [h32]; simp only [lin, iv_int]; omega⟩
    rw [take_succ_get hx] at hy
    rcases List.mem_append.1 hy with h | h
    · exact hok y h
    · rw [List.mem_singleton.1 h]; omega
  have hin : i = n := by omega
  rw [hin, ← hn, List.take_length] at hok
  refine vc_sound _ _ _ (by rfl) ?_
  simp (config := { maxSteps := 1000000 }) only [go_sem, f31, f32, hb, appendA_U]
  by_cases g1 : grain < 1
  · refine W.seq (vc_sound _ _ _ (by rfl) ?_)
    simp (config := { maxSteps := 1000000 }) only [go_sem, f0, f1, f2, g1, appendA_U]
    exact fin
  by_cases g2 : grain > 720
  · refine W.seq (vc_sound _ _ _ (by rfl) ?_)
    simp (config := { maxSteps := 1000000 }) only [go_sem, f0, f1, f2, g1, g2, appendA_U]
    exact fin
  by_cases g3 : least < 0
  · refine W.seq (vc_sound _ _ _ (by rfl) ?_)
    simp (config := { maxSteps := 1000000 }) only [go_sem, f0, f1, f2, g1, g2, g3, appendA_U]
    exact fin
  have gn : ¬ (n : Int) = 0 := by omega
  have gt : grain.tdiv n = grain / n := Int.tdiv_eq_ediv_of_nonneg (by omega)
  have gw := IntWalk.i64_in (grain / n) (by have := Int.ediv_nonneg (a := grain) (b := n) (by omega) (by omega); have := Int.ediv_le_self (a := grain) n (by omega); omega)
  have g4 : least > grain / n := by
    refine Classical.byContradiction fun h => hbad ?_
    have := (Int.le_ediv_iff_mul_le (show (0 : Int) < n by omega)).1 (Int.not_lt.1 h)
    exact ⟨by omega, hok, by omega, by omega, by rw [hn]; exact this⟩
  refine W.seq (vc_sound _ _ _ (by rfl) ?_)
  simp (config := { maxSteps := 1000000 }) only [go_sem, f0, f1, f2, g1, g2, g3, hil, gn, gt, gw, g4, appendA_U]
  exact fin
theorem fz_res {H0 H' : AHeap} {v : AVal} {s : List Int} (h : OwnG H0.next H' 3 v (ints s)) : Fz (fun id => H0.next ≤ id) H' H0.next (.tup [v, lin 0]) (.tup [vecI s, lin 0]) := .tup rfl fun i hi _ => match i, hi with
  | 0, _ => h.fzI fun i h => h
  | 1, _ => .lit _
theorem round_spec {c : List Int} {grain least : Int} (hl : c.length < 2 ^ 40) (H : AHeap) (K : ARes → AHeap → Prop) (hK : K (.ret (roundV c grain least)) H) :
    ACall Tryd.prog G0 10 [vecI c, lin grain, lin least] H K := by
  by_cases h : RoundOk c grain least
  · have h7 := h.le
    obtain ⟨h1, h2, h3, h4, h5⟩ := id h
    unfold roundV at hK
    rw [roundB_yes h, if_pos rfl] at hK
    refine ACall.clo ⟨_, Tryd.func10, rfl, rfl⟩ fun hcl => ACall.fin (round_k rfl h1.1 h1.2 h2 h3 ⟨h4, h7⟩ H _ (fun hlt => absurd h5 (by omega)) fun s v H' _ hs ho hv => ⟨_, rfl, FinV.dropO G0_ok hcl ho (fz_res hv) ?_⟩)
    rw [shareF_eq hs]
    exact hK
  · unfold roundV at hK
    rw [roundB_no h, if_neg (by decide)] at hK
    exact round_bad rfl hl h H K hK
theorem round26F {c : List Int} {grain least : Int} (h : RoundOk c grain least) (H : AHeap) (K : ARes → AHeap → Prop) (hK : K (.ret (vecI (shareF least (spareOf grain least c) c))) H) : ACall Tryd.prog G0 12 [vecI c, lin grain, lin least] H K := by
  have h7 := h.le
  obtain ⟨h1, h2, h3, h4, h5⟩ := h
  exact round26_spec rfl h1.1 h1.2 h2 h3 ⟨h4, h7⟩ h5 H K fun s hs => by rw [shareF_eq hs]; exact hK
def CntOk (c : List Int) : Prop := (1 ≤ c.length ∧ c.length ≤ 1024) ∧ ∀ x ∈ c, 0 ≤ x ∧ x ≤ 1099511627776
noncomputable def cokB (c : List Int) : Bool := @decide (CntOk c) (Classical.propDecidable _)
theorem cokB_iff {c : List Int} : cokB c = true ↔ CntOk c := by unfold cokB; exact @decide_eq_true_iff _ (Classical.propDecidable _)
theorem cokB_yes {c : List Int} (h : CntOk c) : cokB c = true := cokB_iff.2 h
theorem cokB_no {c : List Int} (h : ¬ CntOk c) : cokB c = false := by
  rcases Bool.eq_false_or_eq_true (cokB c) with e | e
  · exact absurd (cokB_iff.1 e) h
  · exact e
theorem counts_spec {c : List Int} (hl : (c.length : Int) < 2 ^ 40) (H : AHeap) (K : ARes → AHeap → Prop) (hK : K (.ret (.lit (.bool (cokB c)))) H) :
    ACall Tryd.prog G0 49 [vecI c] H K := by
  obtain ⟨n, hn⟩ : ∃ n, n = c.length := ⟨_, rfl⟩
  have hil := ints_length c
  rw [← hn] at hil hl
  unfold vecI
  rw [← hn]
  refine ACall.of_bodyW (n := 30) (rs := [.tmp 2]) Tryd.func49 rfl rfl rfl (by decide) (by simp) ?_
  refine W.seq (vc_sound _ _ _ (by rfl) ?_)
  simp (config := { maxSteps := 1000000 }) only [go_sem, appendA_U]
  refine W.seq (vc_sound _ _ _ (by rfl) ?_)
  simp (config := { maxSteps := 1000000 }) only [go_sem, appendA_U]
  refine W.env fun E hE => ?_
  have e0 : E 0 = .vec n (ints c) := by rw [hE]; simp (config := { maxSteps := 1000000 }) only [go_sem, appendA_U]
  have e3 : E 3 = lin 0 := by rw [hE]; simp (config := { maxSteps := 1000000 }) only [go_sem, appendA_U]
  clear hE
  refine W.loop0 4194300 (by rfl) (fun ρ Hx => Hx = H ∧ ∃ i : Nat, ρ 3 = lin i ∧ i ≤ n ∧ ∀ x ∈ c.take i, 0 ≤ x ∧ x ≤ 1099511627776) (fun ρ Hx => n - (iv (ρ 3)).toNat) ?_ ?_
  · exact ⟨rfl, 0, e3, by omega, fun x h => by simp at h⟩
  rintro ρ Hx ⟨hHx, i, h3, hi, hok⟩
  rw [hHx]
  refine W.env fun E1 hE1 => ?_
  have f0 : E1 0 = .vec n (ints c) := by rw [hE1]; simp (config := { maxSteps := 1000000 }) only [go_sem, e0, appendA_U]
  have f3 : E1 3 = lin i := by rw [hE1]; simp (config := { maxSteps := 1000000 }) only [go_sem, h3, appendA_U]
  clear hE1
  by_cases hb : (i : Int) < n
  · obtain ⟨x, hx⟩ := get_of_lt (l := c) (i := i) (by omega)
    have hxn := ne_of_get hx
    have hm := List.mem_of_getElem? hx
    by_cases x1 : x < 0
    · rw [cokB_no fun h => by have := h.2 x hm; omega] at hK
      refine vc_sound _ _ _ (by rfl) ?_
      simp (config := { maxSteps := 1000000 }) only [go_sem, f0, f3, hb, hil, hx, hxn, x1, guardA_undef, appendA_U]
      exact FinV.mk (Nat.le_refl _) hK
    by_cases x2 : x > 1099511627776
    · rw [cokB_no fun h => by have := h.2 x hm; omega] at hK
      refine vc_sound _ _ _ (by rfl) ?_
      simp (config := { maxSteps := 1000000 }) only [go_sem, f0, f3, hb, hil, hx, hxn, x1, x2, guardA_undef, appendA_U]
      exact FinV.mk (Nat.le_refl _) hK
    have w2 := IntWalk.i64_in ((i : Int) + 1) (by omega)
    refine vc_sound _ _ _ (by rfl) ?_
    simp (config := { maxSteps := 1000000 }) only [go_sem, f0, f3, hb, hil, hx, hxn, x1, x2, w2, guardA_undef, appendA_U]
    refine ⟨⟨i + 1, rfl, by omega, fun y hy => ?_⟩, by rw [h3]; simp only [lin, iv_int]; omega⟩
    rw [take_succ_get hx] at hy
    rcases List.mem_append.1 hy with h | h
    · exact hok y h
    · rw [List.mem_singleton.1 h]; omega
  have hin : i = n := by omega
  rw [hin, hn, List.take_length] at hok
  refine vc_sound _ _ _ (by rfl) ?_
  simp (config := { maxSteps := 1000000 }) only [go_sem, f0, f3, hb, appendA_U]
  by_cases g1 : (1 : Int) ≤ n
  · by_cases g2 : (n : Int) ≤ 1024
    · rw [cokB_yes ⟨by omega, hok⟩] at hK
      refine vc_sound _ _ _ (by rfl) ?_
      simp (config := { maxSteps := 1000000 }) only [go_sem, f0, g1, g2, guardA_undef, appendA_U]
      exact FinV.mk (Nat.le_refl _) hK
    · rw [cokB_no fun h => by have := h.1; omega] at hK
      refine vc_sound _ _ _ (by rfl) ?_
      simp (config := { maxSteps := 1000000 }) only [go_sem, f0, g1, g2, guardA_undef, appendA_U]
      exact FinV.mk (Nat.le_refl _) hK
  · rw [cokB_no fun h => by have := h.1; omega] at hK
    refine vc_sound _ _ _ (by rfl) ?_
    simp (config := { maxSteps := 1000000 }) only [go_sem, f0, g1, guardA_undef, appendA_U]
    exact FinV.mk (Nat.le_refl _) hK
theorem fair26_spec {c : List Int} {grain least : Int} (hl : (c.length : Int) < 2 ^ 40) (H : AHeap) (K : ARes → AHeap → Prop) (hK : K (.ret (.lit (.bool (roundB c grain least)))) H) :
    ACall Tryd.prog G0 11 [vecI c, lin grain, lin least] H K := by
  have no : ¬ RoundOk c grain least → K (.ret (.lit (.bool false))) H := fun h => by rw [roundB_no h] at hK; exact hK
  refine ACall.of_bodyW (n := 34) (rs := [.tmp 6]) Tryd.func11 rfl rfl rfl (by decide) (by simp) ?_
  refine W.seq (vc_sound _ _ _ (by rfl) ?_)
  simp (config := { maxSteps := 1000000 }) only [go_sem, appendA_U]
  refine vc_sound _ _ _ (by rfl) ?_
  simp (config := { maxSteps := 1000000 }) only [go_sem, appendA_U]
  refine AApply.clo (counts_spec hl _ _ ⟨trivial, ?_⟩)
  cases hc : cokB c with
  | false =>
    simp (config := { maxSteps := 1000000 }) only [go_sem, guardA_undef, appendA_U]
    exact FinV.mk (Nat.le_refl _) (no fun h => by rw [cokB_yes ⟨h.1, h.2.1⟩] at hc; cases hc)
  | true =>
    have hcc := cokB_iff.1 hc
    by_cases g1 : (1 : Int) ≤ grain
    rotate_left
    · simp (config := { maxSteps := 1000000 }) only [go_sem, g1, guardA_undef, appendA_U]
      exact FinV.mk (Nat.le_refl _) (no fun h => g1 h.2.2.1.1)
    by_cases g2 : grain ≤ 720
    rotate_left
    · simp (config := { maxSteps := 1000000 }) only [go_sem, g1, g2, guardA_undef, appendA_U]
      exact FinV.mk (Nat.le_refl _) (no fun h => g2 h.2.2.1.2)
    by_cases g3 : (0 : Int) ≤ least
    rotate_left
    · simp (config := { maxSteps := 1000000 }) only [go_sem, g1, g2, g3, guardA_undef, appendA_U]
      exact FinV.mk (Nat.le_refl _) (no fun h => g3 h.2.2.2.1)
    by_cases g4 : least ≤ grain
    rotate_left
    · simp (config := { maxSteps := 1000000 }) only [go_sem, g1, g2, g3, g4, guardA_undef, appendA_U]
      exact FinV.mk (Nat.le_refl _) (no fun h => g4 (by
        have h5 := h.2.2.2.2
        have := h.1.1
        have : least * 1 ≤ least * c.length := Int.mul_le_mul_of_nonneg_left (by omega) g3
        omega))
    have m0 : 0 ≤ least * (c.length : Int) := Int.mul_nonneg g3 (by omega)
    have m1 : least * (c.length : Int) ≤ 720 * 1024 := Int.mul_le_mul (by omega) (by have := hcc.1; omega) (by omega) (by omega)
    have wm := IntWalk.i64_in (least * (c.length : Int)) (by omega)
    by_cases g5 : least * (c.length : Int) ≤ grain
    · rw [roundB_yes ⟨hcc.1, hcc.2, ⟨g1, g2⟩, g3, g5⟩] at hK
      simp (config := { maxSteps := 1000000 }) only [go_sem, g1, g2, g3, g4, g5, wm, vecI, guardA_undef, appendA_U]
      exact FinV.mk (Nat.le_refl _) hK
    · simp (config := { maxSteps := 1000000 }) only [go_sem, g1, g2, g3, g4, g5, wm, vecI, guardA_undef, appendA_U]
      exact FinV.mk (Nat.le_refl _) (no fun h => g5 h.2.2.2.2)
end Go.Proofs
namespace Go.Hx
variable {P : Program} {G : Nat → Option (List AVal)}
theorem fzH_id {H : AHeap} (hc : Clo H) : FzH (fun _ => False) H H where
  gone id hs := hs.elim
  kept id b _ hb := by
    have hbb := hc.below id b hb
    refine ⟨hc.lt id b hb, b, hb, ?_⟩
    cases b with
    | rsv => trivial
    | mp => rfl
    | arr g e cells => exact ⟨rfl, rfl, rfl, fun i h _ => .dead (hbb i h)⟩
    | loop st pend n env ps asg body => exact ⟨rfl, rfl, rfl, rfl, rfl, rfl, rfl, fun t ht => .dead (hbb t ht)⟩
  none id _ hb := hb
theorem ACall.weakArgs {H : AHeap} {f : FuncId} {args args' : List AVal} {K : ARes → AHeap → Prop} (hG : GOk G) (hl : args'.length = args.length) (hv : ∀ i (h : i < args.length) (h' : i < args'.length), Fz (fun _ => False) H H.next args[i] args'[i])
    (h : ACall P G f args' H K) : ACall P G f args H K := by
  refine ⟨h.1, fun Γ w cargs R hr => ?_⟩
  have F := fzH_id R.clo
  have R0 := F.rel hG R
  have E0 : Evo Γ H w (gamF (fun _ => False) Γ) H w := F.evo
  refine (h.2 _ w cargs R0 ⟨by have := hr.1; omega, fun i h1 h2 => (hv i (by omega) h1).sound R F (hr.2 i (by omega) h2)⟩).mono ?_
  rintro e w' ⟨r, H', Γ', h1, h2, h3, h4, h5⟩
  exact ⟨r, H', Γ', h1, h2, h3, E0.trans (Nat.le_refl _) h4, h5⟩
end Go.Hx
namespace Go.Proofs
open Go.Hx
def smlL (bs : List Int) : List Int := (bs.take 12).map (· % 16)
set_option maxHeartbeats 16000000 in
theorem rounds_spec (raw : List Int) (hrl : (raw.length : Int) < 2 ^ 63) (bs : List Int) (hbl : (bs.length : Int) < 2 ^ 63) (hb8 : ∀ x ∈ bs, 0 ≤ x ∧ x ≤ 255) (grain least : Int) (g k : Int) (hg : 0 ≤ g ∧ g ≤ 255) (hk : 0 ≤ k ∧ k ≤ 255) (H : AHeap) (K : ARes → AHeap → Prop) (hK : ∀ H', H.next ≤ H'.next → K (.ret (.lit (.bool true))) H') :
    ACall Tryd.prog G0 3 [vecI raw, .vec bs.length (bytesL bs), lin grain, lin least, .lit (.int .u8 g), .lit (.int .u8 k)] H K := by
  obtain ⟨n, hn⟩ : ∃ n, n = (smlL bs).length := ⟨_, rfl⟩
  have hn4 : (n : Int) = min (bs.length : Int) 12 := by rw [hn]; unfold smlL; rw [List.length_map, List.length_take]; omega
  have hmn : (if 12 < (bs.length : Int) then 12 else (bs.length : Int)) = n := by split <;> omega
  refine ACall.of_bodyW (n := 104) (rs := [.tmp 12]) Tryd.func3 rfl rfl rfl (by decide) (by simp) ?_
  refine W.seq (vc_sound _ _ _ (by rfl) ?_)
  simp (config := { maxSteps := 1000000 }) only [go_sem, appendA_U]
  refine W.seq (vc_sound _ _ _ (by rfl) ?_)
  simp (config := { maxSteps := 1000000 }) only [go_sem, appendA_U]
  refine W.seq (vc_sound _ _ _ (by rfl) ?_)
  simp (config := { maxSteps := 1000000 }) only [go_sem, builtin_min, hmn, appendA_U]
  refine ⟨bytesL_len bs, by omega, ?_⟩
  refine W.env fun E hE => ?_
  have e0 : E 0 = vecI raw := by rw [hE]; simp (config := { maxSteps := 1000000 }) only [go_sem, appendA_U]
  have e2 : E 2 = lin grain := by rw [hE]; simp (config := { maxSteps := 1000000 }) only [go_sem, appendA_U]
  have e3 : E 3 = lin least := by rw [hE]; simp (config := { maxSteps := 1000000 }) only [go_sem, appendA_U]
  have e4 : E 4 = .lit (.int .u8 g) := by rw [hE]; simp (config := { maxSteps := 1000000 }) only [go_sem, appendA_U]
  have e5 : E 5 = .lit (.int .u8 k) := by rw [hE]; simp (config := { maxSteps := 1000000 }) only [go_sem, appendA_U]
  have e13 : E 13 = .lit (.slice none 0 0) := by rw [hE]; simp (config := { maxSteps := 1000000 }) only [go_sem, appendA_U]
  have e28 : E 28 = .vec n (List.take n (bytesL bs)) := by rw [hE]; simp (config := { maxSteps := 1000000 }) only [go_sem, hmn, appendA_U]
  have e29 : E 29 = lin n := by rw [hE]; simp (config := { maxSteps := 1000000 }) only [go_sem, hmn, appendA_U]
  have e30 : E 30 = lin 0 := by rw [hE]; simp (config := { maxSteps := 1000000 }) only [go_sem, appendA_U]
  clear hE
  have get28 : ∀ i, i < n → ∃ b, (List.take n (bytesL bs))[i]? = some (.lit (.int .u8 b)) ∧ (smlL bs)[i]? = some (b % 16) ∧ 0 ≤ b ∧ b ≤ 255 := fun i hi => by
    obtain ⟨b, hb⟩ := get_of_lt (l := bs) (i := i) (by omega)
    refine ⟨b, by rw [List.getElem?_take_of_lt hi, bytesL_get hb], ?_, hb8 b (List.mem_of_getElem? hb)⟩
    unfold smlL
    rw [List.getElem?_map, List.getElem?_take_of_lt (by omega), hb]
    rfl
  refine W.loop0 2197949554688 (by kernel_rfl) (fun ρ Hx => ∃ (i : Nat), ρ 30 = lin i ∧ i ≤ n ∧ Over H Hx ∧ OwnG H.next Hx 3 (ρ 13) (ints ((smlL bs).take i))) (fun ρ Hx => n - (iv (ρ 30)).toNat) ?_ ?_
  · exact ⟨0, e30, by omega, .refl _, by simp (config := { maxSteps := 1000000 }) only [go_sem, e13, appendA_U]; exact .nil⟩
  rintro ρ Hx ⟨i, h30, hi, ov, hO⟩
  obtain ⟨v, hv⟩ : ∃ v, v = ρ 13 := ⟨_, rfl⟩
  rw [← hv] at hO
  refine W.env fun E1 hE1 => ?_
  have f0 : E1 0 = vecI raw := by rw [hE1]; simp (config := { maxSteps := 1000000 }) only [go_sem, e0, appendA_U]
  have f2 : E1 2 = lin grain := by rw [hE1]; simp (config := { maxSteps := 1000000 }) only [go_sem, e2, appendA_U]
  have f3 : E1 3 = lin least := by rw [hE1]; simp (config := { maxSteps := 1000000 }) only [go_sem, e3, appendA_U]
  have f4 : E1 4 = .lit (.int .u8 g) := by rw [hE1]; simp (config := { maxSteps := 1000000 }) only [go_sem, e4, appendA_U]
  have f5 : E1 5 = .lit (.int .u8 k) := by rw [hE1]; simp (config := { maxSteps := 1000000 }) only [go_sem, e5, appendA_U]
  have f13 : E1 13 = v := by rw [hE1]; simp (config := { maxSteps := 1000000 }) only [go_sem, hv, appendA_U]
  have f28 : E1 28 = .vec n (List.take n (bytesL bs)) := by rw [hE1]; simp (config := { maxSteps := 1000000 }) only [go_sem, e28, appendA_U]
  have f29 : E1 29 = lin n := by rw [hE1]; simp (config := { maxSteps := 1000000 }) only [go_sem, e29, appendA_U]
  have f30 : E1 30 = lin i := by rw [hE1]; simp (config := { maxSteps := 1000000 }) only [go_sem, h30, appendA_U]
  clear hE1
  by_cases hb : (i : Int) < n
  · obtain ⟨b, hbg, hcg, hbr⟩ := get28 i (by omega)
    have hbn := ne_of_get hbg
    have t9 : b.tmod 16 = b % 16 := Int.tmod_eq_emod_of_nonneg hbr.1
    have wb0 : IntKind.u8.wrap (b % 16) = b % 16 := IntWalk.u8_in _ (by omega)
    have wb := IntWalk.i64_in (b % 16) (by omega)
    have wi := IntWalk.i64_in ((i : Int) + 1) (by omega)
    have hon := ov.next
    obtain ⟨v', H2, hA, hO2, hn2, hp2⟩ := app_oneG (P := Tryd.prog) (H := Hx) (t := 22) (x := lin (b % 16)) (n := Hx.next + 1) Tryd.underlying22 Tryd.cells3 Tryd.zero3 rfl (by rw [Tryd.bytes3, ints_length, List.length_take]; omega) hO (by omega) rfl
    simp only [lin] at hA
    have hvc := hO2.cells
    have hvo := hO2.one
    refine vc_sound _ _ _ (by rfl) ?_
    simp (config := { maxSteps := 1000000 }) only [go_sem, f13, f28, f29, f30, hb, hbg, hbn, t9, wb0, wb, wi, hA, hvc, hvo]
    refine ⟨by omega, ⟨i + 1, rfl, by omega, ⟨by omega, fun j h => (hp2 j (by omega) (hO.neF h)).trans (ov.old j h)⟩, ?_⟩, by rw [h30]; simp only [lin, iv_int]; omega⟩
    rw [take_succ_get hcg]
    simpa [ints, lin] using hO2
  have hin : i = n := by omega
  rw [hin, hn, List.take_length] at hO
  refine vc_sound _ _ _ (by rfl) ?_
  simp (config := { maxSteps := 1000000 }) only [go_sem, f29, f30, hb, appendA_U]
  refine W.env fun ρ hρ => ?_
  have p0 : ρ 0 = vecI raw := by rw [hρ]; simp (config := { maxSteps := 1000000 }) only [go_sem, f0, appendA_U]
  have p2 : ρ 2 = lin grain := by rw [hρ]; simp (config := { maxSteps := 1000000 }) only [go_sem, f2, appendA_U]
  have p3 : ρ 3 = lin least := by rw [hρ]; simp (config := { maxSteps := 1000000 }) only [go_sem, f3, appendA_U]
  have p4 : ρ 4 = .lit (.int .u8 g) := by rw [hρ]; simp (config := { maxSteps := 1000000 }) only [go_sem, f4, appendA_U]
  have p5 : ρ 5 = .lit (.int .u8 k) := by rw [hρ]; simp (config := { maxSteps := 1000000 }) only [go_sem, f5, appendA_U]
  have p13 : ρ 13 = v := by rw [hρ]; simp (config := { maxSteps := 1000000 }) only [go_sem, f13, appendA_U]
  rw [← p13] at hO
  clear hρ
  have ovn := ov.next
  refine W.weak (WeakS.cutE G0_ok (s := ⟨ρ, Hx⟩) (n := H.next) (t0 := 13) (v' := vecI (smlL bs)) (hO.fzI fun i h => h)) (Nat.le_refl _) trivial ?_
  obtain ⟨H2, hH2⟩ : ∃ H2, H2 = Hx.cut H.next := ⟨_, rfl⟩
  have n2 : H.next ≤ H2.next := by rw [hH2]; exact ovn
  show W _ _ _ _ _ _ ⟨fun t => if t = 13 then vecI (smlL bs) else ρ t, Hx.cut H.next⟩
  rw [← hH2]
  clear hH2
  obtain ⟨m, hm⟩ : ∃ m : Nat, m = min raw.length 1100 := ⟨_, rfl⟩
  have hmm : (if 1100 < (raw.length : Int) then 1100 else (raw.length : Int)) = m := by split <;> omega
  have mle : (m : Int) ≤ raw.length := by omega
  refine W.env fun E2 hE2 => ?_
  have a0 : E2 0 = vecI raw := by rw [hE2]; exact p0
  have a2 : E2 2 = lin grain := by rw [hE2]; exact p2
  have a3 : E2 3 = lin least := by rw [hE2]; exact p3
  have a4 : E2 4 = .lit (.int .u8 g) := by rw [hE2]; exact p4
  have a5 : E2 5 = .lit (.int .u8 k) := by rw [hE2]; exact p5
  have a13 : E2 13 = vecI (smlL bs) := by rw [hE2]; exact if_pos rfl
  clear hE2
  obtain ⟨L2, hL2⟩ : ∃ L2, L2 = [vecI (raw.take m), vecI (smlL bs)] := ⟨_, rfl⟩
  have l2 : L2.length = 2 := by rw [hL2]; rfl
  have tk : AVal.vec m ((ints raw).take m) = vecI (raw.take m) := by unfold vecI; rw [List.length_take, show min m raw.length = m by omega]; unfold ints; rw [List.map_take]
  refine W.seq (vc_sound _ _ _ (by rfl) ?_)
  simp (config := { maxSteps := 1000000 }) only [go_sem, a0, a13, builtin_min, hmm, mle, vecI, appendA_U]
  refine W.env fun E3 hE3 => ?_
  have q2 : E3 2 = lin grain := by rw [hE3]; simp (config := { maxSteps := 1000000 }) only [go_sem, a2, appendA_U]
  have q3 : E3 3 = lin least := by rw [hE3]; simp (config := { maxSteps := 1000000 }) only [go_sem, a3, appendA_U]
  have q4 : E3 4 = .lit (.int .u8 g) := by rw [hE3]; simp (config := { maxSteps := 1000000 }) only [go_sem, a4, appendA_U]
  have q5 : E3 5 = .lit (.int .u8 k) := by rw [hE3]; simp (config := { maxSteps := 1000000 }) only [go_sem, a5, appendA_U]
  have q47 : E3 47 = .agg L2 := by rw [hE3, hL2, ← tk]; simp (config := { maxSteps := 1000000 }) only [go_sem, vecI, appendA_U]
  have q48 : E3 48 = lin 0 := by rw [hE3]; simp (config := { maxSteps := 1000000 }) only [go_sem, appendA_U]
  clear hE3
  have sln : (smlL bs).length ≤ 12 := by rw [← hn]; omega
  refine W.loop0 10141204801825834930498665320448 (by kernel_rfl) (fun ρ Hx => Over H2 Hx ∧ ∃ i : Nat, ρ 48 = lin i ∧ i ≤ 2) (fun ρ H => 2 - (iv (ρ 48)).toNat) ?_ ?_
  · exact ⟨.refl _, 0, q48, by omega⟩
  rintro ρ1 Hx ⟨ov1, i, h48, hi2⟩
  have ovn1 := ov1.next
  refine W.env fun E4 hE4 => ?_
  have d2 : E4 2 = lin grain := by rw [hE4]; simp (config := { maxSteps := 1000000 }) only [go_sem, q2, appendA_U]
  have d3 : E4 3 = lin least := by rw [hE4]; simp (config := { maxSteps := 1000000 }) only [go_sem, q3, appendA_U]
  have d4 : E4 4 = .lit (.int .u8 g) := by rw [hE4]; simp (config := { maxSteps := 1000000 }) only [go_sem, q4, appendA_U]
  have d5 : E4 5 = .lit (.int .u8 k) := by rw [hE4]; simp (config := { maxSteps := 1000000 }) only [go_sem, q5, appendA_U]
  have d47 : E4 47 = .agg L2 := by rw [hE4]; simp (config := { maxSteps := 1000000 }) only [go_sem, q47, appendA_U]
  have d48 : E4 48 = lin i := by rw [hE4]; simp (config := { maxSteps := 1000000 }) only [go_sem, h48, appendA_U]
  clear hE4
  by_cases hb : (i : Int) < 2
  rotate_left
  · refine vc_sound _ _ _ (by rfl) ?_
    simp (config := { maxSteps := 1000000 }) only [go_sem, d48, hb, appendA_U]
    refine vc_sound _ _ _ (by rfl) ?_
    simp (config := { maxSteps := 1000000 }) only [go_sem, appendA_U]
    refine AApply.clo (works_ok _ _ ⟨trivial, ?_⟩)
    simp (config := { maxSteps := 1000000 }) only [go_sem, appendA_U]
    exact FinV.mk (by omega) (hK _ (by omega))
  obtain ⟨c, hc, hcl⟩ : ∃ c : List Int, L2[i]? = some (vecI c) ∧ (c.length : Int) < 2 ^ 40 := by
    have hi3 : i = 0 ∨ i = 1 := by omega
    rcases hi3 with rfl | rfl
    · exact ⟨raw.take m, by rw [hL2]; rfl, by rw [List.length_take]; omega⟩
    · exact ⟨smlL bs, by rw [hL2]; rfl, by omega⟩
  have wi1 := IntWalk.i64_in ((i : Int) + 1) (by omega)
  have x0 := IntWalk.i64_in g (by omega)
  have x1 : g.tmod 60 = g % 60 := Int.tmod_eq_emod_of_nonneg hg.1
  have x2 := IntWalk.i64_in (g % 60) (by omega)
  have x3 := IntWalk.i64_in (1 + g % 60) (by omega)
  have y1 : k.tmod 4 = k % 4 := Int.tmod_eq_emod_of_nonneg hk.1
  have y2 : IntKind.u8.wrap (k % 4) = k % 4 := IntWalk.u8_in _ (by omega)
  have y3 := IntWalk.i64_in (k % 4) (by omega)
  have i2b : (i : Int) < 2 := hb
  refine W.seq (vc_sound _ _ _ (by rfl) ?_)
  simp (config := { maxSteps := 1000000 }) only [go_sem, d48, hb, appendA_U]
  refine W.seq (vc_sound _ _ _ (by rfl) ?_)
  simp (config := { maxSteps := 1000000 }) only [go_sem, appendA_U]
  refine W.seq (W.block ?_)
  refine W.seq (vc_sound _ _ _ (by rfl) ?_)
  simp (config := { maxSteps := 1000000 }) only [go_sem, d47, d48, hc, l2, hb, appendA_U]
  refine W.seq (vc_sound _ _ _ (by rfl) ?_)
  simp (config := { maxSteps := 1000000 }) only [go_sem, d2, d3, d4, d5, x0, x1, x2, x3, y1, y2, y3, appendA_U]
  obtain ⟨L6, hL6⟩ : ∃ L6, L6 = [lin grain, lin least, lin (1 + g % 60), lin (k % 4), lin grain, lin (k % 4)] := ⟨_, rfl⟩
  have l6 : L6.length = 6 := by rw [hL6]; rfl
  refine W.env fun E5 hE5 => ?_
  have k17 : E5 17 = vecI c := by rw [hE5]; simp (config := { maxSteps := 1000000 }) only [go_sem, vecI, appendA_U]
  have k48 : E5 48 = lin i := by rw [hE5]; simp (config := { maxSteps := 1000000 }) only [go_sem, d48, appendA_U]
  have k67 : E5 67 = .agg L6 := by rw [hE5, hL6]; simp (config := { maxSteps := 1000000 }) only [go_sem, appendA_U]
  have k68 : E5 68 = lin 0 := by rw [hE5]; simp (config := { maxSteps := 1000000 }) only [go_sem, appendA_U]
  clear hE5
  refine W.block ?_
  refine W.loop0 5070602400617769700807476252672 (by kernel_rfl) (fun ρ Hy => Over Hx Hy ∧ ∃ j : Nat, ρ 68 = lin j ∧ j ≤ 3) (fun ρ H => 3 - (iv (ρ 68)).toNat) ?_ ?_
  · exact ⟨.refl _, 0, k68, by omega⟩
  rintro ρ2 Hy ⟨ov2, j, h68, hj3⟩
  have ovn2 := ov2.next
  refine W.env fun E6 hE6 => ?_
  have r17 : E6 17 = vecI c := by rw [hE6]; simp (config := { maxSteps := 1000000 }) only [go_sem, k17, appendA_U]
  have r48 : E6 48 = lin i := by rw [hE6]; simp (config := { maxSteps := 1000000 }) only [go_sem, k48, appendA_U]
  have r67 : E6 67 = .agg L6 := by rw [hE6]; simp (config := { maxSteps := 1000000 }) only [go_sem, k67, appendA_U]
  have r68 : E6 68 = lin j := by rw [hE6]; simp (config := { maxSteps := 1000000 }) only [go_sem, h68, appendA_U]
  clear hE6
  by_cases hb2 : (j : Int) < 3
  rotate_left
  · refine vc_sound _ _ _ (by rfl) ?_
    simp (config := { maxSteps := 1000000 }) only [go_sem, r68, hb2, appendA_U]
    refine vc_sound _ _ _ (by rfl) ?_
    simp (config := { maxSteps := 1000000 }) only [go_sem, r48, wi1, appendA_U]
    exact ⟨by omega, ⟨ov1.trans ov2, i + 1, rfl, by omega⟩, by rw [h48]; simp only [lin, iv_int]; omega⟩
  obtain ⟨qa, qb, hpart⟩ : ∃ qa qb : Int, (L6.drop (j * 2)).take 2 = [lin qa, lin qb] := by
    have hj2 : j = 0 ∨ j = 1 ∨ j = 2 := by omega
    rcases hj2 with rfl | rfl | rfl
    · exact ⟨_, _, by rw [hL6]; rfl⟩
    · exact ⟨_, _, by rw [hL6]; rfl⟩
    · exact ⟨_, _, by rw [hL6]; rfl⟩
  have jb : j * 2 + 2 ≤ 6 := by omega
  have wj1 := IntWalk.i64_in ((j : Int) + 1) (by omega)
  refine W.seq (vc_sound _ _ _ (by rfl) ?_)
  simp (config := { maxSteps := 1000000 }) only [go_sem, r68, hb2, appendA_U]
  refine W.seq (vc_sound _ _ _ (by rfl) ?_)
  simp (config := { maxSteps := 1000000 }) only [go_sem, appendA_U]
  refine W.seq (W.block ?_)
  refine W.seq (vc_sound _ _ _ (by rfl) ?_)
  simp (config := { maxSteps := 1000000 }) only [go_sem, r67, r68, hpart, l6, jb, appendA_U]
  refine ⟨by omega, ?_⟩
  obtain ⟨H3, hH3⟩ : ∃ H3, H3 = ext Hy [.arr 0 25 [.lit (.int .i64 qa), .lit (.int .i64 qb)]] := ⟨_, rfl⟩
  have n3 : H3.next = Hy.next + 1 := by rw [hH3]; rfl
  have o3 : Over Hy H3 := by rw [hH3]; exact .ext _ _
  have l3 := get_live (show H3.get Hy.next = some (.arr 0 25 [.lit (.int .i64 qa), .lit (.int .i64 qb)]) by rw [hH3]; exact ext1_get_new)
  refine W.env fun E7 hE7 => ?_
  have u17 : E7 17 = vecI c := by rw [hE7]; simp (config := { maxSteps := 1000000 }) only [go_sem, r17, appendA_U]
  have u19 : E7 19 = .ptr Hy.next 0 0 := by rw [hE7]; simp (config := { maxSteps := 1000000 }) only [go_sem, appendA_U]
  have u68 : E7 68 = lin j := by rw [hE7]; simp (config := { maxSteps := 1000000 }) only [go_sem, r68, appendA_U]
  clear hE7
  show W _ _ _ _ _ _ ⟨E7, ext Hy [.arr 0 25 [.lit (.int .i64 qa), .lit (.int .i64 qb)]]⟩
  rw [← hH3]
  clear hH3
  have fin : H2.next ≤ H3.next ∧ Over Hx H3 := ⟨by omega, ov2.trans o3⟩
  cases hr : roundB c qa qb with
  | true =>
    have hrv : roundV c qa qb = .tup [vecI (shareF qb (spareOf qa qb c) c), lin 0] := by unfold roundV; rw [hr, if_pos rfl]
    have hok := roundB_iff.1 hr
    obtain ⟨S, hS⟩ : ∃ S, S = shareF qb (spareOf qa qb c) c := ⟨_, rfl⟩
    have hSl : (S.length : Int) < 2 ^ 62 := by
      obtain ⟨s, hs⟩ := share_ex qb (spareOf qa qb c) (c := c) (by have := hok.1; omega)
      rw [hS, ← shareF_eq hs]
      obtain ⟨M, _, rfl⟩ := hs
      rw [shares_len]
      omega
    rw [← hS] at hrv
    refine W.seq (vc_sound _ _ _ (by rfl) ?_)
    simp (config := { maxSteps := 1000000 }) only [go_sem, u17, u19, l3, appendA_U]
    refine AApply.clo (round_spec (by omega) H3 _ ⟨trivial, ?_⟩)
    rw [hrv]
    simp (config := { maxSteps := 1000000 }) only [go_sem, appendA_U]
    refine W.seq (vc_sound _ _ _ (by rfl) ?_)
    simp (config := { maxSteps := 1000000 }) only [go_sem, appendA_U]
    refine W.seq (vc_sound _ _ _ (by rfl) ?_)
    simp (config := { maxSteps := 1000000 }) only [go_sem, appendA_U]
    refine W.seq (vc_sound _ _ _ (by rfl) ?_)
    simp (config := { maxSteps := 1000000 }) only [go_sem, u17, u19, l3, appendA_U]
    refine AApply.clo (fair26_spec hcl H3 _ ⟨trivial, ?_⟩)
    rw [hr]
    simp (config := { maxSteps := 1000000 }) only [go_sem, u17, u19, l3, appendA_U]
    refine AApply.clo (round26F hok H3 _ ⟨trivial, ?_⟩)
    rw [← hS]
    simp (config := { maxSteps := 1000000 }) only [go_sem, appendA_U]
    refine vc_sound _ _ _ (by rfl) ?_
    simp (config := { maxSteps := 1000000 }) only [go_sem, guardA_undef, appendA_U]
    refine AApply.clo (eq_spec S S hSl H3 _ ⟨trivial, ?_⟩)
    rw [decide_eq_true rfl]
    simp (config := { maxSteps := 1000000 }) only [go_sem, u68, wj1, appendA_U]
    refine vc_sound _ _ _ (by rfl) ?_
    simp (config := { maxSteps := 1000000 }) only [go_sem, u68, wj1, appendA_U]
    exact ⟨by omega, ⟨fin.2, j + 1, rfl, by omega⟩, by rw [h68]; simp only [lin, iv_int]; omega⟩
  | false =>
    have hrv : roundV c qa qb = .tup [vecI [], lin 2] := by unfold roundV; rw [hr, if_neg (by decide)]
    refine W.seq (vc_sound _ _ _ (by rfl) ?_)
    simp (config := { maxSteps := 1000000 }) only [go_sem, u17, u19, l3, appendA_U]
    refine AApply.clo (round_spec (by omega) H3 _ ⟨trivial, ?_⟩)
    rw [hrv]
    simp (config := { maxSteps := 1000000 }) only [go_sem, appendA_U]
    refine W.seq (vc_sound _ _ _ (by rfl) ?_)
    simp (config := { maxSteps := 1000000 }) only [go_sem, appendA_U]
    refine W.seq (vc_sound _ _ _ (by rfl) ?_)
    simp (config := { maxSteps := 1000000 }) only [go_sem, appendA_U]
    refine W.seq (vc_sound _ _ _ (by rfl) ?_)
    simp (config := { maxSteps := 1000000 }) only [go_sem, u17, u19, l3, appendA_U]
    refine AApply.clo (fair26_spec hcl H3 _ ⟨trivial, ?_⟩)
    rw [hr]
    simp (config := { maxSteps := 1000000 }) only [go_sem, appendA_U]
    refine vc_sound _ _ _ (by rfl) ?_
    simp (config := { maxSteps := 1000000 }) only [go_sem, guardA_undef, appendA_U]
    refine AApply.clo (ACall.weakArgs (args' := [vecI [], vecI []]) G0_ok rfl (fun i hi _ => ?_) (eq_spec [] [] (by decide) H3 _ ⟨trivial, ?_⟩))
    · match i, hi with
      | 0, _ => exact .keepInts []
      | 1, _ => exact .nil
    rw [decide_eq_true rfl]
    simp (config := { maxSteps := 1000000 }) only [go_sem, u68, wj1, appendA_U]
    refine vc_sound _ _ _ (by rfl) ?_
    simp (config := { maxSteps := 1000000 }) only [go_sem, u68, wj1, appendA_U]
    exact ⟨by omega, ⟨fin.2, j + 1, rfl, by omega⟩, by rw [h68]; simp only [lin, iv_int]; omega⟩
end Go.Proofs
namespace Go.Proofs
theorem len63 {α : Type} {l : List α} (h : l.length ≤ maxLen) : (l.length : Int) < 2 ^ 63 := by
  have : maxLen < 2 ^ 63 := by decide
  omega
end Go.Proofs
