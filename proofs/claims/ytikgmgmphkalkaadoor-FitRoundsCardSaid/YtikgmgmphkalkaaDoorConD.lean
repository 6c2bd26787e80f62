/- Own work: contracts. -/
import Derived.Test.YtikgmgmphkalkaaDoorConC
set_option linter.all false
set_option maxRecDepth 100000
namespace Go.Proofs
open Go.Hx
theorem SrtR.snoc {f : Nat → Nat} {q : List Nat} {a i : Nat} (h : SrtR f q a i) (ha : a < i) (hi : ¬ f (q.getD i 0) < f (q.getD (i - 1) 0)) : SrtR f q a (i + 1) := fun x y h1 h2 h3 => by
  by_cases hy : y = i
  · subst hy
    by_cases hx : x = y - 1
    · rw [hx]; omega
    · have := h x (y - 1) h1 (by omega) (by omega); omega
  · exact h x y h1 h2 (by omega)
theorem SrtR.keep {f : Nat → Nat} {q p : List Nat} {a i b : Nat} (h : SrtR f q a i) (hp : PermR i b q p) : SrtR f p a i := fun x y h1 h2 h3 => by
  rw [hp.2 x (by omega), hp.2 y (by omega)]
  exact h x y h1 h2 h3
section
variable {cv : AVal} {f : Nat → Nat} {rid : Nat} {rb : Blk} {id g n a b : Nat} {l : List Nat} {H : AHeap}
set_option maxHeartbeats 16000000 in
theorem partIns_spec (S : SH cv f rid rb id g n l H) (hab : a < b) (hb : b ≤ n) (hB : Bl f l a b) (K : ARes → AHeap → Prop) (hK : ∀ q fl, PermR a b l q → (fl = true → SrtR f q a b) → K (.ret (.lit (.bool fl))) (H.upd id (nB g q))) :
    ACall Tryd.prog G0 101 [.own id g 0 n 1, lin a, lin b, cv] H K := by
  have hn := S.hn
  have w0 : IntKind.i64.wrap ((a : Int) + 1) = ((a + 1 : Nat) : Int) := by rw [IntWalk.i64_in _ (by omega)]; omega
  refine ACall.of_bodyW (n := 141) (rs := [.tmp 8]) Tryd.func101 rfl rfl rfl (by decide) (by simp) ?_
  refine W.seq (vc_sound _ _ _ (by rfl) ?_)
  simp (config := { maxSteps := 1000000 }) only [go_sem, appendA_U]
  refine W.seq (vc_sound _ _ _ (by rfl) ?_)
  simp (config := { maxSteps := 1000000 }) only [go_sem, w0, appendA_U]
  refine W.seq (vc_sound _ _ _ (by rfl) ?_)
  simp (config := { maxSteps := 1000000 }) only [go_sem, appendA_U]
  refine W.env fun E hE => ?_
  have e0 : E 0 = .own id g 0 n 1 := by rw [hE]; simp (config := { maxSteps := 1000000 }) only [go_sem, appendA_U]
  have e1 : E 1 = lin a := by rw [hE]; simp (config := { maxSteps := 1000000 }) only [go_sem, appendA_U]
  have e2 : E 2 = lin b := by rw [hE]; simp (config := { maxSteps := 1000000 }) only [go_sem, appendA_U]
  have e3 : E 3 = cv := by rw [hE]; simp (config := { maxSteps := 1000000 }) only [go_sem, appendA_U]
  have e9 : E 9 = lin ((a + 1 : Nat) : Int) := by rw [hE]; simp (config := { maxSteps := 1000000 }) only [go_sem, w0, appendA_U]
  have e10 : E 10 = lin 0 := by rw [hE]; simp (config := { maxSteps := 1000000 }) only [go_sem, appendA_U]
  clear hE
  refine W.loop0 2787593149816327892691964784081045188222720 (by kernel_rfl) (fun ρ Hx => ∃ (c i : Nat) (q : List Nat), ρ 9 = lin i ∧ ρ 10 = lin c ∧ c ≤ 5 ∧ a < i ∧ i ≤ b ∧ PermR a b l q ∧ SrtR f q a i ∧ Hx = H.upd id (nB g q)) (fun ρ Hx => 5 - (iv (ρ 10)).toNat) ?_ ?_
  · exact ⟨0, a + 1, l, e9, e10, by omega, by omega, by omega, .refl _ _ _, fun x y h1 h2 h3 => by omega, S.self.symm⟩
  rintro ρ Hx ⟨c, i, q, h9, h10, hc5, hai, hib, hp, hS, hHx⟩
  refine W.env fun F hF => ?_
  have d0 : F 0 = .own id g 0 n 1 := by rw [hF]; simp (config := { maxSteps := 1000000 }) only [go_sem, e0, appendA_U]
  have d1 : F 1 = lin a := by rw [hF]; simp (config := { maxSteps := 1000000 }) only [go_sem, e1, appendA_U]
  have d2 : F 2 = lin b := by rw [hF]; simp (config := { maxSteps := 1000000 }) only [go_sem, e2, appendA_U]
  have d3 : F 3 = cv := by rw [hF]; simp (config := { maxSteps := 1000000 }) only [go_sem, e3, appendA_U]
  have d9 : F 9 = lin i := by rw [hF]; simp (config := { maxSteps := 1000000 }) only [go_sem, h9, appendA_U]
  have d10 : F 10 = lin c := by rw [hF]; simp (config := { maxSteps := 1000000 }) only [go_sem, h10, appendA_U]
  clear hF
  by_cases hc : (c : Int) < 5
  rotate_left
  · refine vc_sound _ _ _ (by rfl) ?_
    simp (config := { maxSteps := 1000000 }) only [go_sem, d10, hc, appendA_U]
    rw [hHx]
    refine vc_sound _ _ _ (by rfl) ?_
    simp (config := { maxSteps := 1000000 }) only [go_sem, appendA_U]
    exact FinV.mk (Nat.le_refl _) (hK q false hp fun h => by cases h)
  have T := S.upd hp.1
  rw [← hHx] at T
  have wc := IntWalk.i64_in ((c : Int) + 1) (by omega)
  refine W.seq (vc_sound _ _ _ (by rfl) ?_)
  simp (config := { maxSteps := 1000000 }) only [go_sem, d10, hc, appendA_U]
  refine W.seq (W.block ?_)
  refine W.midN (fun s' => s'.H = Hx ∧ s'.ρ 0 = .own id g 0 n 1 ∧ s'.ρ 1 = lin a ∧ s'.ρ 2 = lin b ∧ s'.ρ 3 = cv ∧ s'.ρ 10 = lin c ∧ ∃ u : Nat, s'.ρ 9 = lin u ∧ a < u ∧ u ≤ b ∧ SrtR f q a u ∧ (u < b → f (q.getD u 0) < f (q.getD (u - 1) 0))) ?_ ?_
  · refine W.block ?_
    refine W.loop0 549755290112 (by kernel_rfl) (fun ρ Hk => Hk = Hx ∧ ∃ u : Nat, ρ 9 = lin u ∧ a < u ∧ u ≤ b ∧ SrtR f q a u) (fun ρ _ => b - (iv (ρ 9)).toNat) ?_ ?_
    · exact ⟨rfl, i, by simp (config := { maxSteps := 1000000 }) only [go_sem, d9, appendA_U], hai, hib, hS⟩
    rintro ρk Hk ⟨hHk, u, hu, u1, u2, u3⟩
    rw [hHk]
    refine W.env fun J hJ => ?_
    have m0 : J 0 = .own id g 0 n 1 := by rw [hJ]; simp (config := { maxSteps := 1000000 }) only [go_sem, d0, appendA_U]
    have m1 : J 1 = lin a := by rw [hJ]; simp (config := { maxSteps := 1000000 }) only [go_sem, d1, appendA_U]
    have m2 : J 2 = lin b := by rw [hJ]; simp (config := { maxSteps := 1000000 }) only [go_sem, d2, appendA_U]
    have m3 : J 3 = cv := by rw [hJ]; simp (config := { maxSteps := 1000000 }) only [go_sem, d3, appendA_U]
    have m9 : J 9 = lin u := by rw [hJ]; simp (config := { maxSteps := 1000000 }) only [go_sem, hu, appendA_U]
    have m10 : J 10 = lin c := by rw [hJ]; simp (config := { maxSteps := 1000000 }) only [go_sem, d10, appendA_U]
    clear hJ
    refine W.seq (W.midN (fun s' => s'.H = Hx ∧ s'.ρ 0 = .own id g 0 n 1 ∧ s'.ρ 1 = lin a ∧ s'.ρ 2 = lin b ∧ s'.ρ 3 = cv ∧ s'.ρ 9 = lin u ∧ s'.ρ 10 = lin c ∧ s'.ρ 36 = .lit (.bool (decide (u < b) && !decide (f (q.getD u 0) < f (q.getD (u - 1) 0))))) ?_ ?_)
    · refine W.draw 14 [0, 0, 3, 7, 15, 15, 15, 111, 239, 15, 15, 1039, 3599, 7695] Tryd.mixed (by kernel_rfl) (by kernel_rfl) ?_
      by_cases hub : (u : Int) < b
      · have b1 : (u : Int) < n := by omega
        have b2 : ((u - 1 : Nat) : Int) < n := by omega
        have wj : IntKind.i64.wrap ((u : Int) - 1) = ((u - 1 : Nat) : Int) := by rw [IntWalk.i64_in _ (by omega)]; omega
        simp (config := { maxSteps := 1000000 }) only [go_sem, m0, m1, m2, m3, m9, m10, T.live, T.len, hub, wj, T.cell (show u < n by omega), T.cell (show u - 1 < n by omega), b1, b2, guardA_undef, appendA_U]
        obtain ⟨z, hz, hcc⟩ := T.ask (show u < n by omega) (show u - 1 < n by omega)
        refine hcc _ ⟨trivial, ?_⟩
        have hd1 : decide (u < b) = true := decide_eq_true (by omega)
        rw [hd1]
        by_cases hlt : f (q.getD u 0) < f (q.getD (u - 1) 0)
        · have hlt' := hz.2 hlt
          simp (config := { maxSteps := 1000000 }) only [go_sem, m0, m1, m2, m3, m9, m10, hlt', hlt, appendA_U]
          try rfl
        · have hlt' : ¬ z < 0 := fun h => hlt (hz.1 h)
          simp (config := { maxSteps := 1000000 }) only [go_sem, m0, m1, m2, m3, m9, m10, hlt', hlt, appendA_U]
          try rfl
      · simp (config := { maxSteps := 1000000 }) only [go_sem, m0, m1, m2, m3, m9, m10, hub, guardA_undef, appendA_U]
        have hj0 : decide (u < b) = false := decide_eq_false (by omega)
        rw [hj0]
        rfl
    rintro ⟨ρ3, Hs⟩ ⟨hHs, v0, v1, v2, v3, v9, v10, vc⟩
    simp only at hHs v0 v1 v2 v3 v9 v10 vc
    rw [hHs]
    clear hHs Hs
    cases hfl : (decide (u < b) && !decide (f (q.getD u 0) < f (q.getD (u - 1) 0))) with
    | false =>
      rw [hfl] at vc
      refine W.cond (t := false) vc ?_
      refine vc_sound _ _ _ (by rfl) ?_
      simp (config := { maxSteps := 1000000 }) only [go_sem, appendA_U]
      refine ⟨v0, v1, v2, v3, v10, u, v9, u1, u2, u3, fun h => ?_⟩
      rw [decide_eq_true h, Bool.true_and, Bool.not_eq_false', decide_eq_true_iff] at hfl
      exact hfl
    | true =>
      rw [hfl] at vc
      refine W.cond (t := true) vc ?_
      have hfl2 : u < b ∧ ¬ f (q.getD u 0) < f (q.getD (u - 1) 0) := by simpa using hfl
      have wx := IntWalk.i64_in ((u : Int) + 1) (by omega)
      refine vc_sound _ _ _ (by rfl) ?_
      simp (config := { maxSteps := 1000000 }) only [go_sem, appendA_U]
      refine vc_sound _ _ _ (by rfl) ?_
      simp (config := { maxSteps := 1000000 }) only [go_sem, v9, wx, appendA_U]
      exact ⟨⟨u + 1, rfl, by omega, by omega, u3.snoc u1 hfl2.2⟩, by rw [hu]; simp only [lin, iv_int]; omega⟩
  rintro ⟨ρa, Ha⟩ ⟨hHa, a0, a1, a2, a3, a10, u, a9, u1, u2, u3, u4⟩
  simp only at hHa a0 a1 a2 a3 a10 a9
  rw [hHa]
  clear hHa Ha hS
  by_cases hub : (u : Int) = b
  · refine W.seq (vc_sound _ _ _ (by rfl) ?_)
    simp (config := { maxSteps := 1000000 }) only [go_sem, a9, a2, hub, appendA_U]
    rw [hHx]
    exact FinV.mk (Nat.le_refl _) (hK q true hp fun _ => by rw [show b = u by omega]; exact u3)
  have wba := IntWalk.i64_in ((b : Int) - (a : Int)) (by omega)
  by_cases h50 : (b : Int) - a < 50
  · refine W.seq (vc_sound _ _ _ (by rfl) ?_)
    simp (config := { maxSteps := 1000000 }) only [go_sem, a9, a2, hub, appendA_U]
    refine W.seq (vc_sound _ _ _ (by rfl) ?_)
    simp (config := { maxSteps := 1000000 }) only [go_sem, a1, a2, wba, h50, appendA_U]
    rw [hHx]
    exact FinV.mk (Nat.le_refl _) (hK q false hp fun h => by cases h)
  have hlt0 := u4 (by omega)
  have wu : IntKind.i64.wrap ((u : Int) - 1) = ((u - 1 : Nat) : Int) := by rw [IntWalk.i64_in _ (by omega)]; omega
  have bu : (u : Int) < n := by omega
  have bu1 : ((u - 1 : Nat) : Int) < n := by omega
  have pl := hp.len
  rw [S.hl] at pl
  refine W.seq (vc_sound _ _ _ (by rfl) ?_)
  simp (config := { maxSteps := 1000000 }) only [go_sem, a9, a2, hub, appendA_U]
  refine W.seq (vc_sound _ _ _ (by rfl) ?_)
  simp (config := { maxSteps := 1000000 }) only [go_sem, a1, a2, wba, h50, appendA_U]
  refine W.seq ?_
  refine W.draw 16 [0, 0, 0, 0, 8, 0, 0, 64, 224, 480, 0, 0, 3072, 7168, 16355, 32739] Tryd.mixed (by kernel_rfl) (by kernel_rfl) ?_
  simp (config := { maxSteps := 1000000 }) only [go_sem, a0, a9, T.live, T.len, wu, T.cell (show u < n by omega), T.cell (show u - 1 < n by omega), bu, bu1, T.s1 (show u < n by omega), T.s2 (i := u) (show u - 1 < n by omega), T.len1, T.live1, appendA_U]
  refine ⟨by omega, by omega, ?_⟩
  rw [T.u2, hHx, nB_upd]
  obtain ⟨q1, hq1⟩ : ∃ q1, q1 = swapL q u (u - 1) := ⟨_, rfl⟩
  have pq1 : PermR (u - 1) (u + 1) q q1 := by rw [hq1]; exact .swap (by omega) (by omega) (Nat.le_refl _) (by omega) (by omega)
  rw [← hq1]
  have hp1 : PermR a b l q1 := hp.trans (pq1.mono (by omega) (by omega))
  have hS1 : SrtR f q1 a (u - 1) := (show SrtR f q a (u - 1) from fun x y h1 h2 h3 => u3 x y h1 h2 (by omega)).keep pq1
  clear hq1 pq1
  refine W.env fun M hM => ?_
  have r0 : M 0 = .own id g 0 n 1 := by rw [hM]; simp (config := { maxSteps := 1000000 }) only [go_sem, a0, appendA_U]
  have r1 : M 1 = lin a := by rw [hM]; simp (config := { maxSteps := 1000000 }) only [go_sem, a1, appendA_U]
  have r2 : M 2 = lin b := by rw [hM]; simp (config := { maxSteps := 1000000 }) only [go_sem, a2, appendA_U]
  have r3 : M 3 = cv := by rw [hM]; simp (config := { maxSteps := 1000000 }) only [go_sem, a3, appendA_U]
  have r9 : M 9 = lin u := by rw [hM]; simp (config := { maxSteps := 1000000 }) only [go_sem, a9, appendA_U]
  have r10 : M 10 = lin c := by rw [hM]; simp (config := { maxSteps := 1000000 }) only [go_sem, a10, appendA_U]
  clear hM
  have wua := IntWalk.i64_in ((u : Int) - (a : Int)) (by omega)
  refine W.seq ?_
  refine W.midN (fun s' => s'.H = H.upd id (nB g q1) ∧ s'.ρ 0 = .own id g 0 n 1 ∧ s'.ρ 1 = lin a ∧ s'.ρ 2 = lin b ∧ s'.ρ 3 = cv ∧ s'.ρ 9 = lin u ∧ s'.ρ 10 = lin c ∧ s'.ρ 65 = .lit (.bool (decide ((2 : Int) ≤ (u : Int) - a)))) ?_ ?_
  · refine vc_sound _ _ _ (by rfl) ?_
    simp (config := { maxSteps := 1000000 }) only [go_sem, r0, r1, r2, r3, r9, r10, wua, appendA_U]
  rintro ⟨ρb, Hb⟩ ⟨hHb, c0, c1, c2, c3, c9, c10, c65⟩
  simp only at hHb c0 c1 c2 c3 c9 c10 c65
  rw [hHb]
  clear hHb Hb
  have T1 := S.upd hp1.1
  refine W.mono (Q := fun ax s' => ax = .normal ∧ s'.ρ 0 = .own id g 0 n 1 ∧ s'.ρ 1 = lin a ∧ s'.ρ 2 = lin b ∧ s'.ρ 3 = cv ∧ s'.ρ 9 = lin u ∧ s'.ρ 10 = lin c ∧ ∃ p, PermR a b l p ∧ SrtR f p a u ∧ s'.H = H.upd id (nB g p)) ?_ ?_
  · by_cases h2 : (2 : Int) ≤ (u : Int) - a
    rotate_left
    · refine W.cond (t := false) (by rw [show evA G0 ρb (.tmp 65) = ρb 65 from rfl, c65, decide_eq_false h2]) ?_
      refine vc_sound _ _ _ (by rfl) ?_
      simp (config := { maxSteps := 1000000 }) only [go_sem, appendA_U]
      exact ⟨c0, c1, c2, c3, c9, c10, q1, hp1, fun x y x1 x2 x3 => by omega, rfl⟩
    refine W.cond (t := true) (by rw [show evA G0 ρb (.tmp 65) = ρb 65 from rfl, c65, decide_eq_true h2]) ?_
    refine W.seq (vc_sound _ _ _ (by rfl) ?_)
    simp (config := { maxSteps := 1000000 }) only [go_sem, c9, wu, appendA_U]
    refine W.env fun E4 hE4 => ?_
    have k0 : E4 0 = .own id g 0 n 1 := by rw [hE4]; simp (config := { maxSteps := 1000000 }) only [go_sem, c0, appendA_U]
    have k1 : E4 1 = lin a := by rw [hE4]; simp (config := { maxSteps := 1000000 }) only [go_sem, c1, appendA_U]
    have k2 : E4 2 = lin b := by rw [hE4]; simp (config := { maxSteps := 1000000 }) only [go_sem, c2, appendA_U]
    have k3 : E4 3 = cv := by rw [hE4]; simp (config := { maxSteps := 1000000 }) only [go_sem, c3, appendA_U]
    have k9 : E4 9 = lin u := by rw [hE4]; simp (config := { maxSteps := 1000000 }) only [go_sem, c9, appendA_U]
    have k10 : E4 10 = lin c := by rw [hE4]; simp (config := { maxSteps := 1000000 }) only [go_sem, c10, appendA_U]
    have k11 : E4 11 = lin ((u - 1 : Nat) : Int) := by rw [hE4]; simp (config := { maxSteps := 1000000 }) only [go_sem, c9, wu, appendA_U]
    clear hE4
    refine W.block ?_
    refine W.loop0 2535301200161310897814053586944 (by kernel_rfl) (fun ρ Hz => ∃ (j : Nat) (p : List Nat), ρ 11 = lin j ∧ a ≤ j ∧ j ≤ u - 1 ∧ PermR a b l p ∧ InsR f p a (u - 1) j ∧ Hz = H.upd id (nB g p)) (fun ρ Hz => (iv (ρ 11)).toNat) ?_ ?_
    · exact ⟨u - 1, q1, k11, by omega, Nat.le_refl _, hp1, .start hS1, rfl⟩
    rintro ρ2 Hz ⟨j, p, h11, haj, hj, hpp, hIn, hHz⟩
    refine W.env fun E5 hE5 => ?_
    have m0 : E5 0 = .own id g 0 n 1 := by rw [hE5]; simp (config := { maxSteps := 1000000 }) only [go_sem, k0, appendA_U]
    have m1 : E5 1 = lin a := by rw [hE5]; simp (config := { maxSteps := 1000000 }) only [go_sem, k1, appendA_U]
    have m2 : E5 2 = lin b := by rw [hE5]; simp (config := { maxSteps := 1000000 }) only [go_sem, k2, appendA_U]
    have m3 : E5 3 = cv := by rw [hE5]; simp (config := { maxSteps := 1000000 }) only [go_sem, k3, appendA_U]
    have m9 : E5 9 = lin u := by rw [hE5]; simp (config := { maxSteps := 1000000 }) only [go_sem, k9, appendA_U]
    have m10 : E5 10 = lin c := by rw [hE5]; simp (config := { maxSteps := 1000000 }) only [go_sem, k10, appendA_U]
    have m11 : E5 11 = lin j := by rw [hE5]; simp (config := { maxSteps := 1000000 }) only [go_sem, h11, appendA_U]
    clear hE5
    have Tz := S.upd hpp.1
    rw [← hHz] at Tz
    have stop : (j ≤ a ∨ f (p.getD (j - 1) 0) ≤ f (p.getD j 0)) → SrtR f p a u := fun h => by
      have := hIn.done hj h
      rwa [show u - 1 + 1 = u by omega] at this
    by_cases hj1 : (j : Int) ≥ 1
    rotate_left
    · refine vc_sound _ _ _ (by rfl) ?_
      simp (config := { maxSteps := 1000000 }) only [go_sem, m11, hj1, appendA_U]
      exact ⟨m0, m1, m2, m3, m9, m10, p, hpp, stop (.inl (by omega)), hHz⟩
    have wj : IntKind.i64.wrap ((j : Int) - 1) = ((j - 1 : Nat) : Int) := by rw [IntWalk.i64_in _ (by omega)]; omega
    have jn : j < n := by omega
    have b1 : (j : Int) < n := by omega
    have b2 : ((j - 1 : Nat) : Int) < n := by omega
    refine W.seq (vc_sound _ _ _ (by rfl) ?_)
    simp (config := { maxSteps := 1000000 }) only [go_sem, m11, hj1, appendA_U]
    refine W.seq (W.block ?_)
    refine W.seq (W.midN (fun s' => s'.H = Hz ∧ s'.ρ 0 = .own id g 0 n 1 ∧ s'.ρ 1 = lin a ∧ s'.ρ 2 = lin b ∧ s'.ρ 3 = cv ∧ s'.ρ 9 = lin u ∧ s'.ρ 10 = lin c ∧ s'.ρ 11 = lin j ∧ s'.ρ 84 = .lit (.bool (!decide (f (p.getD j 0) < f (p.getD (j - 1) 0))))) ?_ ?_)
    · refine W.draw 10 [0, 0, 0, 6, 14, 0, 0, 64, 224, 480] Tryd.mixed (by kernel_rfl) (by kernel_rfl) ?_
      simp (config := { maxSteps := 1000000 }) only [go_sem, m0, m1, m2, m3, m9, m10, m11, Tz.live, Tz.len, wj, Tz.cell jn, Tz.cell (show j - 1 < n by omega), b1, b2, appendA_U]
      obtain ⟨z, hz, hcc⟩ := Tz.ask jn (show j - 1 < n by omega)
      refine hcc _ ⟨trivial, ?_⟩
      by_cases hlt : f (p.getD j 0) < f (p.getD (j - 1) 0)
      · have hlt' := hz.2 hlt
        simp (config := { maxSteps := 1000000 }) only [go_sem, m0, m1, m2, m3, m9, m10, m11, hlt', hlt, appendA_U]
      · have hlt' : ¬ z < 0 := fun h => hlt (hz.1 h)
        simp (config := { maxSteps := 1000000 }) only [go_sem, m0, m1, m2, m3, m9, m10, m11, hlt', hlt, appendA_U]
    rintro ⟨ρ3, Hs⟩ ⟨hHs, v0, v1, v2, v3, v9, v10, v11, vc⟩
    simp only at hHs v0 v1 v2 v3 v9 v10 v11 vc
    rw [hHs]
    clear hHs Hs
    by_cases hlt : f (p.getD j 0) < f (p.getD (j - 1) 0)
    rotate_left
    · rw [decide_eq_false hlt] at vc
      refine W.cond (t := true) vc ?_
      refine vc_sound _ _ _ (by rfl) ?_
      simp (config := { maxSteps := 1000000 }) only [go_sem, appendA_U]
      exact ⟨v0, v1, v2, v3, v9, v10, p, hpp, stop (.inr (by omega)), hHz⟩
    rw [decide_eq_true hlt] at vc
    have haj2 : a < j := by
      rcases Nat.lt_or_ge a j with h | h
      · exact h
      · have e : j = a := by omega
        rcases hB.perm hpp (by rw [S.hl]; exact hb) with h3 | h3
        · omega
        · have := h3 j (by omega) (by omega)
          rw [e] at this hlt
          omega
    have pl2 := hpp.len
    rw [S.hl] at pl2
    refine W.cond (t := false) vc ?_
    refine vc_sound _ _ _ (by rfl) ?_
    simp (config := { maxSteps := 1000000 }) only [go_sem, appendA_U]
    refine W.draw 16 [0, 0, 0, 0, 8, 0, 0, 64, 224, 480, 0, 0, 3072, 7168, 16355, 32739] Tryd.mixed (by kernel_rfl) (by kernel_rfl) ?_
    simp (config := { maxSteps := 1000000 }) only [go_sem, v0, v11, Tz.live, Tz.len, wj, Tz.cell jn, Tz.cell (show j - 1 < n by omega), b1, b2, Tz.s1 jn, Tz.s2 (i := j) (show j - 1 < n by omega), Tz.len1, Tz.live1, appendA_U]
    refine ⟨by omega, by omega, ?_⟩
    try rw [Tz.u2]
    refine vc_sound _ _ _ (by rfl) ?_
    simp (config := { maxSteps := 1000000 }) only [go_sem, v11, wj, appendA_U]
    refine ⟨by simp only [upd_next]; rw [hHz]; exact Nat.le_refl _, ⟨j - 1, swapL p j (j - 1), rfl, by omega, by omega, hpp.trans (.swap (by omega) (by omega) (by omega) (by omega) (by rw [pl2]; exact hb)), hIn.step hj (by omega) haj2 hlt, ?_⟩, by rw [h11]; simp only [lin, iv_int]; omega⟩
    rw [hHz, nB_upd]
  rintro ax ⟨ρc, Hc⟩ ⟨hax, x0, x1, x2, x3, x9, x10, p, hpp, hSp, hHc⟩
  simp only at x0 x1 x2 x3 x9 x10 hHc
  subst hax
  rw [hHc]
  clear hHc Hc hp1 hS1 T1
  have wbu := IntWalk.i64_in ((b : Int) - (u : Int)) (by omega)
  refine W.midN (fun s' => s'.H = H.upd id (nB g p) ∧ s'.ρ 0 = .own id g 0 n 1 ∧ s'.ρ 2 = lin b ∧ s'.ρ 3 = cv ∧ s'.ρ 9 = lin u ∧ s'.ρ 10 = lin c ∧ s'.ρ 104 = .lit (.bool (decide ((2 : Int) ≤ (b : Int) - u)))) ?_ ?_
  · refine vc_sound _ _ _ (by rfl) ?_
    simp (config := { maxSteps := 1000000 }) only [go_sem, x0, x2, x3, x9, x10, wbu, appendA_U]
  rintro ⟨ρd, Hd⟩ ⟨hHd, c0, c2, c3, c9, c10, c104⟩
  simp only at hHd c0 c2 c3 c9 c10 c104
  rw [hHd]
  clear hHd Hd
  refine W.mono (Q := fun ax s' => ax = .normal ∧ s'.ρ 9 = lin u ∧ s'.ρ 10 = lin c ∧ ∃ p, PermR a b l p ∧ SrtR f p a u ∧ s'.H = H.upd id (nB g p)) ?_ ?_
  · by_cases h2 : (2 : Int) ≤ (b : Int) - u
    rotate_left
    · refine W.cond (t := false) (by rw [show evA G0 ρd (.tmp 104) = ρd 104 from rfl, c104, decide_eq_false h2]) ?_
      refine vc_sound _ _ _ (by rfl) ?_
      simp (config := { maxSteps := 1000000 }) only [go_sem, appendA_U]
      exact ⟨c9, c10, p, hpp, hSp, rfl⟩
    refine W.cond (t := true) (by rw [show evA G0 ρd (.tmp 104) = ρd 104 from rfl, c104, decide_eq_true h2]) ?_
    have wu1 : IntKind.i64.wrap ((u : Int) + 1) = ((u + 1 : Nat) : Int) := by rw [IntWalk.i64_in _ (by omega)]; omega
    refine W.seq (vc_sound _ _ _ (by rfl) ?_)
    simp (config := { maxSteps := 1000000 }) only [go_sem, c9, wu1, appendA_U]
    refine W.env fun E4 hE4 => ?_
    have k0 : E4 0 = .own id g 0 n 1 := by rw [hE4]; simp (config := { maxSteps := 1000000 }) only [go_sem, c0, appendA_U]
    have k2 : E4 2 = lin b := by rw [hE4]; simp (config := { maxSteps := 1000000 }) only [go_sem, c2, appendA_U]
    have k3 : E4 3 = cv := by rw [hE4]; simp (config := { maxSteps := 1000000 }) only [go_sem, c3, appendA_U]
    have k9 : E4 9 = lin u := by rw [hE4]; simp (config := { maxSteps := 1000000 }) only [go_sem, c9, appendA_U]
    have k10 : E4 10 = lin c := by rw [hE4]; simp (config := { maxSteps := 1000000 }) only [go_sem, c10, appendA_U]
    have k12 : E4 12 = lin ((u + 1 : Nat) : Int) := by rw [hE4]; simp (config := { maxSteps := 1000000 }) only [go_sem, c9, wu1, appendA_U]
    clear hE4
    refine W.block ?_
    refine W.loop0 2787593149654068615862751420689467177963520 (by kernel_rfl) (fun ρ Hz => ∃ (j : Nat) (p : List Nat), ρ 12 = lin j ∧ u < j ∧ j ≤ b ∧ PermR a b l p ∧ SrtR f p a u ∧ Hz = H.upd id (nB g p)) (fun ρ Hz => b - (iv (ρ 12)).toNat) ?_ ?_
    · exact ⟨u + 1, p, k12, by omega, by omega, hpp, hSp, rfl⟩
    clear hpp hSp c0 c2 c3 c9 c10 c104 x0 x1 x2 x3 x9 x10
    rintro ρ2 Hz ⟨j, p, h12, huj, hj, hpp, hSp, hHz⟩
    refine W.env fun E5 hE5 => ?_
    have m0 : E5 0 = .own id g 0 n 1 := by rw [hE5]; simp (config := { maxSteps := 1000000 }) only [go_sem, k0, appendA_U]
    have m2 : E5 2 = lin b := by rw [hE5]; simp (config := { maxSteps := 1000000 }) only [go_sem, k2, appendA_U]
    have m3 : E5 3 = cv := by rw [hE5]; simp (config := { maxSteps := 1000000 }) only [go_sem, k3, appendA_U]
    have m9 : E5 9 = lin u := by rw [hE5]; simp (config := { maxSteps := 1000000 }) only [go_sem, k9, appendA_U]
    have m10 : E5 10 = lin c := by rw [hE5]; simp (config := { maxSteps := 1000000 }) only [go_sem, k10, appendA_U]
    have m12 : E5 12 = lin j := by rw [hE5]; simp (config := { maxSteps := 1000000 }) only [go_sem, h12, appendA_U]
    clear hE5
    have Tz := S.upd hpp.1
    rw [← hHz] at Tz
    by_cases hjb : (j : Int) < b
    rotate_left
    · refine vc_sound _ _ _ (by rfl) ?_
      simp (config := { maxSteps := 1000000 }) only [go_sem, m12, m2, hjb, appendA_U]
      exact ⟨m9, m10, p, hpp, hSp, hHz⟩
    have wj : IntKind.i64.wrap ((j : Int) - 1) = ((j - 1 : Nat) : Int) := by rw [IntWalk.i64_in _ (by omega)]; omega
    have wj1 := IntWalk.i64_in ((j : Int) + 1) (by omega)
    have jn : j < n := by omega
    have b1 : (j : Int) < n := by omega
    have b2 : ((j - 1 : Nat) : Int) < n := by omega
    refine W.seq (vc_sound _ _ _ (by rfl) ?_)
    simp (config := { maxSteps := 1000000 }) only [go_sem, m12, m2, hjb, appendA_U]
    refine W.seq (W.block ?_)
    refine W.seq (W.midN (fun s' => s'.H = Hz ∧ s'.ρ 0 = .own id g 0 n 1 ∧ s'.ρ 9 = lin u ∧ s'.ρ 10 = lin c ∧ s'.ρ 12 = lin j ∧ s'.ρ 124 = .lit (.bool (!decide (f (p.getD j 0) < f (p.getD (j - 1) 0))))) ?_ ?_)
    · refine W.draw 10 [0, 0, 0, 6, 14, 0, 0, 64, 224, 480] Tryd.mixed (by kernel_rfl) (by kernel_rfl) ?_
      simp (config := { maxSteps := 1000000 }) only [go_sem, m0, m2, m3, m9, m10, m12, Tz.live, Tz.len, wj, Tz.cell jn, Tz.cell (show j - 1 < n by omega), b1, b2, appendA_U]
      obtain ⟨z, hz, hcc⟩ := Tz.ask jn (show j - 1 < n by omega)
      refine hcc _ ⟨trivial, ?_⟩
      by_cases hlt : f (p.getD j 0) < f (p.getD (j - 1) 0)
      · have hlt' := hz.2 hlt
        simp (config := { maxSteps := 1000000 }) only [go_sem, m0, m2, m3, m9, m10, m12, hlt', hlt, appendA_U]
      · have hlt' : ¬ z < 0 := fun h => hlt (hz.1 h)
        simp (config := { maxSteps := 1000000 }) only [go_sem, m0, m2, m3, m9, m10, m12, hlt', hlt, appendA_U]
    rintro ⟨ρ3, Hs⟩ ⟨hHs, v0, v9, v10, v12, vc⟩
    simp only at hHs v0 v9 v10 v12 vc
    rw [hHs]
    clear hHs Hs
    by_cases hlt : f (p.getD j 0) < f (p.getD (j - 1) 0)
    rotate_left
    · rw [decide_eq_false hlt] at vc
      refine W.cond (t := true) vc ?_
      refine vc_sound _ _ _ (by rfl) ?_
      simp (config := { maxSteps := 1000000 }) only [go_sem, appendA_U]
      exact ⟨v9, v10, p, hpp, hSp, hHz⟩
    rw [decide_eq_true hlt] at vc
    have pl2 := hpp.len
    rw [S.hl] at pl2
    have sw : PermR u b p (swapL p j (j - 1)) := .swap (by omega) (by omega) (by omega) (by omega) (by rw [pl2]; exact hb)
    refine W.cond (t := false) vc ?_
    refine vc_sound _ _ _ (by rfl) ?_
    simp (config := { maxSteps := 1000000 }) only [go_sem, appendA_U]
    refine W.draw 16 [0, 0, 0, 0, 8, 0, 0, 64, 224, 480, 0, 0, 3072, 7168, 16355, 32739] Tryd.mixed (by kernel_rfl) (by kernel_rfl) ?_
    simp (config := { maxSteps := 1000000 }) only [go_sem, v0, v12, Tz.live, Tz.len, wj, Tz.cell jn, Tz.cell (show j - 1 < n by omega), b1, b2, Tz.s1 jn, Tz.s2 (i := j) (show j - 1 < n by omega), Tz.len1, Tz.live1, appendA_U]
    refine ⟨by omega, by omega, ?_⟩
    try rw [Tz.u2]
    refine vc_sound _ _ _ (by rfl) ?_
    simp (config := { maxSteps := 1000000 }) only [go_sem, v12, wj1, appendA_U]
    refine ⟨by simp only [upd_next]; rw [hHz]; exact Nat.le_refl _, ⟨j + 1, swapL p j (j - 1), rfl, by omega, by omega, hpp.trans (sw.mono (by omega) (Nat.le_refl _)), hSp.keep sw, ?_⟩, by rw [h12]; simp only [lin, iv_int]; omega⟩
    rw [hHz, nB_upd]
  rintro ax ⟨ρe, He⟩ ⟨hax, y9, y10, p', hpp', hSp', hHe⟩
  simp only at y9 y10 hHe
  subst hax
  rw [hHe]
  show W _ _ _ _ _ _ _
  refine vc_sound _ _ _ (by rfl) ?_
  simp (config := { maxSteps := 1000000 }) only [go_sem, y10, wc, appendA_U]
  exact ⟨Nat.le_refl _, ⟨c + 1, u, p', y9, rfl, by omega, u1, u2, hpp', hSp', rfl⟩, by rw [h10]; simp only [lin, iv_int]; omega⟩
end
end Go.Proofs
namespace Go.Proofs
open Go.Hx
section
variable {cv : AVal} {f : Nat → Nat} {rid : Nat} {rb : Blk} {id g n a : Nat} {l : List Nat} {H : AHeap}
set_option maxHeartbeats 16000000 in
theorem sift_spec {lo hi : Nat} (S : SH cv f rid rb id g n l H) (hb : a + hi ≤ n) (hl0 : lo ≤ hi) (hh : HeapF f l a (lo + 1) hi) (K : ARes → AHeap → Prop) (hK : ∀ q, PermR (a + lo) (a + hi) l q → HeapF f q a lo hi → K (.ret (.tup [])) (H.upd id (nB g q))) :
    ACall Tryd.prog G0 109 [.own id g 0 n 1, lin lo, lin hi, lin a, cv] H K := by
  have hn := S.hn
  refine ACall.of_bodyW (n := 82) (rs := []) Tryd.func109 rfl rfl rfl (by decide) (by simp) ?_
  refine W.seq (vc_sound _ _ _ (by rfl) ?_)
  simp (config := { maxSteps := 1000000 }) only [go_sem, appendA_U]
  refine W.env fun E hE => ?_
  have e0 : E 0 = .own id g 0 n 1 := by rw [hE]; simp (config := { maxSteps := 1000000 }) only [go_sem, appendA_U]
  have e2 : E 2 = lin hi := by rw [hE]; simp (config := { maxSteps := 1000000 }) only [go_sem, appendA_U]
  have e3 : E 3 = lin a := by rw [hE]; simp (config := { maxSteps := 1000000 }) only [go_sem, appendA_U]
  have e4 : E 4 = cv := by rw [hE]; simp (config := { maxSteps := 1000000 }) only [go_sem, appendA_U]
  have e10 : E 10 = lin lo := by rw [hE]; simp (config := { maxSteps := 1000000 }) only [go_sem, appendA_U]
  clear hE
  refine W.block ?_
  refine W.loop0 4835703278458516698819584 (by kernel_rfl) (fun ρ Hx => ∃ (r : Nat) (q : List Nat), ρ 10 = lin r ∧ lo ≤ r ∧ (r < hi ∨ r = lo) ∧ PermR (a + lo) (a + hi) l q ∧ SiftI f q a lo hi r ∧ Hx = H.upd id (nB g q)) (fun ρ Hx => hi + 1 - (iv (ρ 10)).toNat) ?_ ?_
  · exact ⟨lo, l, e10, Nat.le_refl _, .inr rfl, .refl _ _ _, .start hh, S.self.symm⟩
  rintro ρ Hx ⟨r, q, h10, hlr, hrh, hp, hI, hHx⟩
  refine W.env fun F hF => ?_
  have d0 : F 0 = .own id g 0 n 1 := by rw [hF]; simp (config := { maxSteps := 1000000 }) only [go_sem, e0, appendA_U]
  have d2 : F 2 = lin hi := by rw [hF]; simp (config := { maxSteps := 1000000 }) only [go_sem, e2, appendA_U]
  have d3 : F 3 = lin a := by rw [hF]; simp (config := { maxSteps := 1000000 }) only [go_sem, e3, appendA_U]
  have d4 : F 4 = cv := by rw [hF]; simp (config := { maxSteps := 1000000 }) only [go_sem, e4, appendA_U]
  have d10 : F 10 = lin r := by rw [hF]; simp (config := { maxSteps := 1000000 }) only [go_sem, h10, appendA_U]
  clear hF
  have T := S.upd hp.1
  rw [← hHx] at T
  have wm : IntKind.i64.wrap (2 * (r : Int)) = ((2 * r : Nat) : Int) := by rw [IntWalk.i64_in _ (by omega)]; omega
  have wc : IntKind.i64.wrap (((2 * r : Nat) : Int) + 1) = ((2 * r + 1 : Nat) : Int) := by rw [IntWalk.i64_in _ (by omega)]; omega
  obtain ⟨c, hc⟩ : ∃ c, c = 2 * r + 1 := ⟨_, rfl⟩
  rw [← hc] at wc
  by_cases hce : (c : Int) ≥ hi
  · refine W.block ?_
    refine W.seq (vc_sound _ _ _ (by rfl) ?_)
    simp (config := { maxSteps := 1000000 }) only [go_sem, d10, wm, wc, appendA_U]
    refine vc_sound _ _ _ (by rfl) ?_
    simp (config := { maxSteps := 1000000 }) only [go_sem, d2, hce, appendA_U]
    rw [hHx]
    exact FinV.mk (Nat.le_refl _) (hK q hp (hI.done fun k k1 k2 => by unfold Kid at k1; omega))
  refine W.block ?_
  refine W.seq (vc_sound _ _ _ (by rfl) ?_)
  simp (config := { maxSteps := 1000000 }) only [go_sem, d10, wm, wc, appendA_U]
  refine W.seq (vc_sound _ _ _ (by rfl) ?_)
  simp (config := { maxSteps := 1000000 }) only [go_sem, d2, hce, appendA_U]
  refine W.env fun J hJ => ?_
  have m0 : J 0 = .own id g 0 n 1 := by rw [hJ]; simp (config := { maxSteps := 1000000 }) only [go_sem, d0, appendA_U]
  have m2 : J 2 = lin hi := by rw [hJ]; simp (config := { maxSteps := 1000000 }) only [go_sem, d2, appendA_U]
  have m3 : J 3 = lin a := by rw [hJ]; simp (config := { maxSteps := 1000000 }) only [go_sem, d3, appendA_U]
  have m4 : J 4 = cv := by rw [hJ]; simp (config := { maxSteps := 1000000 }) only [go_sem, d4, appendA_U]
  have m10 : J 10 = lin r := by rw [hJ]; simp (config := { maxSteps := 1000000 }) only [go_sem, d10, appendA_U]
  have m11 : J 11 = lin c := by rw [hJ]; simp (config := { maxSteps := 1000000 }) only [go_sem, wm, wc, d10, appendA_U]
  clear hJ
  have wc1 : IntKind.i64.wrap ((c : Int) + 1) = ((c + 1 : Nat) : Int) := by rw [IntWalk.i64_in _ (by omega)]; omega
  have wac : IntKind.i64.wrap ((a : Int) + (c : Int)) = ((a + c : Nat) : Int) := by rw [IntWalk.i64_in _ (by omega)]; omega
  have wac1 : IntKind.i64.wrap (((a + c : Nat) : Int) + 1) = ((a + c + 1 : Nat) : Int) := by rw [IntWalk.i64_in _ (by omega)]; omega
  have bc : ((a + c : Nat) : Int) < n := by omega
  refine W.seq (W.mono (Q := fun ax s' => ax = .normal ∧ s'.H = Hx ∧ s'.ρ 0 = .own id g 0 n 1 ∧ s'.ρ 2 = lin hi ∧ s'.ρ 3 = lin a ∧ s'.ρ 4 = cv ∧ s'.ρ 10 = lin r ∧ ∃ d : Nat, s'.ρ 11 = lin d ∧ Kid r d ∧ d < hi ∧ ∀ e, Kid r e → e < hi → f (q.getD (a + e) 0) ≤ f (q.getD (a + d) 0)) ?_ ?_)
  · refine W.midN (fun s' => s'.H = Hx ∧ s'.ρ 0 = .own id g 0 n 1 ∧ s'.ρ 2 = lin hi ∧ s'.ρ 3 = lin a ∧ s'.ρ 4 = cv ∧ s'.ρ 10 = lin r ∧ s'.ρ 11 = lin c ∧ s'.ρ 40 = .lit (.bool (decide (c + 1 < hi) && decide (f (q.getD (a + c) 0) < f (q.getD (a + c + 1) 0))))) ?_ ?_
    · refine W.draw 19 [0, 1, 0, 7, 15, 31, 31, 31, 31, 415, 991, 2015, 31, 31, 31, 24607, 57375, 127007, 258079] Tryd.mixed (by kernel_rfl) (by kernel_rfl) ?_
      by_cases hub : ((c + 1 : Nat) : Int) < hi
      · have b2 : ((a + c + 1 : Nat) : Int) < n := by omega
        simp (config := { maxSteps := 1000000 }) only [go_sem, m0, m2, m3, m4, m10, m11, T.live, T.len, hub, wc1, wac, wac1, T.cell (show a + c < n by omega), T.cell (show a + c + 1 < n by omega), bc, b2, guardA_undef, appendA_U]
        obtain ⟨z, hz, hcc⟩ := T.ask (show a + c < n by omega) (show a + c + 1 < n by omega)
        refine hcc _ ⟨trivial, ?_⟩
        have hd1 : decide (c + 1 < hi) = true := decide_eq_true (by omega)
        rw [hd1]
        by_cases hlt : f (q.getD (a + c) 0) < f (q.getD (a + c + 1) 0)
        · have hlt' := hz.2 hlt
          simp (config := { maxSteps := 1000000 }) only [go_sem, m0, m2, m3, m4, m10, m11, hlt', hlt, appendA_U]
          try rfl
        · have hlt' : ¬ z < 0 := fun h => hlt (hz.1 h)
          simp (config := { maxSteps := 1000000 }) only [go_sem, m0, m2, m3, m4, m10, m11, hlt', hlt, appendA_U]
          try rfl
      · simp (config := { maxSteps := 1000000 }) only [go_sem, m0, m2, m3, m4, m10, m11, hub, wc1, guardA_undef, appendA_U]
        have hj0 : decide (c + 1 < hi) = false := decide_eq_false (by omega)
        rw [hj0]
        rfl
    rintro ⟨ρ3, Hs⟩ ⟨hHs, v0, v2, v3, v4, v10, v11, vc⟩
    simp only at hHs v0 v2 v3 v4 v10 v11 vc
    rw [hHs]
    clear hHs Hs
    cases hfl : (decide (c + 1 < hi) && decide (f (q.getD (a + c) 0) < f (q.getD (a + c + 1) 0))) with
    | false =>
      rw [hfl] at vc
      refine W.cond (t := false) vc ?_
      refine vc_sound _ _ _ (by rfl) ?_
      simp (config := { maxSteps := 1000000 }) only [go_sem, appendA_U]
      refine ⟨v0, v2, v3, v4, v10, c, v11, .inl hc, by omega, fun e e1 e2 => ?_⟩
      rcases e1 with e1 | e1
      · rw [show e = c by omega]; exact Nat.le_refl _
      · rw [decide_eq_true (show c + 1 < hi by omega), Bool.true_and, decide_eq_false_iff_not] at hfl
        rw [show a + e = a + c + 1 by omega]
        omega
    | true =>
      rw [hfl] at vc
      refine W.cond (t := true) vc ?_
      have hfl2 : c + 1 < hi ∧ f (q.getD (a + c) 0) < f (q.getD (a + c + 1) 0) := by simpa using hfl
      refine vc_sound _ _ _ (by rfl) ?_
      simp (config := { maxSteps := 1000000 }) only [go_sem, v11, wc1, appendA_U]
      refine ⟨v0, v2, v3, v4, v10, c + 1, rfl, .inr (by omega), by omega, fun e e1 e2 => ?_⟩
      rcases e1 with e1 | e1
      · rw [show e = c by omega, ← Nat.add_assoc]; omega
      · rw [show e = c + 1 by omega]; exact Nat.le_refl _
  rintro ax ⟨ρa, Ha⟩ ⟨hax, hHa, a0, a2, a3, a4, a10, d, a11, kd, dh, dm⟩
  simp only at hHa a0 a2 a3 a4 a10 a11
  subst hax
  rw [hHa]
  clear hHa Ha
  show W _ _ _ _ _ _ _
  have rd : r < d := by unfold Kid at kd; omega
  have war : IntKind.i64.wrap ((a : Int) + (r : Int)) = ((a + r : Nat) : Int) := by rw [IntWalk.i64_in _ (by omega)]; omega
  have wad : IntKind.i64.wrap ((a : Int) + (d : Int)) = ((a + d : Nat) : Int) := by rw [IntWalk.i64_in _ (by omega)]; omega
  have br : ((a + r : Nat) : Int) < n := by omega
  have bd : ((a + d : Nat) : Int) < n := by omega
  have rn : a + r < n := by omega
  have dn : a + d < n := by omega
  refine W.seq (W.midN (fun s' => s'.H = Hx ∧ s'.ρ 0 = .own id g 0 n 1 ∧ s'.ρ 3 = lin a ∧ s'.ρ 10 = lin r ∧ s'.ρ 11 = lin d ∧ s'.ρ 58 = .lit (.bool (!decide (f (q.getD (a + r) 0) < f (q.getD (a + d) 0))))) ?_ ?_)
  · refine W.draw 13 [0, 0, 0, 0, 12, 30, 62, 0, 0, 0, 768, 1920, 3968] Tryd.mixed (by kernel_rfl) (by kernel_rfl) ?_
    simp (config := { maxSteps := 1000000 }) only [go_sem, a0, a2, a3, a4, a10, a11, T.live, T.len, war, wad, T.cell rn, T.cell dn, br, bd, appendA_U]
    obtain ⟨z, hz, hcc⟩ := T.ask rn dn
    refine hcc _ ⟨trivial, ?_⟩
    by_cases hlt : f (q.getD (a + r) 0) < f (q.getD (a + d) 0)
    · have hlt' := hz.2 hlt
      simp (config := { maxSteps := 1000000 }) only [go_sem, a0, a2, a3, a4, a10, a11, hlt', hlt, appendA_U]
    · have hlt' : ¬ z < 0 := fun h => hlt (hz.1 h)
      simp (config := { maxSteps := 1000000 }) only [go_sem, a0, a2, a3, a4, a10, a11, hlt', hlt, appendA_U]
  rintro ⟨ρ4, Hs⟩ ⟨hHs, v0, v3, v10, v11, vc⟩
  simp only at hHs v0 v3 v10 v11 vc
  rw [hHs]
  clear hHs Hs
  by_cases hlt : f (q.getD (a + r) 0) < f (q.getD (a + d) 0)
  rotate_left
  · rw [decide_eq_false hlt] at vc
    refine W.cond (t := true) vc ?_
    refine vc_sound _ _ _ (by rfl) ?_
    simp (config := { maxSteps := 1000000 }) only [go_sem, appendA_U]
    rw [hHx]
    exact FinV.mk (Nat.le_refl _) (hK q hp (hI.done fun e e1 e2 => by have := dm e e1 e2; omega))
  rw [decide_eq_true hlt] at vc
  have pl := hp.len
  rw [S.hl] at pl
  refine W.cond (t := false) vc ?_
  refine vc_sound _ _ _ (by rfl) ?_
  simp (config := { maxSteps := 1000000 }) only [go_sem, appendA_U]
  refine W.seq ?_
  refine W.draw 22 [0, 0, 0, 6, 0, 0, 0, 96, 0, 0, 0, 1536, 3840, 7936, 0, 0, 0, 98304, 245760, 507904, 1048335, 2096911] Tryd.mixed (by kernel_rfl) (by kernel_rfl) ?_
  simp (config := { maxSteps := 1000000 }) only [go_sem, v0, v3, v10, v11, T.live, T.len, war, wad, T.cell rn, T.cell dn, br, bd, T.s1 rn, T.s2 (i := a + r) dn, T.len1, T.live1, appendA_U]
  refine ⟨by omega, by omega, ?_⟩
  try rw [T.u2]
  refine vc_sound _ _ _ (by rfl) ?_
  simp (config := { maxSteps := 1000000 }) only [go_sem, v11, appendA_U]
  refine ⟨by simp only [upd_next]; rw [hHx]; exact Nat.le_refl _, ⟨d, swapL q (a + r) (a + d), rfl, by omega, .inl dh, hp.trans (.swap (by omega) (by omega) (by omega) (by omega) (by omega)), hI.step hlr (by omega) kd dh dm (Nat.le_of_lt hlt), ?_⟩, by rw [h10]; simp only [lin, iv_int]; omega⟩
  rw [hHx, nB_upd]
end
end Go.Proofs
namespace Go.Proofs
open Go.Hx
section
variable {cv : AVal} {f : Nat → Nat} {rid : Nat} {rb : Blk} {id g n a b : Nat} {l : List Nat} {H : AHeap}
set_option maxHeartbeats 16000000 in
theorem heapSort_spec (S : SH cv f rid rb id g n l H) (hab : a < b) (hb : b ≤ n) (K : ARes → AHeap → Prop) (hK : ∀ q, PermR a b l q → SrtR f q a b → K (.ret (.tup [])) (H.upd id (nB g q))) :
    ACall Tryd.prog G0 97 [.own id g 0 n 1, lin a, lin b, cv] H K := by
  have hn := S.hn
  have w0 : IntKind.i64.wrap ((b : Int) - (a : Int)) = ((b - a : Nat) : Int) := by rw [IntWalk.i64_in _ (by omega)]; omega
  have w1 : IntKind.i64.wrap (((b - a : Nat) : Int) - 1) = ((b - a - 1 : Nat) : Int) := by rw [IntWalk.i64_in _ (by omega)]; omega
  have w2 : (((b - a - 1 : Nat) : Int)).tdiv 2 = (((b - a - 1) / 2 : Nat) : Int) := by rw [Int.tdiv_eq_ediv_of_nonneg (by omega)]; push_cast; rfl
  have w3 : IntKind.i64.wrap (((b - a - 1) / 2 : Nat) : Int) = (((b - a - 1) / 2 : Nat) : Int) := IntWalk.i64_in _ (by omega)
  refine ACall.of_bodyW (n := 60) (rs := []) Tryd.func97 rfl rfl rfl (by decide) (by simp) ?_
  refine W.seq (vc_sound _ _ _ (by rfl) ?_)
  simp (config := { maxSteps := 1000000 }) only [go_sem, appendA_U]
  refine W.seq (vc_sound _ _ _ (by rfl) ?_)
  simp (config := { maxSteps := 1000000 }) only [go_sem, appendA_U]
  refine W.seq (vc_sound _ _ _ (by rfl) ?_)
  simp (config := { maxSteps := 1000000 }) only [go_sem, w0, appendA_U]
  refine W.seq (vc_sound _ _ _ (by rfl) ?_)
  simp (config := { maxSteps := 1000000 }) only [go_sem, w0, w1, w2, w3, appendA_U]
  refine W.env fun E hE => ?_
  have e0 : E 0 = .own id g 0 n 1 := by rw [hE]; simp (config := { maxSteps := 1000000 }) only [go_sem, appendA_U]
  have e3 : E 3 = cv := by rw [hE]; simp (config := { maxSteps := 1000000 }) only [go_sem, appendA_U]
  have e8 : E 8 = lin a := by rw [hE]; simp (config := { maxSteps := 1000000 }) only [go_sem, appendA_U]
  have e9 : E 9 = lin 0 := by rw [hE]; simp (config := { maxSteps := 1000000 }) only [go_sem, appendA_U]
  have e10 : E 10 = lin ((b - a : Nat) : Int) := by rw [hE]; simp (config := { maxSteps := 1000000 }) only [go_sem, w0, appendA_U]
  have e11 : E 11 = lin (((b - a - 1) / 2 : Nat) : Int) := by rw [hE]; simp (config := { maxSteps := 1000000 }) only [go_sem, w0, w1, w2, w3, appendA_U]
  clear hE
  refine W.loop0 1072695296 (by kernel_rfl) (fun ρ Hx => ∃ (k : Nat) (q : List Nat), ρ 11 = lin ((k : Int) - 1) ∧ k ≤ b - a ∧ PermR a b l q ∧ HeapF f q a k (b - a) ∧ Hx = H.upd id (nB g q)) (fun ρ Hx => (iv (ρ 11) + 1).toNat) ?_ ?_
  · exact ⟨(b - a - 1) / 2 + 1, l, e11.trans (by congr 3; omega), by omega, .refl _ _ _, .vac (by omega), S.self.symm⟩
  rintro ρ Hx ⟨k, q, h11, hk, hp, hh, hHx⟩
  refine W.env fun F hF => ?_
  have d0 : F 0 = .own id g 0 n 1 := by rw [hF]; simp (config := { maxSteps := 1000000 }) only [go_sem, e0, appendA_U]
  have d3 : F 3 = cv := by rw [hF]; simp (config := { maxSteps := 1000000 }) only [go_sem, e3, appendA_U]
  have d8 : F 8 = lin a := by rw [hF]; simp (config := { maxSteps := 1000000 }) only [go_sem, e8, appendA_U]
  have d9 : F 9 = lin 0 := by rw [hF]; simp (config := { maxSteps := 1000000 }) only [go_sem, e9, appendA_U]
  have d10 : F 10 = lin ((b - a : Nat) : Int) := by rw [hF]; simp (config := { maxSteps := 1000000 }) only [go_sem, e10, appendA_U]
  have d11 : F 11 = lin ((k : Int) - 1) := by rw [hF]; simp (config := { maxSteps := 1000000 }) only [go_sem, h11, appendA_U]
  clear hF
  have T := S.upd hp.1
  rw [← hHx] at T
  by_cases hk0 : (k : Int) - 1 ≥ 0
  · obtain ⟨i, rfl⟩ : ∃ i, k = i + 1 := ⟨k - 1, by omega⟩
    have ei : ((i + 1 : Nat) : Int) - 1 = (i : Int) := by omega
    rw [ei] at d11 hk0 h11
    have wi := IntWalk.i64_in ((i : Int) - 1) (by omega)
    refine W.seq (vc_sound _ _ _ (by rfl) ?_)
    simp (config := { maxSteps := 1000000 }) only [go_sem, d11, hk0, appendA_U]
    refine W.seq (W.block ?_)
    refine vc_sound _ _ _ (by rfl) ?_
    simp (config := { maxSteps := 1000000 }) only [go_sem, d0, d3, d8, d10, d11, appendA_U]
    refine AApply.clo (sift_spec (hi := b - a) T (by omega) (by omega) hh _ fun q' hq' hh' => ⟨trivial, ?_⟩)
    simp (config := { maxSteps := 1000000 }) only [go_sem, appendA_U]
    refine vc_sound _ _ _ (by rfl) ?_
    simp (config := { maxSteps := 1000000 }) only [go_sem, d11, wi, appendA_U]
    refine ⟨by rw [hHx]; exact Nat.le_refl _, ⟨i, q', rfl, by omega, hp.trans (hq'.mono (by omega) (by omega)), hh', ?_⟩, by rw [h11]; simp only [lin, iv_int]; omega⟩
    rw [hHx, nB_upd]
  refine vc_sound _ _ _ (by rfl) ?_
  simp (config := { maxSteps := 1000000 }) only [go_sem, d11, hk0, appendA_U]
  obtain rfl : k = 0 := by omega
  refine W.seq (vc_sound _ _ _ (by rfl) ?_)
  simp (config := { maxSteps := 1000000 }) only [go_sem, d10, w1, appendA_U]
  refine W.env fun J hJ => ?_
  have m0 : J 0 = .own id g 0 n 1 := by rw [hJ]; simp (config := { maxSteps := 1000000 }) only [go_sem, d0, appendA_U]
  have m3 : J 3 = cv := by rw [hJ]; simp (config := { maxSteps := 1000000 }) only [go_sem, d3, appendA_U]
  have m8 : J 8 = lin a := by rw [hJ]; simp (config := { maxSteps := 1000000 }) only [go_sem, d8, appendA_U]
  have m9 : J 9 = lin 0 := by rw [hJ]; simp (config := { maxSteps := 1000000 }) only [go_sem, d9, appendA_U]
  have m10 : J 10 = lin ((b - a : Nat) : Int) := by rw [hJ]; simp (config := { maxSteps := 1000000 }) only [go_sem, d10, appendA_U]
  have m12 : J 12 = lin ((b - a - 1 : Nat) : Int) := by rw [hJ]; simp (config := { maxSteps := 1000000 }) only [go_sem, d10, w1, appendA_U]
  clear hJ
  refine W.block ?_
  refine W.loop0 1152921500311883776 (by kernel_rfl) (fun ρ Hz => ∃ (k : Nat) (p : List Nat), ρ 12 = lin ((k : Int) - 1) ∧ k ≤ b - a ∧ PermR a b l p ∧ HeapF f p a 0 k ∧ PopI f p a (a + k) b ∧ Hz = H.upd id (nB g p)) (fun ρ Hz => (iv (ρ 12) + 1).toNat) ?_ ?_
  · exact ⟨b - a, q, m12.trans (by congr 3; omega), Nat.le_refl _, hp, hh, by rw [show a + (b - a) = b by omega]; exact .start, hHx⟩
  rintro ρ2 Hz ⟨k, p, h12, hkb, hpp, hhp, hPI, hHz⟩
  refine W.env fun M hM => ?_
  have u0 : M 0 = .own id g 0 n 1 := by rw [hM]; simp (config := { maxSteps := 1000000 }) only [go_sem, m0, appendA_U]
  have u3 : M 3 = cv := by rw [hM]; simp (config := { maxSteps := 1000000 }) only [go_sem, m3, appendA_U]
  have u8 : M 8 = lin a := by rw [hM]; simp (config := { maxSteps := 1000000 }) only [go_sem, m8, appendA_U]
  have u9 : M 9 = lin 0 := by rw [hM]; simp (config := { maxSteps := 1000000 }) only [go_sem, m9, appendA_U]
  have u10 : M 10 = lin ((b - a : Nat) : Int) := by rw [hM]; simp (config := { maxSteps := 1000000 }) only [go_sem, m10, appendA_U]
  have u12 : M 12 = lin ((k : Int) - 1) := by rw [hM]; simp (config := { maxSteps := 1000000 }) only [go_sem, h12, appendA_U]
  clear hM
  have Tz := S.upd hpp.1
  rw [← hHz] at Tz
  by_cases hk1 : (k : Int) - 1 ≥ 0
  rotate_left
  · refine vc_sound _ _ _ (by rfl) ?_
    simp (config := { maxSteps := 1000000 }) only [go_sem, u12, hk1, appendA_U]
    obtain rfl : k = 0 := by omega
    rw [hHz]
    exact FinV.mk (Nat.le_refl _) (hK p hpp hPI.done)
  obtain ⟨i, rfl⟩ : ∃ i, k = i + 1 := ⟨k - 1, by omega⟩
  have ei : ((i + 1 : Nat) : Int) - 1 = (i : Int) := by omega
  rw [ei] at u12 hk1 h12
  have wi := IntWalk.i64_in ((i : Int) - 1) (by omega)
  have wai : IntKind.i64.wrap ((a : Int) + (i : Int)) = ((a + i : Nat) : Int) := by rw [IntWalk.i64_in _ (by omega)]; omega
  have an : a < n := by omega
  have ain : a + i < n := by omega
  have ba : (a : Int) < n := by omega
  have bai : ((a + i : Nat) : Int) < n := by omega
  have pl := hpp.len
  rw [S.hl] at pl
  refine W.seq (vc_sound _ _ _ (by rfl) ?_)
  simp (config := { maxSteps := 1000000 }) only [go_sem, u12, hk1, appendA_U]
  refine W.seq (W.block (W.seq ?_))
  refine W.draw 18 [0, 0, 0, 0, 0, 24, 0, 0, 0, 384, 960, 1984, 0, 0, 12288, 28672, 65475, 131011] Tryd.mixed (by kernel_rfl) (by kernel_rfl) ?_
  simp (config := { maxSteps := 1000000 }) only [go_sem, u0, u8, u12, Tz.live, Tz.len, wai, Tz.cell an, Tz.cell ain, ba, bai, Tz.s1 an, Tz.s2 (i := a) ain, Tz.len1, Tz.live1, appendA_U]
  refine ⟨by omega, by omega, ?_⟩
  try rw [Tz.u2]
  have sw : PermR a b p (swapL p a (a + i)) := .swap (Nat.le_refl _) (by omega) (by omega) (by omega) (by omega)
  have Ts := Tz.upd sw.1
  refine vc_sound _ _ _ (by rfl) ?_
  simp (config := { maxSteps := 1000000 }) only [go_sem, u0, u3, u8, u9, u12, appendA_U]
  refine AApply.clo (sift_spec (lo := 0) (hi := i) Ts (by omega) (by omega) (hhp.pop (by omega)) _ fun q' hq' hh' => ⟨trivial, ?_⟩)
  simp (config := { maxSteps := 1000000 }) only [go_sem, appendA_U]
  refine vc_sound _ _ _ (by rfl) ?_
  simp (config := { maxSteps := 1000000 }) only [go_sem, u12, wi, appendA_U]
  refine ⟨by simp only [upd_next]; rw [hHz, hHx]; exact Nat.le_refl _, ⟨i, q', rfl, by omega, hpp.trans (sw.trans (hq'.mono (by omega) (by omega))), hh', hPI.step hhp (by omega) (by omega) hq', ?_⟩, by rw [h12]; simp only [lin, iv_int]; omega⟩
  rw [hHz, nB_upd, nB_upd]
end
end Go.Proofs
