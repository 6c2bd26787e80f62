/- Own work: contracts. -/
import Derived.Test.YtikgmgmphkalkaaDoorConB
set_option linter.all false
set_option maxRecDepth 100000
namespace Go.Proofs
open Go.Hx
def InsR (f : Nat → Nat) (l : List Nat) (a i j : Nat) : Prop := (∀ x y, a ≤ x → x < y → y ≤ i → x ≠ j → y ≠ j → f (l.getD x 0) ≤ f (l.getD y 0)) ∧ ∀ y, j < y → y ≤ i → f (l.getD j 0) ≤ f (l.getD y 0)
theorem InsR.start {f : Nat → Nat} {l : List Nat} {a i : Nat} (h : SrtR f l a i) : InsR f l a i i := ⟨fun x y h0 h1 h2 h3 h4 => h x y h0 h1 (by omega), fun b h1 h2 => by omega⟩
theorem InsR.done {f : Nat → Nat} {l : List Nat} {a i j : Nat} (h : InsR f l a i j) (hj : j ≤ i) (hd : j ≤ a ∨ f (l.getD (j - 1) 0) ≤ f (l.getD j 0)) : SrtR f l a (i + 1) := by
  intro x y h0 h1 h2
  by_cases hb : y = j
  · subst hb
    rcases hd with h3 | h3
    · omega
    · by_cases ha : x = y - 1
      · rw [ha]; exact h3
      · exact Nat.le_trans (h.1 x (y - 1) h0 (by omega) (by omega) (by omega) (by omega)) h3
  · by_cases ha : x = j
    · subst ha; exact h.2 y h1 (by omega)
    · exact h.1 x y h0 h1 (by omega) ha hb
theorem InsR.step {f : Nat → Nat} {l : List Nat} {a i j : Nat} (h : InsR f l a i j) (hj : j ≤ i) (hi : i < l.length) (h0 : a < j) (hlt : f (l.getD j 0) < f (l.getD (j - 1) 0)) : InsR f (swapL l j (j - 1)) a i (j - 1) := by
  have g := swapL_get (l := l) (i := j) (j := j - 1) (by omega) (by omega) (by omega)
  constructor
  · intro x y hx h1 h2 h3 h4
    rw [g x, g y, if_neg h3, if_neg h4]
    by_cases ha : x = j
    · rw [if_pos ha, if_neg (by omega)]
      exact h.1 (j - 1) y (by omega) (by omega) h2 (by omega) (by omega)
    · rw [if_neg ha]
      by_cases hb : y = j
      · rw [if_pos hb]
        exact h.1 x (j - 1) hx (by omega) (by omega) ha (by omega)
      · rw [if_neg hb]
        exact h.1 x y hx h1 h2 ha hb
  · intro b h1 h2
    rw [g (j - 1), if_pos rfl, g b, if_neg (by omega)]
    by_cases hb : b = j
    · rw [if_pos hb]; exact Nat.le_of_lt hlt
    · rw [if_neg hb]; exact h.2 b (by omega) h2
section
variable {cv : AVal} {f : Nat → Nat} {rid : Nat} {rb : Blk} {id g n a b : Nat} {l : List Nat} {H : AHeap}
set_option maxHeartbeats 4000000 in
theorem insR_spec (S : SH cv f rid rb id g n l H) (hab : a ≤ b) (hb : b ≤ n) (K : ARes → AHeap → Prop) (hK : ∀ q, PermR a b l q → SrtR f q a b → K (.ret (.tup [])) (H.upd id (nB g q))) :
    ACall Tryd.prog G0 96 [.own id g 0 n 1, lin a, lin b, cv] H K := by
  have hn := S.hn
  have w0 := IntWalk.i64_in ((a : Int) + 1) (by omega)
  refine ACall.of_bodyW (n := 53) (rs := []) Tryd.func96 rfl rfl rfl (by decide) (by simp) ?_
  refine W.seq (vc_sound _ _ _ (by rfl) ?_)
  simp (config := { maxSteps := 1000000 }) only [go_sem, w0, appendA_U]
  refine W.env fun E hE => ?_
  have e0 : E 0 = .own id g 0 n 1 := by rw [hE]; simp (config := { maxSteps := 1000000 }) only [go_sem, appendA_U]
  have e1 : E 1 = lin a := by rw [hE]; simp (config := { maxSteps := 1000000 }) only [go_sem, appendA_U]
  have e2 : E 2 = lin b := by rw [hE]; simp (config := { maxSteps := 1000000 }) only [go_sem, appendA_U]
  have e3 : E 3 = cv := by rw [hE]; simp (config := { maxSteps := 1000000 }) only [go_sem, appendA_U]
  have e8 : E 8 = lin ((a + 1 : Nat) : Int) := by rw [hE]; simp (config := { maxSteps := 1000000 }) only [go_sem, w0, appendA_U]; rfl
  clear hE
  refine W.block ?_
  refine W.loop0 9007199254737664 (by rfl) (fun ρ Hx => ∃ (i : Nat) (q : List Nat), ρ 8 = lin i ∧ a < i ∧ (i ≤ b ∨ i = a + 1) ∧ PermR a b l q ∧ SrtR f q a i ∧ Hx = H.upd id (nB g q)) (fun ρ Hx => b + 1 - (iv (ρ 8)).toNat) ?_ ?_
  · exact ⟨a + 1, l, e8, by omega, .inr rfl, .refl _ _ _, fun x y h1 h2 h3 => by omega, S.self.symm⟩
  rintro ρ Hx ⟨i, q, h8, hi1, hi, hq, hS, hHx⟩
  refine W.env fun E1 hE1 => ?_
  have f0 : E1 0 = .own id g 0 n 1 := by rw [hE1]; simp (config := { maxSteps := 1000000 }) only [go_sem, e0, appendA_U]
  have f1 : E1 1 = lin a := by rw [hE1]; simp (config := { maxSteps := 1000000 }) only [go_sem, e1, appendA_U]
  have f2 : E1 2 = lin b := by rw [hE1]; simp (config := { maxSteps := 1000000 }) only [go_sem, e2, appendA_U]
  have f3 : E1 3 = cv := by rw [hE1]; simp (config := { maxSteps := 1000000 }) only [go_sem, e3, appendA_U]
  have f8 : E1 8 = lin i := by rw [hE1]; simp (config := { maxSteps := 1000000 }) only [go_sem, h8, appendA_U]
  clear hE1
  by_cases hib : (i : Int) < b
  rotate_left
  · refine vc_sound _ _ _ (by rfl) ?_
    simp (config := { maxSteps := 1000000 }) only [go_sem, f8, f2, hib, appendA_U]
    rw [hHx]
    exact FinV.mk (by rw [upd_next]; exact Nat.le_refl _) (hK q hq fun x y h1 h2 h3 => hS x y h1 h2 (by omega))
  refine W.seq (vc_sound _ _ _ (by rfl) ?_)
  simp (config := { maxSteps := 1000000 }) only [go_sem, f8, f2, hib, appendA_U]
  refine W.seq (W.block ?_)
  refine W.seq (vc_sound _ _ _ (by rfl) ?_)
  simp (config := { maxSteps := 1000000 }) only [go_sem, f8, appendA_U]
  refine W.env fun E2 hE2 => ?_
  have m0 : E2 0 = .own id g 0 n 1 := by rw [hE2]; simp (config := { maxSteps := 1000000 }) only [go_sem, f0, appendA_U]
  have m1 : E2 1 = lin a := by rw [hE2]; simp (config := { maxSteps := 1000000 }) only [go_sem, f1, appendA_U]
  have m3 : E2 3 = cv := by rw [hE2]; simp (config := { maxSteps := 1000000 }) only [go_sem, f3, appendA_U]
  have m8 : E2 8 = lin i := by rw [hE2]; simp (config := { maxSteps := 1000000 }) only [go_sem, f8, appendA_U]
  have m9 : E2 9 = lin i := by rw [hE2]; simp (config := { maxSteps := 1000000 }) only [go_sem, f8, appendA_U]
  clear hE2
  refine W.block ?_
  refine W.loop0 9007199254479360 (by rfl) (fun ρ Hz => ∃ (j : Nat) (p : List Nat), ρ 9 = lin j ∧ a ≤ j ∧ j ≤ i ∧ PermR a b l p ∧ InsR f p a i j ∧ Hz = H.upd id (nB g p)) (fun ρ Hz => (iv (ρ 9)).toNat) ?_ ?_
  · exact ⟨i, q, m9, by omega, Nat.le_refl _, hq, .start hS, hHx⟩
  rintro ρ2 Hz ⟨j, p, h9, haj, hj, hp, hIn, hHz⟩
  refine W.env fun E3 hE3 => ?_
  have u0 : E3 0 = .own id g 0 n 1 := by rw [hE3]; simp (config := { maxSteps := 1000000 }) only [go_sem, m0, appendA_U]
  have u1 : E3 1 = lin a := by rw [hE3]; simp (config := { maxSteps := 1000000 }) only [go_sem, m1, appendA_U]
  have u3 : E3 3 = cv := by rw [hE3]; simp (config := { maxSteps := 1000000 }) only [go_sem, m3, appendA_U]
  have u8 : E3 8 = lin i := by rw [hE3]; simp (config := { maxSteps := 1000000 }) only [go_sem, m8, appendA_U]
  have u9 : E3 9 = lin j := by rw [hE3]; simp (config := { maxSteps := 1000000 }) only [go_sem, h9, appendA_U]
  clear hE3
  have T := S.upd hp.1
  rw [← hHz] at T
  have i1 : i < n := by omega
  refine W.seq (W.midN (fun s' => s'.H = Hz ∧ s'.ρ 0 = .own id g 0 n 1 ∧ s'.ρ 8 = lin i ∧ s'.ρ 9 = lin j ∧ s'.ρ 34 = .lit (.bool (decide (a < j) && decide (f (p.getD j 0) < f (p.getD (j - 1) 0))))) ?_ ?_)
  · refine W.draw 14 [0, 0, 3, 7, 15, 15, 15, 111, 239, 15, 15, 1039, 3599, 7695] Tryd.mixed (by kernel_rfl) (by kernel_rfl) ?_
    by_cases hjb : (j : Int) > a
    · have wj : IntKind.i64.wrap ((j : Int) - 1) = ((j - 1 : Nat) : Int) := by rw [IntWalk.i64_in _ (by omega)]; omega
      have b1 : (j : Int) < n := by omega
      have b2 : ((j - 1 : Nat) : Int) < n := by omega
      simp (config := { maxSteps := 1000000 }) only [go_sem, u0, u1, u3, u8, u9, T.live, T.len, hjb, wj, T.cell (show j < n by omega), T.cell (show j - 1 < n by omega), b1, b2, guardA_undef, appendA_U]
      obtain ⟨z, hz, hc⟩ := T.ask (show j < n by omega) (show j - 1 < n by omega)
      refine hc _ ⟨trivial, ?_⟩
      have hd1 : decide (a < j) = true := decide_eq_true (by omega)
      rw [hd1]
      by_cases hlt : f (p.getD j 0) < f (p.getD (j - 1) 0)
      · have hlt' := hz.2 hlt
        simp (config := { maxSteps := 1000000 }) only [go_sem, u0, u8, u9, hlt', hlt, appendA_U]
        try rfl
      · have hlt' : ¬ z < 0 := fun h => hlt (hz.1 h)
        simp (config := { maxSteps := 1000000 }) only [go_sem, u0, u8, u9, hlt', hlt, appendA_U]
        try rfl
    · simp (config := { maxSteps := 1000000 }) only [go_sem, u0, u1, u3, u8, u9, hjb, guardA_undef, appendA_U]
      have hj0 : decide (a < j) = false := decide_eq_false (by omega)
      rw [hj0]
      rfl
  rintro ⟨ρ3, Hq⟩ ⟨hHq, v0, v8, v9, v34⟩
  simp only at hHq v0 v8 v9 v34
  rw [hHq]
  clear hHq Hq
  cases hfl : (decide (a < j) && decide (f (p.getD j 0) < f (p.getD (j - 1) 0))) with
  | false =>
    rw [hfl] at v34
    refine W.cond (t := false) v34 ?_
    refine vc_sound _ _ _ (by rfl) ?_
    simp (config := { maxSteps := 1000000 }) only [go_sem, v8, appendA_U]
    have wi := IntWalk.i64_in ((i : Int) + 1) (by omega)
    have hd : j ≤ a ∨ f (p.getD (j - 1) 0) ≤ f (p.getD j 0) := by
      by_cases h0 : j ≤ a
      · exact .inl h0
      · rw [decide_eq_true (by omega : a < j), Bool.true_and, decide_eq_false_iff_not] at hfl
        exact .inr (by omega)
    have hS' := hIn.done hj hd
    refine vc_sound _ _ _ (by rfl) ?_
    simp (config := { maxSteps := 1000000 }) only [go_sem, v8, wi, appendA_U]
    exact ⟨by rw [hHz, upd_next]; exact Nat.le_refl _, ⟨i + 1, p, rfl, by omega, by omega, hp, hS', hHz⟩, by rw [h8]; simp only [lin, iv_int]; omega⟩
  | true =>
    rw [hfl] at v34
    refine W.cond (t := true) v34 ?_
    have hfl2 : a < j ∧ f (p.getD j 0) < f (p.getD (j - 1) 0) := by simpa using hfl
    have wj : IntKind.i64.wrap ((j : Int) - 1) = ((j - 1 : Nat) : Int) := by rw [IntWalk.i64_in _ (by omega)]; omega
    have b1 : (j : Int) < n := by omega
    have b2 : ((j - 1 : Nat) : Int) < n := by omega
    refine vc_sound _ _ _ (by rfl) ?_
    simp (config := { maxSteps := 1000000 }) only [go_sem, appendA_U]
    refine W.seq (W.block ?_)
    refine W.draw 16 [0, 0, 0, 0, 8, 0, 0, 64, 224, 480, 0, 0, 3072, 7168, 16355, 32739] Tryd.mixed (by kernel_rfl) (by kernel_rfl) ?_
    simp (config := { maxSteps := 1000000 }) only [go_sem, v0, v8, v9, T.live, T.len, wj, T.cell (show j < n by omega), T.cell (show j - 1 < n by omega), b1, b2, T.s1 (show j < n by omega), T.s2 (i := j) (show j - 1 < n by omega), T.len1, T.live1, appendA_U]
    refine ⟨by omega, by omega, vc_sound _ _ _ (by rfl) ?_⟩
    simp (config := { maxSteps := 1000000 }) only [go_sem, v9, wj, appendA_U]
    refine ⟨by rw [hHx, hHz]; simp only [upd_next]; exact Nat.le_refl _, ⟨j - 1, swapL p j (j - 1), rfl, by omega, by omega, hp.trans (.swap (by omega) (by omega) (by omega) (by omega) (by rw [hp.len, S.hl]; exact hb)), hIn.step hj (by rw [hp.len, S.hl]; exact i1) hfl2.1 hfl2.2, ?_⟩, by rw [h9]; simp only [lin, iv_int]; omega⟩
    rw [T.u2, hHz, nB_upd]
end
end Go.Proofs
namespace Go.Proofs
open Go.Hx
section
variable {cv : AVal} {f : Nat → Nat} {rid : Nat} {rb : Blk} {id g n a b : Nat} {l : List Nat} {H : AHeap}
def ParI (f : Nat → Nat) (q : List Nat) (a b i j : Nat) : Prop := a < i ∧ i ≤ j + 1 ∧ j < b ∧ (∀ k, a < k → k < i → f (q.getD k 0) < f (q.getD a 0)) ∧ ∀ k, j < k → k < b → f (q.getD a 0) ≤ f (q.getD k 0)
theorem ParI.done {f : Nat → Nat} {q : List Nat} {a b i j : Nat} (h : ParI f q a b i j) (hij : j < i) (hb : b ≤ q.length) : Parted f (swapL q j a) a b j := by
  obtain ⟨h1, h2, h3, h4, h5⟩ := h
  have g := fun k => swapL_at (l := q) (i := j) (j := a) (by omega) (by omega) k
  have ej : (swapL q j a).getD j 0 = q.getD a 0 := by
    rw [g]
    split
    · rename_i e; rw [e]
    · rw [if_pos rfl]
  refine ⟨fun k k1 k2 => ?_, fun k k1 k2 => ?_⟩
  · rw [ej, g]
    split
    · exact Nat.le_of_lt (h4 j (by omega) (by omega))
    · rw [if_neg (by omega)]; exact Nat.le_of_lt (h4 k (by omega) (by omega))
  · rw [ej, g, if_neg (by omega), if_neg (by omega)]
    exact h5 k k1 k2
theorem ParI.swap {f : Nat → Nat} {q : List Nat} {a b i j : Nat} (h : ParI f q a b i j) (hij : i ≤ j) (hb : b ≤ q.length) (hi : ¬ f (q.getD i 0) < f (q.getD a 0)) (hj : f (q.getD j 0) < f (q.getD a 0)) : i < j ∧ ParI f (swapL q i j) a b (i + 1) (j - 1) := by
  obtain ⟨h1, h2, h3, h4, h5⟩ := h
  have hne : i ≠ j := fun e => hi (e ▸ hj)
  have g := fun k => swapL_at (l := q) (i := i) (j := j) (by omega) (by omega) k
  have ea : (swapL q i j).getD a 0 = q.getD a 0 := by rw [g, if_neg (by omega), if_neg (by omega)]
  refine ⟨by omega, by omega, by omega, by omega, fun k k1 k2 => ?_, fun k k1 k2 => ?_⟩
  · rw [ea, g, if_neg (by omega)]
    split
    · exact hj
    · exact h4 k k1 (by omega)
  · rw [ea, g]
    split
    · exact Nat.le_of_not_lt hi
    · rw [if_neg (by omega)]; exact h5 k (by omega) k2
theorem ParI.scan {f : Nat → Nat} {q : List Nat} {a b i j x y : Nat} (h : ParI f q a b i j) (h1 : i ≤ x) (h2 : x ≤ j + 1) (h3 : ∀ k, i ≤ k → k < x → f (q.getD k 0) < f (q.getD a 0)) (h4 : y ≤ j) (h5 : x ≤ y + 1) (h6 : ∀ k, y < k → k ≤ j → f (q.getD a 0) ≤ f (q.getD k 0)) : ParI f q a b x y := by
  obtain ⟨p1, p2, p3, p4, p5⟩ := h
  refine ⟨by omega, by omega, by omega, fun k k1 k2 => ?_, fun k k1 k2 => ?_⟩
  · rcases Nat.lt_or_ge k i with hk | hk
    · exact p4 k k1 hk
    · exact h3 k hk k2
  · rcases Nat.lt_or_ge j k with hk | hk
    · exact p5 k hk k2
    · exact h6 k k1 hk
set_option maxHeartbeats 16000000 in
theorem partition_spec {p : Nat} (S : SH cv f rid rb id g n l H) (hap : a ≤ p) (hpb : p < b) (hb : b ≤ n) (K : ARes → AHeap → Prop) (hK : ∀ q m fl, PermR a b l q → Parted f q a b m → a ≤ m → m < b → K (.ret (.tup [lin (m : Nat), .lit (.bool fl)])) (H.upd id (nB g q))) :
    ACall Tryd.prog G0 103 [.own id g 0 n 1, lin a, lin b, lin p, cv] H K := by
  have hn := S.hn
  have ba : (a : Int) < n := by omega
  have bp : (p : Int) < n := by omega
  have w0 : IntKind.i64.wrap ((a : Int) + 1) = ((a + 1 : Nat) : Int) := by rw [IntWalk.i64_in _ (by omega)]; omega
  have w1 : IntKind.i64.wrap ((b : Int) - 1) = ((b - 1 : Nat) : Int) := by rw [IntWalk.i64_in _ (by omega)]; omega
  refine ACall.of_bodyW (n := 178) (rs := [.tmp 10, .tmp 11]) Tryd.func103 rfl rfl rfl (by decide) (by simp) ?_
  refine W.seq (vc_sound _ _ _ (by rfl) ?_)
  simp (config := { maxSteps := 1000000 }) only [go_sem, appendA_U]
  refine W.seq ?_
  refine W.draw 14 [0, 0, 0, 0, 0, 0, 48, 112, 0, 0, 768, 1792, 4083, 8179] Tryd.mixed (by kernel_rfl) (by kernel_rfl) ?_
  simp (config := { maxSteps := 1000000 }) only [go_sem, S.live, S.len, S.cell (show a < n by omega), S.cell (show p < n by omega), ba, bp, S.s1 (show a < n by omega), S.s2 (i := a) (show p < n by omega), S.len1, S.live1, appendA_U]
  refine ⟨by omega, by omega, ?_⟩
  rw [S.u2]
  obtain ⟨q0, hq0⟩ : ∃ q0, q0 = swapL l a p := ⟨_, rfl⟩
  rw [← hq0]
  have hp0 : PermR a b l q0 := by rw [hq0]; exact .swap (Nat.le_refl _) (by omega) hap hpb (by rw [S.hl]; exact hb)
  clear hq0
  have T0 := S.upd hp0.1
  obtain ⟨H0, hH0⟩ : ∃ H0, H0 = H.upd id (nB g q0) := ⟨_, rfl⟩
  have n0 : H0.next = H.next := by rw [hH0]; rfl
  rw [← hH0] at T0 ⊢
  refine W.seq (vc_sound _ _ _ (by rfl) ?_)
  simp (config := { maxSteps := 1000000 }) only [go_sem, w0, w1, appendA_U]
  refine W.env fun E hE => ?_
  have e0 : E 0 = .own id g 0 n 1 := by rw [hE]; simp (config := { maxSteps := 1000000 }) only [go_sem, appendA_U]
  have e1 : E 1 = lin a := by rw [hE]; simp (config := { maxSteps := 1000000 }) only [go_sem, appendA_U]
  have e4 : E 4 = cv := by rw [hE]; simp (config := { maxSteps := 1000000 }) only [go_sem, appendA_U]
  have e12 : E 12 = lin ((a + 1 : Nat) : Int) := by rw [hE]; simp (config := { maxSteps := 1000000 }) only [go_sem, w0, appendA_U]
  have e13 : E 13 = lin ((b - 1 : Nat) : Int) := by rw [hE]; simp (config := { maxSteps := 1000000 }) only [go_sem, w1, appendA_U]
  clear hE
  have I0 : ParI f q0 a b (a + 1) (b - 1) := ⟨by omega, by omega, by omega, fun k k1 k2 => by omega, fun k k1 k2 => by omega⟩
  obtain ⟨i0, hi0⟩ : ∃ i0, i0 = a + 1 := ⟨_, rfl⟩
  obtain ⟨j0, hj0⟩ : ∃ j0, j0 = b - 1 := ⟨_, rfl⟩
  rw [← hi0] at e12 I0
  rw [← hj0] at e13 I0
  refine W.midN (fun s' => s'.H = H0 ∧ s'.ρ 0 = .own id g 0 n 1 ∧ s'.ρ 1 = lin a ∧ s'.ρ 4 = cv ∧ s'.ρ 13 = lin j0 ∧ ∃ u : Nat, s'.ρ 12 = lin u ∧ (i0 ≤ u ∧ u ≤ j0 + 1 ∧ ∀ k, i0 ≤ k → k < u → f ((q0).getD k 0) < f ((q0).getD a 0)) ∧ (u ≤ j0 → ¬ f ((q0).getD u 0) < f ((q0).getD a 0))) ?_ ?_
  · refine W.block ?_
    refine W.loop0 1125895611879424 (by kernel_rfl) (fun ρ Hk => Hk = H0 ∧ ∃ u : Nat, ρ 12 = lin u ∧ (i0 ≤ u ∧ u ≤ j0 + 1 ∧ ∀ k, i0 ≤ k → k < u → f ((q0).getD k 0) < f ((q0).getD a 0))) (fun ρ _ => j0 + 1 - (iv (ρ 12)).toNat) ?_ ?_
    · exact ⟨rfl, i0, e12, Nat.le_refl _, by omega, fun k h1 h2 => by omega⟩
    rintro ρ Hk ⟨hHk, u, hx, x1, x2, x3⟩
    rw [hHk]
    refine W.env fun F hF => ?_
    have d0 : F 0 = .own id g 0 n 1 := by rw [hF]; simp (config := { maxSteps := 1000000 }) only [go_sem, e0, appendA_U]
    have d1 : F 1 = lin a := by rw [hF]; simp (config := { maxSteps := 1000000 }) only [go_sem, e1, appendA_U]
    have d4 : F 4 = cv := by rw [hF]; simp (config := { maxSteps := 1000000 }) only [go_sem, e4, appendA_U]
    have d12 : F 12 = lin u := by rw [hF]; simp (config := { maxSteps := 1000000 }) only [go_sem, hx, appendA_U]
    have d13 : F 13 = lin j0 := by rw [hF]; simp (config := { maxSteps := 1000000 }) only [go_sem, e13, appendA_U]
    clear hF
    refine W.seq (W.midN (fun s' => s'.H = H0 ∧ s'.ρ 0 = .own id g 0 n 1 ∧ s'.ρ 1 = lin a ∧ s'.ρ 4 = cv ∧ s'.ρ 12 = lin u ∧ s'.ρ 13 = lin j0 ∧ s'.ρ 47 = .lit (.bool (decide (u ≤ j0) && decide (f ((q0).getD u 0) < f ((q0).getD a 0))))) ?_ ?_)
    · refine W.draw 13 [0, 0, 3, 7, 15, 15, 15, 111, 239, 15, 15, 1551, 3599] Tryd.mixed (by kernel_rfl) (by kernel_rfl) ?_
      by_cases hc : (u : Int) ≤ j0
      · have b1 : (u : Int) < n := by omega
        simp (config := { maxSteps := 1000000 }) only [go_sem, d0, d1, d4, d12, d13, T0.live, T0.len, hc, T0.cell (show u < n by omega), T0.cell (show a < n by omega), b1, ba, guardA_undef, appendA_U]
        obtain ⟨z, hz, hcc⟩ := T0.ask (show u < n by omega) (show a < n by omega)
        refine hcc _ ⟨trivial, ?_⟩
        have hd1 : decide (u ≤ j0) = true := decide_eq_true (by omega)
        rw [hd1]
        by_cases hlt : f ((q0).getD u 0) < f ((q0).getD a 0)
        · have hlt' := hz.2 hlt
          simp (config := { maxSteps := 1000000 }) only [go_sem, d0, d1, d4, d12, d13, hlt', hlt, appendA_U]
          try rfl
        · have hlt' : ¬ z < 0 := fun h => hlt (hz.1 h)
          simp (config := { maxSteps := 1000000 }) only [go_sem, d0, d1, d4, d12, d13, hlt', hlt, appendA_U]
          try rfl
      · simp (config := { maxSteps := 1000000 }) only [go_sem, d0, d1, d4, d12, d13, hc, guardA_undef, appendA_U]
        have hj0 : decide (u ≤ j0) = false := decide_eq_false (by omega)
        rw [hj0]
        rfl
    rintro ⟨ρ3, Hs⟩ ⟨hHs, v0, v1, v4, v12, v13, vc⟩
    simp only at hHs v0 v1 v4 v12 v13 vc
    rw [hHs]
    clear hHs Hs
    cases hfl : (decide (u ≤ j0) && decide (f ((q0).getD u 0) < f ((q0).getD a 0))) with
    | false =>
      rw [hfl] at vc
      refine W.cond (t := false) vc ?_
      refine vc_sound _ _ _ (by rfl) ?_
      simp (config := { maxSteps := 1000000 }) only [go_sem, appendA_U]
      refine ⟨v0, v1, v4, v13, u, v12, ⟨x1, x2, x3⟩, fun h hh => ?_⟩
      rw [decide_eq_true h, decide_eq_true hh] at hfl
      cases hfl
    | true =>
      rw [hfl] at vc
      refine W.cond (t := true) vc ?_
      have hfl2 : (u ≤ j0) ∧ f ((q0).getD u 0) < f ((q0).getD a 0) := by simpa using hfl
      have wx := IntWalk.i64_in ((u : Int) + 1) (by omega)
      refine vc_sound _ _ _ (by rfl) ?_
      simp (config := { maxSteps := 1000000 }) only [go_sem, appendA_U]
      refine vc_sound _ _ _ (by rfl) ?_
      simp (config := { maxSteps := 1000000 }) only [go_sem, v12, v13, wx, appendA_U]
      exact ⟨⟨u + 1, rfl, by omega, by omega, fun k h1 h2 => by
        by_cases hk : k = u
        · rw [hk]; exact hfl2.2
        · exact x3 k h1 (by omega)⟩, by rw [hx]; simp only [lin, iv_int]; omega⟩
  rintro ⟨ρa, Ha⟩ ⟨hHa, a0, a1, a4, a13, x, a12, ⟨x1, x2, x3⟩, x4⟩
  simp only at hHa a0 a1 a4 a13 a12
  rw [hHa]
  clear hHa Ha
  refine W.midN (fun s' => s'.H = H0 ∧ s'.ρ 0 = .own id g 0 n 1 ∧ s'.ρ 1 = lin a ∧ s'.ρ 4 = cv ∧ s'.ρ 12 = lin x ∧ ∃ u : Nat, s'.ρ 13 = lin u ∧ (u ≤ j0 ∧ x ≤ u + 1 ∧ ∀ k, u < k → k ≤ j0 → f ((q0).getD a 0) ≤ f ((q0).getD k 0)) ∧ (x ≤ u → f ((q0).getD u 0) < f ((q0).getD a 0))) ?_ ?_
  · refine W.block ?_
    refine W.loop0 590294684458798817280 (by kernel_rfl) (fun ρ Hk => Hk = H0 ∧ ∃ u : Nat, ρ 13 = lin u ∧ (u ≤ j0 ∧ x ≤ u + 1 ∧ ∀ k, u < k → k ≤ j0 → f ((q0).getD a 0) ≤ f ((q0).getD k 0))) (fun ρ _ => (iv (ρ 13)).toNat) ?_ ?_
    · exact ⟨rfl, j0, a13, Nat.le_refl _, by omega, fun k h1 h2 => by omega⟩
    rintro ρ Hk ⟨hHk, u, hx, x1, x2, x3⟩
    rw [hHk]
    refine W.env fun F hF => ?_
    have d0 : F 0 = .own id g 0 n 1 := by rw [hF]; simp (config := { maxSteps := 1000000 }) only [go_sem, a0, appendA_U]
    have d1 : F 1 = lin a := by rw [hF]; simp (config := { maxSteps := 1000000 }) only [go_sem, a1, appendA_U]
    have d4 : F 4 = cv := by rw [hF]; simp (config := { maxSteps := 1000000 }) only [go_sem, a4, appendA_U]
    have d12 : F 12 = lin x := by rw [hF]; simp (config := { maxSteps := 1000000 }) only [go_sem, a12, appendA_U]
    have d13 : F 13 = lin u := by rw [hF]; simp (config := { maxSteps := 1000000 }) only [go_sem, hx, appendA_U]
    clear hF
    refine W.seq (W.midN (fun s' => s'.H = H0 ∧ s'.ρ 0 = .own id g 0 n 1 ∧ s'.ρ 1 = lin a ∧ s'.ρ 4 = cv ∧ s'.ρ 12 = lin x ∧ s'.ρ 13 = lin u ∧ s'.ρ 66 = .lit (.bool (decide (x ≤ u) && !decide (f ((q0).getD u 0) < f ((q0).getD a 0))))) ?_ ?_)
    · refine W.draw 13 [0, 0, 3, 7, 15, 15, 15, 111, 239, 15, 15, 1551, 3599] Tryd.mixed (by kernel_rfl) (by kernel_rfl) ?_
      by_cases hc : (x : Int) ≤ u
      · have b1 : (u : Int) < n := by omega
        simp (config := { maxSteps := 1000000 }) only [go_sem, d0, d1, d4, d12, d13, T0.live, T0.len, hc, T0.cell (show u < n by omega), T0.cell (show a < n by omega), b1, ba, guardA_undef, appendA_U]
        obtain ⟨z, hz, hcc⟩ := T0.ask (show u < n by omega) (show a < n by omega)
        refine hcc _ ⟨trivial, ?_⟩
        have hd1 : decide (x ≤ u) = true := decide_eq_true (by omega)
        rw [hd1]
        by_cases hlt : f ((q0).getD u 0) < f ((q0).getD a 0)
        · have hlt' := hz.2 hlt
          simp (config := { maxSteps := 1000000 }) only [go_sem, d0, d1, d4, d12, d13, hlt', hlt, appendA_U]
          try rfl
        · have hlt' : ¬ z < 0 := fun h => hlt (hz.1 h)
          simp (config := { maxSteps := 1000000 }) only [go_sem, d0, d1, d4, d12, d13, hlt', hlt, appendA_U]
          try rfl
      · simp (config := { maxSteps := 1000000 }) only [go_sem, d0, d1, d4, d12, d13, hc, guardA_undef, appendA_U]
        have hj0 : decide (x ≤ u) = false := decide_eq_false (by omega)
        rw [hj0]
        rfl
    rintro ⟨ρ3, Hs⟩ ⟨hHs, v0, v1, v4, v12, v13, vc⟩
    simp only at hHs v0 v1 v4 v12 v13 vc
    rw [hHs]
    clear hHs Hs
    cases hfl : (decide (x ≤ u) && !decide (f ((q0).getD u 0) < f ((q0).getD a 0))) with
    | false =>
      rw [hfl] at vc
      refine W.cond (t := false) vc ?_
      refine vc_sound _ _ _ (by rfl) ?_
      simp (config := { maxSteps := 1000000 }) only [go_sem, appendA_U]
      refine ⟨v0, v1, v4, v12, u, v13, ⟨x1, x2, x3⟩, fun h => ?_⟩
      rw [decide_eq_true h, Bool.true_and, Bool.not_eq_false', decide_eq_true_iff] at hfl
      exact hfl
    | true =>
      rw [hfl] at vc
      refine W.cond (t := true) vc ?_
      have hfl2 : (x ≤ u) ∧ ¬ f ((q0).getD u 0) < f ((q0).getD a 0) := by simpa using hfl
      have wx : IntKind.i64.wrap ((u : Int) - 1) = ((u - 1 : Nat) : Int) := by rw [IntWalk.i64_in _ (by omega)]; omega
      refine vc_sound _ _ _ (by rfl) ?_
      simp (config := { maxSteps := 1000000 }) only [go_sem, appendA_U]
      refine vc_sound _ _ _ (by rfl) ?_
      simp (config := { maxSteps := 1000000 }) only [go_sem, v12, v13, wx, appendA_U]
      exact ⟨⟨u - 1, rfl, by omega, by omega, fun k h1 h2 => by
        by_cases hk : k = u
        · rw [hk]; exact Nat.le_of_not_lt hfl2.2
        · exact x3 k (by omega) h2⟩, by rw [hx]; simp only [lin, iv_int]; omega⟩
  rintro ⟨ρb, Hb⟩ ⟨hHb, c0, c1, c4, c12, y, c13, ⟨y1, y2, y3⟩, y4⟩
  simp only at hHb c0 c1 c4 c13 c12
  rw [hHb]
  clear hHb Hb
  have I1 := I0.scan x1 x2 x3 y1 y2 y3
  clear x1 x2 x3 y1 y2 y3 I0
  have yb := I1.2.2.1
  have yn : y < n := by omega
  have xn : x ≤ n := by have := I1.2.1; omega
  have ax : a < x := I1.1
  have ay : a ≤ y := by have := I1.2.1; omega
  have by1 : (y : Int) < n := by omega
  have pl0 := hp0.len
  rw [S.hl] at pl0
  by_cases hxy : (x : Int) > y
  · refine W.seq ?_
    refine vc_sound _ _ _ (by rfl) ?_
    simp (config := { maxSteps := 1000000 }) only [go_sem, c12, c13, hxy, appendA_U]
    refine W.draw 14 [0, 0, 0, 0, 0, 0, 48, 112, 0, 0, 768, 1792, 4083, 8179] Tryd.mixed (by kernel_rfl) (by kernel_rfl) ?_
    simp (config := { maxSteps := 1000000 }) only [go_sem, c0, c1, c13, T0.live, T0.len, T0.cell (show a < n by omega), T0.cell yn, ba, by1, T0.s1 yn, T0.s2 (i := y) (show a < n by omega), T0.len1, T0.live1, appendA_U]
    refine ⟨by omega, by omega, ?_⟩
    rw [T0.u2, hH0, nB_upd]
    exact FinV.mk (Nat.le_refl _) (hK _ y true (hp0.trans (.swap (by omega) (by omega) (Nat.le_refl _) (by omega) (by rw [pl0]; exact hb))) (I1.done (by omega) (by rw [pl0]; exact hb)) ay I1.2.2.1)
  obtain ⟨xy, I2⟩ := I1.swap (by omega) (by rw [pl0]; exact hb) (x4 (by have := I1.2.2.1; omega)) (y4 (by omega))
  have bx1 : (x : Int) < n := by omega
  have wx : IntKind.i64.wrap ((x : Int) + 1) = ((x + 1 : Nat) : Int) := by rw [IntWalk.i64_in _ (by omega)]; omega
  have wy : IntKind.i64.wrap ((y : Int) - 1) = ((y - 1 : Nat) : Int) := by rw [IntWalk.i64_in _ (by omega)]; omega
  refine W.seq ?_
  refine vc_sound _ _ _ (by rfl) ?_
  simp (config := { maxSteps := 1000000 }) only [go_sem, c12, c13, hxy, appendA_U]
  refine W.seq ?_
  refine W.draw 14 [0, 0, 0, 0, 0, 0, 48, 112, 0, 0, 768, 1792, 4083, 8179] Tryd.mixed (by kernel_rfl) (by kernel_rfl) ?_
  simp (config := { maxSteps := 1000000 }) only [go_sem, c0, c12, c13, T0.live, T0.len, T0.cell (show x < n by omega), T0.cell yn, bx1, by1, T0.s1 (show x < n by omega), T0.s2 (i := x) yn, T0.len1, T0.live1, appendA_U]
  refine ⟨by omega, by omega, ?_⟩
  rw [T0.u2]
  refine W.seq (vc_sound _ _ _ (by rfl) ?_)
  simp (config := { maxSteps := 1000000 }) only [go_sem, c12, wx, appendA_U]
  refine W.seq (vc_sound _ _ _ (by rfl) ?_)
  simp (config := { maxSteps := 1000000 }) only [go_sem, c13, wy, appendA_U]
  rw [hH0, nB_upd]
  refine W.env fun E2 hE2 => ?_
  have k0 : E2 0 = .own id g 0 n 1 := by rw [hE2]; simp (config := { maxSteps := 1000000 }) only [go_sem, c0, appendA_U]
  have k1 : E2 1 = lin a := by rw [hE2]; simp (config := { maxSteps := 1000000 }) only [go_sem, c1, appendA_U]
  have k4 : E2 4 = cv := by rw [hE2]; simp (config := { maxSteps := 1000000 }) only [go_sem, c4, appendA_U]
  have k12 : E2 12 = lin ((x + 1 : Nat) : Int) := by rw [hE2]; simp (config := { maxSteps := 1000000 }) only [go_sem, c12, wx, appendA_U]
  have k13 : E2 13 = lin ((y - 1 : Nat) : Int) := by rw [hE2]; simp (config := { maxSteps := 1000000 }) only [go_sem, c13, wy, appendA_U]
  clear hE2
  have hp1 : PermR a b l (swapL q0 x y) := hp0.trans (.swap (by omega) (by have := I1.2.2.1; omega) (by omega) I1.2.2.1 (by rw [pl0]; exact hb))
  refine W.midN (fun s' => ∃ (q : List Nat) (i j : Nat), s'.H = H.upd id (nB g q) ∧ PermR a b l q ∧ ParI f q a b i j ∧ j < i ∧ s'.ρ 0 = .own id g 0 n 1 ∧ s'.ρ 1 = lin a ∧ s'.ρ 13 = lin j) ?_ ?_
  · refine W.block ?_
    refine W.loop0 11692013098647223305064659454426923309352957784064 (by kernel_rfl) (fun ρ Hx => ∃ (q : List Nat) (i j : Nat), ρ 12 = lin i ∧ ρ 13 = lin j ∧ PermR a b l q ∧ ParI f q a b i j ∧ Hx = H.upd id (nB g q)) (fun ρ Hx => (iv (ρ 13)).toNat) ?_ ?_
    · exact ⟨_, _, _, k12, k13, hp1, I2, rfl⟩
    rintro ρq Hx ⟨q, i, j, h12, h13, hp, I, hHx⟩
    refine W.env fun E3 hE3 => ?_
    have m0 : E3 0 = .own id g 0 n 1 := by rw [hE3]; simp (config := { maxSteps := 1000000 }) only [go_sem, k0, appendA_U]
    have m1 : E3 1 = lin a := by rw [hE3]; simp (config := { maxSteps := 1000000 }) only [go_sem, k1, appendA_U]
    have m4 : E3 4 = cv := by rw [hE3]; simp (config := { maxSteps := 1000000 }) only [go_sem, k4, appendA_U]
    have m12 : E3 12 = lin i := by rw [hE3]; simp (config := { maxSteps := 1000000 }) only [go_sem, h12, appendA_U]
    have m13 : E3 13 = lin j := by rw [hE3]; simp (config := { maxSteps := 1000000 }) only [go_sem, h13, appendA_U]
    clear hE3
    have T := S.upd hp.1
    rw [← hHx] at T
    have hxn : Hx.next = H.next := by rw [hHx]; rfl
    have Ib := I.2.2.1
    have Ia := I.1
    have Ij := I.2.1
    refine W.block ?_
    refine W.midN (fun s' => s'.H = Hx ∧ s'.ρ 0 = .own id g 0 n 1 ∧ s'.ρ 1 = lin a ∧ s'.ρ 4 = cv ∧ s'.ρ 13 = lin j ∧ ∃ u : Nat, s'.ρ 12 = lin u ∧ (i ≤ u ∧ u ≤ j + 1 ∧ ∀ k, i ≤ k → k < u → f ((q).getD k 0) < f ((q).getD a 0)) ∧ (u ≤ j → ¬ f ((q).getD u 0) < f ((q).getD a 0))) ?_ ?_
    · refine W.block ?_
      refine W.loop0 10633783401460119679889608587740188672 (by kernel_rfl) (fun ρ Hk => Hk = Hx ∧ ∃ u : Nat, ρ 12 = lin u ∧ (i ≤ u ∧ u ≤ j + 1 ∧ ∀ k, i ≤ k → k < u → f ((q).getD k 0) < f ((q).getD a 0))) (fun ρ _ => j + 1 - (iv (ρ 12)).toNat) ?_ ?_
      · exact ⟨rfl, i, m12, Nat.le_refl _, by omega, fun k h1 h2 => by omega⟩
      rintro ρ Hk ⟨hHk, u, hx, x1, x2, x3⟩
      rw [hHk]
      refine W.env fun F hF => ?_
      have d0 : F 0 = .own id g 0 n 1 := by rw [hF]; simp (config := { maxSteps := 1000000 }) only [go_sem, m0, appendA_U]
      have d1 : F 1 = lin a := by rw [hF]; simp (config := { maxSteps := 1000000 }) only [go_sem, m1, appendA_U]
      have d4 : F 4 = cv := by rw [hF]; simp (config := { maxSteps := 1000000 }) only [go_sem, m4, appendA_U]
      have d12 : F 12 = lin u := by rw [hF]; simp (config := { maxSteps := 1000000 }) only [go_sem, hx, appendA_U]
      have d13 : F 13 = lin j := by rw [hF]; simp (config := { maxSteps := 1000000 }) only [go_sem, m13, appendA_U]
      clear hF
      refine W.seq (W.midN (fun s' => s'.H = Hx ∧ s'.ρ 0 = .own id g 0 n 1 ∧ s'.ρ 1 = lin a ∧ s'.ρ 4 = cv ∧ s'.ρ 12 = lin u ∧ s'.ρ 13 = lin j ∧ s'.ρ 120 = .lit (.bool (decide (u ≤ j) && decide (f ((q).getD u 0) < f ((q).getD a 0))))) ?_ ?_)
      · refine W.draw 13 [0, 0, 3, 7, 15, 15, 15, 111, 239, 15, 15, 1551, 3599] Tryd.mixed (by kernel_rfl) (by kernel_rfl) ?_
        by_cases hc : (u : Int) ≤ j
        · have b1 : (u : Int) < n := by omega
          simp (config := { maxSteps := 1000000 }) only [go_sem, d0, d1, d4, d12, d13, T.live, T.len, hc, T.cell (show u < n by omega), T.cell (show a < n by omega), b1, ba, guardA_undef, appendA_U]
          obtain ⟨z, hz, hcc⟩ := T.ask (show u < n by omega) (show a < n by omega)
          refine hcc _ ⟨trivial, ?_⟩
          have hd1 : decide (u ≤ j) = true := decide_eq_true (by omega)
          rw [hd1]
          by_cases hlt : f ((q).getD u 0) < f ((q).getD a 0)
          · have hlt' := hz.2 hlt
            simp (config := { maxSteps := 1000000 }) only [go_sem, d0, d1, d4, d12, d13, hlt', hlt, appendA_U]
            try rfl
          · have hlt' : ¬ z < 0 := fun h => hlt (hz.1 h)
            simp (config := { maxSteps := 1000000 }) only [go_sem, d0, d1, d4, d12, d13, hlt', hlt, appendA_U]
            try rfl
        · simp (config := { maxSteps := 1000000 }) only [go_sem, d0, d1, d4, d12, d13, hc, guardA_undef, appendA_U]
          have hj0 : decide (u ≤ j) = false := decide_eq_false (by omega)
          rw [hj0]
          rfl
      rintro ⟨ρ3, Hs⟩ ⟨hHs, v0, v1, v4, v12, v13, vc⟩
      simp only at hHs v0 v1 v4 v12 v13 vc
      rw [hHs]
      clear hHs Hs
      cases hfl : (decide (u ≤ j) && decide (f ((q).getD u 0) < f ((q).getD a 0))) with
      | false =>
        rw [hfl] at vc
        refine W.cond (t := false) vc ?_
        refine vc_sound _ _ _ (by rfl) ?_
        simp (config := { maxSteps := 1000000 }) only [go_sem, appendA_U]
        refine ⟨v0, v1, v4, v13, u, v12, ⟨x1, x2, x3⟩, fun h hh => ?_⟩
        rw [decide_eq_true h, decide_eq_true hh] at hfl
        cases hfl
      | true =>
        rw [hfl] at vc
        refine W.cond (t := true) vc ?_
        have hfl2 : (u ≤ j) ∧ f ((q).getD u 0) < f ((q).getD a 0) := by simpa using hfl
        have wx := IntWalk.i64_in ((u : Int) + 1) (by omega)
        refine vc_sound _ _ _ (by rfl) ?_
        simp (config := { maxSteps := 1000000 }) only [go_sem, appendA_U]
        refine vc_sound _ _ _ (by rfl) ?_
        simp (config := { maxSteps := 1000000 }) only [go_sem, v12, v13, wx, appendA_U]
        exact ⟨⟨u + 1, rfl, by omega, by omega, fun k h1 h2 => by
          by_cases hk : k = u
          · rw [hk]; exact hfl2.2
          · exact x3 k h1 (by omega)⟩, by rw [hx]; simp only [lin, iv_int]; omega⟩
    rintro ⟨ρa, Ha⟩ ⟨hHa, a0, a1, a4, a13, x, a12, ⟨x1, x2, x3⟩, x4⟩
    simp only at hHa a0 a1 a4 a13 a12
    rw [hHa]
    clear hHa Ha
    refine W.midN (fun s' => s'.H = Hx ∧ s'.ρ 0 = .own id g 0 n 1 ∧ s'.ρ 1 = lin a ∧ s'.ρ 4 = cv ∧ s'.ρ 12 = lin x ∧ ∃ u : Nat, s'.ρ 13 = lin u ∧ (u ≤ j ∧ x ≤ u + 1 ∧ ∀ k, u < k → k ≤ j → f ((q).getD a 0) ≤ f ((q).getD k 0)) ∧ (x ≤ u → f ((q).getD u 0) < f ((q).getD a 0))) ?_ ?_
    · refine W.block ?_
      refine W.loop0 5575175665808689506056946337705608133746688 (by kernel_rfl) (fun ρ Hk => Hk = Hx ∧ ∃ u : Nat, ρ 13 = lin u ∧ (u ≤ j ∧ x ≤ u + 1 ∧ ∀ k, u < k → k ≤ j → f ((q).getD a 0) ≤ f ((q).getD k 0))) (fun ρ _ => (iv (ρ 13)).toNat) ?_ ?_
      · exact ⟨rfl, j, a13, Nat.le_refl _, by omega, fun k h1 h2 => by omega⟩
      rintro ρ Hk ⟨hHk, u, hx, x1, x2, x3⟩
      rw [hHk]
      refine W.env fun F hF => ?_
      have d0 : F 0 = .own id g 0 n 1 := by rw [hF]; simp (config := { maxSteps := 1000000 }) only [go_sem, a0, appendA_U]
      have d1 : F 1 = lin a := by rw [hF]; simp (config := { maxSteps := 1000000 }) only [go_sem, a1, appendA_U]
      have d4 : F 4 = cv := by rw [hF]; simp (config := { maxSteps := 1000000 }) only [go_sem, a4, appendA_U]
      have d12 : F 12 = lin x := by rw [hF]; simp (config := { maxSteps := 1000000 }) only [go_sem, a12, appendA_U]
      have d13 : F 13 = lin u := by rw [hF]; simp (config := { maxSteps := 1000000 }) only [go_sem, hx, appendA_U]
      clear hF
      refine W.seq (W.midN (fun s' => s'.H = Hx ∧ s'.ρ 0 = .own id g 0 n 1 ∧ s'.ρ 1 = lin a ∧ s'.ρ 4 = cv ∧ s'.ρ 12 = lin x ∧ s'.ρ 13 = lin u ∧ s'.ρ 139 = .lit (.bool (decide (x ≤ u) && !decide (f ((q).getD u 0) < f ((q).getD a 0))))) ?_ ?_)
      · refine W.draw 13 [0, 0, 3, 7, 15, 15, 15, 111, 239, 15, 15, 1551, 3599] Tryd.mixed (by kernel_rfl) (by kernel_rfl) ?_
        by_cases hc : (x : Int) ≤ u
        · have b1 : (u : Int) < n := by omega
          simp (config := { maxSteps := 1000000 }) only [go_sem, d0, d1, d4, d12, d13, T.live, T.len, hc, T.cell (show u < n by omega), T.cell (show a < n by omega), b1, ba, guardA_undef, appendA_U]
          obtain ⟨z, hz, hcc⟩ := T.ask (show u < n by omega) (show a < n by omega)
          refine hcc _ ⟨trivial, ?_⟩
          have hd1 : decide (x ≤ u) = true := decide_eq_true (by omega)
          rw [hd1]
          by_cases hlt : f ((q).getD u 0) < f ((q).getD a 0)
          · have hlt' := hz.2 hlt
            simp (config := { maxSteps := 1000000 }) only [go_sem, d0, d1, d4, d12, d13, hlt', hlt, appendA_U]
            try rfl
          · have hlt' : ¬ z < 0 := fun h => hlt (hz.1 h)
            simp (config := { maxSteps := 1000000 }) only [go_sem, d0, d1, d4, d12, d13, hlt', hlt, appendA_U]
            try rfl
        · simp (config := { maxSteps := 1000000 }) only [go_sem, d0, d1, d4, d12, d13, hc, guardA_undef, appendA_U]
          have hj0 : decide (x ≤ u) = false := decide_eq_false (by omega)
          rw [hj0]
          rfl
      rintro ⟨ρ3, Hs⟩ ⟨hHs, v0, v1, v4, v12, v13, vc⟩
      simp only at hHs v0 v1 v4 v12 v13 vc
      rw [hHs]
      clear hHs Hs
      cases hfl : (decide (x ≤ u) && !decide (f ((q).getD u 0) < f ((q).getD a 0))) with
      | false =>
        rw [hfl] at vc
        refine W.cond (t := false) vc ?_
        refine vc_sound _ _ _ (by rfl) ?_
        simp (config := { maxSteps := 1000000 }) only [go_sem, appendA_U]
        refine ⟨v0, v1, v4, v12, u, v13, ⟨x1, x2, x3⟩, fun h => ?_⟩
        rw [decide_eq_true h, Bool.true_and, Bool.not_eq_false', decide_eq_true_iff] at hfl
        exact hfl
      | true =>
        rw [hfl] at vc
        refine W.cond (t := true) vc ?_
        have hfl2 : (x ≤ u) ∧ ¬ f ((q).getD u 0) < f ((q).getD a 0) := by simpa using hfl
        have wx : IntKind.i64.wrap ((u : Int) - 1) = ((u - 1 : Nat) : Int) := by rw [IntWalk.i64_in _ (by omega)]; omega
        refine vc_sound _ _ _ (by rfl) ?_
        simp (config := { maxSteps := 1000000 }) only [go_sem, appendA_U]
        refine vc_sound _ _ _ (by rfl) ?_
        simp (config := { maxSteps := 1000000 }) only [go_sem, v12, v13, wx, appendA_U]
        exact ⟨⟨u - 1, rfl, by omega, by omega, fun k h1 h2 => by
          by_cases hk : k = u
          · rw [hk]; exact Nat.le_of_not_lt hfl2.2
          · exact x3 k (by omega) h2⟩, by rw [hx]; simp only [lin, iv_int]; omega⟩
    rintro ⟨ρb, Hb⟩ ⟨hHb, c0, c1, c4, c12, y, c13, ⟨y1, y2, y3⟩, y4⟩
    simp only at hHb c0 c1 c4 c13 c12
    rw [hHb]
    clear hHb Hb
    have I1 := I.scan x1 x2 x3 y1 y2 y3
    clear x2 x3 y2 y3 I
    have yb := I1.2.2.1
    have yn : y < n := by omega
    have xn : x ≤ n := by have := I1.2.1; omega
    have ax : a < x := I1.1
    have ay : a ≤ y := by have := I1.2.1; omega
    have by1 : (y : Int) < n := by omega
    have pl0 := hp.len
    rw [S.hl] at pl0
    by_cases hxy : (x : Int) > y
    · refine vc_sound _ _ _ (by rfl) ?_
      simp (config := { maxSteps := 1000000 }) only [go_sem, c12, c13, hxy, appendA_U]
      exact ⟨q, x, y, hHx, hp, I1, by omega, c0, c1, rfl⟩
    obtain ⟨xy, I2⟩ := I1.swap (by omega) (by rw [pl0]; exact hb) (x4 (by omega)) (y4 (by omega))
    have bx1 : (x : Int) < n := by omega
    have wx : IntKind.i64.wrap ((x : Int) + 1) = ((x + 1 : Nat) : Int) := by rw [IntWalk.i64_in _ (by omega)]; omega
    have wy : IntKind.i64.wrap ((y : Int) - 1) = ((y - 1 : Nat) : Int) := by rw [IntWalk.i64_in _ (by omega)]; omega
    refine W.seq ?_
    refine vc_sound _ _ _ (by rfl) ?_
    simp (config := { maxSteps := 1000000 }) only [go_sem, c12, c13, hxy, appendA_U]
    refine W.seq ?_
    refine W.draw 14 [0, 0, 0, 0, 0, 0, 48, 112, 0, 0, 768, 1792, 4083, 8179] Tryd.mixed (by kernel_rfl) (by kernel_rfl) ?_
    simp (config := { maxSteps := 1000000 }) only [go_sem, c0, c12, c13, T.live, T.len, T.cell (show x < n by omega), T.cell yn, bx1, by1, T.s1 (show x < n by omega), T.s2 (i := x) yn, T.len1, T.live1, appendA_U]
    refine ⟨by omega, by omega, ?_⟩
    rw [T.u2]
    refine vc_sound _ _ _ (by rfl) ?_
    simp (config := { maxSteps := 1000000 }) only [go_sem, c12, c13, wx, wy, appendA_U]
    refine ⟨by simp only [upd_next]; omega, ⟨swapL q x y, x + 1, y - 1, rfl, rfl, hp.trans (.swap (by omega) (by omega) (by omega) (by omega) (by rw [pl0]; exact hb)), I2, ?_⟩, by rw [h13]; simp only [lin, iv_int]; omega⟩
    rw [hHx, nB_upd]
  rintro ⟨ρd, Hd⟩ ⟨q, i, j, hHd, hp, I, hji, q0', q1, q13⟩
  simp only at hHd q0' q1 q13
  have T := S.upd hp.1
  rw [← hHd] at T
  have Ib := I.2.2.1
  have Ia := I.1
  have Ij := I.2.1
  have jn : j < n := by omega
  have bj : (j : Int) < n := by omega
  have pl := hp.len
  rw [S.hl] at pl
  refine W.seq ?_
  refine W.draw 14 [0, 0, 0, 0, 0, 0, 48, 112, 0, 0, 768, 1792, 4083, 8179] Tryd.mixed (by kernel_rfl) (by kernel_rfl) ?_
  simp (config := { maxSteps := 1000000 }) only [go_sem, q0', q1, q13, T.live, T.len, T.cell (show a < n by omega), T.cell jn, ba, bj, T.s1 jn, T.s2 (i := j) (show a < n by omega), T.len1, T.live1, appendA_U]
  refine ⟨by omega, by omega, ?_⟩
  rw [T.u2]
  refine vc_sound _ _ _ (by rfl) ?_
  simp (config := { maxSteps := 1000000 }) only [go_sem, q13, appendA_U]
  rw [hHd, nB_upd]
  exact FinV.mk (Nat.le_refl _) (hK _ j false (hp.trans (.swap (by omega) (by omega) (Nat.le_refl _) (by omega) (by rw [pl]; exact hb))) (I.done hji (by rw [pl]; exact hb)) (by omega) Ib)
end
end Go.Proofs
