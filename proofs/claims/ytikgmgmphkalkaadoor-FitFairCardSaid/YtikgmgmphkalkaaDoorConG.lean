/- Own work: contracts. -/
import Derived.Test.YtikgmgmphkalkaaDoorConD
set_option linter.all false
set_option maxRecDepth 100000
namespace Go.Proofs
open Go.Hx
def nB (g : Nat) (q : List Nat) : Blk := .arr g 3 (ints (natsJ q))
def CmpOk (cv : AVal) (f : Nat → Nat) (l : List Nat) (Inv : AHeap → Prop) : Prop := ∀ a b, a ∈ l → b ∈ l → ∀ Hx, Inv Hx → ∃ z : Int, (z < 0 ↔ f a < f b) ∧ ∀ K, K (.ret (lin z)) Hx → AApply Tryd.prog G0 cv [lin (a : Nat), lin (b : Nat)] Hx K
set_option maxHeartbeats 4000000 in
theorem insSort_spec {cv : AVal} {f : Nat → Nat} {Inv : AHeap → Prop} {id g : Nat} {l : List Nat} (hl : l.length ≤ 64) (h2 : 2 ≤ l.length) (H : AHeap) (hid : H.get id = some (nB g l)) (hInv : ∀ q, Inv (H.upd id (nB g q))) (hcmp : CmpOk cv f l Inv) (K : ARes → AHeap → Prop)
    (hK : ∀ l', l'.Perm l → Srt f l' l.length → K (.ret (.tup [])) (H.upd id (nB g l'))) :
    ACall Tryd.prog G0 96 [.own id g 0 l.length 1, lin 0, lin l.length, cv] H K := by
  refine ACall.of_bodyW (n := 53) (rs := []) Tryd.func96 rfl rfl rfl (by decide) (by simp) ?_
  refine W.seq (vc_sound _ _ _ (by rfl) ?_)
  simp (config := { maxSteps := 1000000 }) only [go_sem, appendA_U]
  refine W.env fun E hE => ?_
  have e0 : E 0 = .own id g 0 l.length 1 := by rw [hE]; simp (config := { maxSteps := 1000000 }) only [go_sem, appendA_U]
  have e1 : E 1 = lin 0 := by rw [hE]; simp (config := { maxSteps := 1000000 }) only [go_sem, appendA_U]
  have e2 : E 2 = lin l.length := by rw [hE]; simp (config := { maxSteps := 1000000 }) only [go_sem, appendA_U]
  have e3 : E 3 = cv := by rw [hE]; simp (config := { maxSteps := 1000000 }) only [go_sem, appendA_U]
  have e8 : E 8 = lin 1 := by rw [hE]; simp (config := { maxSteps := 1000000 }) only [go_sem, appendA_U]; rfl
  clear hE
  refine W.block ?_
  refine W.loop0 9007199254737664 (by rfl) (fun ρ Hx => ∃ (i : Nat) (q : List Nat), ρ 8 = lin i ∧ 1 ≤ i ∧ i ≤ l.length ∧ q.Perm l ∧ Srt f q i ∧ Hx = H.upd id (nB g q)) (fun ρ Hx => l.length - (iv (ρ 8)).toNat) ?_ ?_
  · exact ⟨1, l, e8, by omega, by omega, .refl _, fun a b h1 h2 => by omega, (upd_self hid).symm⟩
  rintro ρ Hx ⟨i, q, h8, hi1, hi, hq, hS, hHx⟩
  have ql := hq.length_eq
  refine W.env fun E1 hE1 => ?_
  have f0 : E1 0 = .own id g 0 l.length 1 := by rw [hE1]; simp (config := { maxSteps := 1000000 }) only [go_sem, e0, appendA_U]
  have f1 : E1 1 = lin 0 := by rw [hE1]; simp (config := { maxSteps := 1000000 }) only [go_sem, e1, appendA_U]
  have f2 : E1 2 = lin l.length := by rw [hE1]; simp (config := { maxSteps := 1000000 }) only [go_sem, e2, appendA_U]
  have f3 : E1 3 = cv := by rw [hE1]; simp (config := { maxSteps := 1000000 }) only [go_sem, e3, appendA_U]
  have f8 : E1 8 = lin i := by rw [hE1]; simp (config := { maxSteps := 1000000 }) only [go_sem, h8, appendA_U]
  clear hE1
  by_cases hb : (i : Int) < l.length
  rotate_left
  · refine vc_sound _ _ _ (by rfl) ?_
    simp (config := { maxSteps := 1000000 }) only [go_sem, f8, f2, hb, appendA_U]
    have hii : i = l.length := by omega
    rw [hii] at hS
    rw [hHx]
    exact FinV.mk (by rw [upd_next]; exact Nat.le_refl _) (hK q hq hS)
  refine W.seq (vc_sound _ _ _ (by rfl) ?_)
  simp (config := { maxSteps := 1000000 }) only [go_sem, f8, f2, hb, appendA_U]
  refine W.seq (W.block ?_)
  refine W.seq (vc_sound _ _ _ (by rfl) ?_)
  simp (config := { maxSteps := 1000000 }) only [go_sem, f8, appendA_U]
  refine W.env fun E2 hE2 => ?_
  have m0 : E2 0 = .own id g 0 l.length 1 := by rw [hE2]; simp (config := { maxSteps := 1000000 }) only [go_sem, f0, appendA_U]
  have m1 : E2 1 = lin 0 := by rw [hE2]; simp (config := { maxSteps := 1000000 }) only [go_sem, f1, appendA_U]
  have m3 : E2 3 = cv := by rw [hE2]; simp (config := { maxSteps := 1000000 }) only [go_sem, f3, appendA_U]
  have m8 : E2 8 = lin i := by rw [hE2]; simp (config := { maxSteps := 1000000 }) only [go_sem, f8, appendA_U]
  have m9 : E2 9 = lin i := by rw [hE2]; simp (config := { maxSteps := 1000000 }) only [go_sem, f8, appendA_U]
  clear hE2
  refine W.block ?_
  refine W.loop0 9007199254479360 (by rfl) (fun ρ Hz => ∃ (j : Nat) (p : List Nat), ρ 9 = lin j ∧ j ≤ i ∧ p.Perm l ∧ Ins f p i j ∧ Hz = H.upd id (nB g p)) (fun ρ Hz => (iv (ρ 9)).toNat) ?_ ?_
  · exact ⟨i, q, m9, Nat.le_refl _, hq, ins_start hS, hHx⟩
  rintro ρ2 Hz ⟨j, p, h9, hj, hp, hIn, hHz⟩
  have pl := hp.length_eq
  refine W.env fun E3 hE3 => ?_
  have u0 : E3 0 = .own id g 0 l.length 1 := by rw [hE3]; simp (config := { maxSteps := 1000000 }) only [go_sem, m0, appendA_U]
  have u1 : E3 1 = lin 0 := by rw [hE3]; simp (config := { maxSteps := 1000000 }) only [go_sem, m1, appendA_U]
  have u3 : E3 3 = cv := by rw [hE3]; simp (config := { maxSteps := 1000000 }) only [go_sem, m3, appendA_U]
  have u8 : E3 8 = lin i := by rw [hE3]; simp (config := { maxSteps := 1000000 }) only [go_sem, m8, appendA_U]
  have u9 : E3 9 = lin j := by rw [hE3]; simp (config := { maxSteps := 1000000 }) only [go_sem, h9, appendA_U]
  clear hE3
  have gz : Hz.get id = some (.arr g 3 (ints (natsJ p))) := by rw [hHz, upd_get, if_pos rfl]; rfl
  have lz := get_live gz
  have plen : (ints (natsJ p)).length = l.length := by rw [ints_length, natsJ_len, pl]
  have hIz : Inv Hz := by rw [hHz]; exact hInv p
  have ptg : ∀ {i k : Nat}, p[i]? = some k → (ints (natsJ p))[i]? = some (lin k) := fun h => by rw [ints_get, natsJ_get h]; rfl
  refine W.seq (W.midN (fun s' => s'.H = Hz ∧ s'.ρ 0 = .own id g 0 l.length 1 ∧ s'.ρ 8 = lin i ∧ s'.ρ 9 = lin j ∧ s'.ρ 34 = .lit (.bool (decide (0 < j) && decide (f (p.getD j 0) < f (p.getD (j - 1) 0))))) ?_ ?_)
  · refine W.draw 14 [0, 0, 3, 7, 15, 15, 15, 111, 239, 15, 15, 1039, 3599, 7695] Tryd.mixed (by kernel_rfl) (by kernel_rfl) ?_
    by_cases hjb : (j : Int) > 0
    · have wj := IntWalk.i64_in ((j : Int) - 1) (by omega)
      have cj : ((j : Int) - 1).toNat = j - 1 := by omega
      have gj := ptg (lget (l := p) (i := j) (by omega))
      have gj1 := ptg (lget (l := p) (i := j - 1) (by omega))
      have gjn := ne_of_get gj
      have gj1n := ne_of_get gj1
      have b1 : (j : Int) < l.length := by omega
      have b2 : (j : Int) - 1 < l.length := by omega
      have b3 : (0 : Int) ≤ (j : Int) - 1 := by omega
      simp (config := { maxSteps := 1000000 }) only [go_sem, u0, u1, u3, u8, u9, lz, plen, hjb, wj, cj, gj, gj1, gjn, gj1n, b1, b2, b3, guardA_undef, appendA_U]
      obtain ⟨z, hz, hc⟩ := hcmp (p.getD j 0) (p.getD (j - 1) 0) (hp.mem_iff.1 (List.mem_of_getElem? (lget (by omega)))) (hp.mem_iff.1 (List.mem_of_getElem? (lget (by omega)))) Hz hIz
      refine hc _ ⟨trivial, ?_⟩
      have hd1 : decide (0 < j) = true := decide_eq_true (by omega)
      rw [hd1]
      by_cases hlt : f (p.getD j 0) < f (p.getD (j - 1) 0)
      · have hlt' := hz.2 hlt
        simp (config := { maxSteps := 1000000 }) only [go_sem, u0, u8, u9, hlt', hlt, appendA_U]
        try rfl
      · have hlt' : ¬ z < 0 := fun h => hlt (hz.1 h)
        simp (config := { maxSteps := 1000000 }) only [go_sem, u0, u8, u9, hlt', hlt, appendA_U]
        try rfl
    · simp (config := { maxSteps := 1000000 }) only [go_sem, u0, u1, u3, u8, u9, lz, plen, hjb, guardA_undef, appendA_U]
      have hj0 : j = 0 := by omega
      subst hj0
      rfl
  rintro ⟨ρ3, Hq⟩ ⟨hHq, v0, v8, v9, v34⟩
  simp only at hHq v0 v8 v9 v34
  rw [hHq]
  clear hHq Hq
  cases hfl : (decide (0 < j) && decide (f (p.getD j 0) < f (p.getD (j - 1) 0))) with
  | false =>
    rw [hfl] at v34
    refine W.cond (t := false) v34 ?_
    refine vc_sound _ _ _ (by rfl) ?_
    simp (config := { maxSteps := 1000000 }) only [go_sem, v8, appendA_U]
    have wi := IntWalk.i64_in ((i : Int) + 1) (by omega)
    have hd : j = 0 ∨ f (p.getD (j - 1) 0) ≤ f (p.getD j 0) := by
      by_cases h0 : j = 0
      · exact .inl h0
      · rw [decide_eq_true (by omega : 0 < j), Bool.true_and, decide_eq_false_iff_not] at hfl
        exact .inr (by omega)
    have hS' := ins_done hIn hj hd
    refine vc_sound _ _ _ (by rfl) ?_
    simp (config := { maxSteps := 1000000 }) only [go_sem, v8, wi, appendA_U]
    exact ⟨by rw [hHz, upd_next]; exact Nat.le_refl _, ⟨i + 1, p, rfl, by omega, by omega, hp, hS', hHz⟩, by rw [h8]; simp only [lin, iv_int]; omega⟩
  | true =>
    rw [hfl] at v34
    refine W.cond (t := true) v34 ?_
    have hfl2 : 0 < j ∧ f (p.getD j 0) < f (p.getD (j - 1) 0) := by simpa using hfl
    have wj := IntWalk.i64_in ((j : Int) - 1) (by omega)
    have cj : ((j : Int) - 1).toNat = j - 1 := by omega
    have gj := ptg (lget (l := p) (i := j) (by omega))
    have gj1 := ptg (lget (l := p) (i := j - 1) (by omega))
    have gjn := ne_of_get gj
    have gj1n := ne_of_get gj1
    have b1 : (j : Int) < l.length := by omega
    have b2 : (j : Int) - 1 < l.length := by omega
    have b3 : (0 : Int) ≤ (j : Int) - 1 := by omega
    have s1 : setAt (ints (natsJ p)) j [.lit (.int .i64 ((p.getD (j - 1) 0 : Nat) : Int))] = ints (natsJ (p.set j (p.getD (j - 1) 0))) := by rw [setAt_ints (by rw [natsJ_len]; omega), natsJ_set]
    have s2 : setAt (ints (natsJ (p.set j (p.getD (j - 1) 0)))) (j - 1) [.lit (.int .i64 ((p.getD j 0 : Nat) : Int))] = ints (natsJ (swapL p j (j - 1))) := by rw [setAt_ints (by rw [natsJ_len, List.length_set]; omega), natsJ_set]; rfl
    have plen2 : (ints (natsJ (p.set j (p.getD (j - 1) 0)))).length = l.length := by rw [ints_length, natsJ_len, List.length_set, pl]
    have lz2 : (Hz.upd id (.arr g 3 (ints (natsJ (p.set j (p.getD (j - 1) 0)))))).live id g = some (3, ints (natsJ (p.set j (p.getD (j - 1) 0)))) := get_live (by rw [upd_get, if_pos rfl])
    refine vc_sound _ _ _ (by rfl) ?_
    simp (config := { maxSteps := 1000000 }) only [go_sem, appendA_U]
    refine W.seq (W.block ?_)
    refine W.draw 16 [0, 0, 0, 0, 8, 0, 0, 64, 224, 480, 0, 0, 3072, 7168, 16355, 32739] Tryd.mixed (by kernel_rfl) (by kernel_rfl) ?_
    simp (config := { maxSteps := 1000000 }) only [go_sem, v0, v8, v9, lz, plen, wj, cj, gj, gj1, gjn, gj1n, b1, b2, b3, s1, s2, plen2, lz2, appendA_U]
    refine ⟨by omega, by omega, vc_sound _ _ _ (by rfl) ?_⟩
    simp (config := { maxSteps := 1000000 }) only [go_sem, v9, wj, appendA_U]
    refine ⟨by rw [hHx, hHz]; simp only [upd_next]; exact Nat.le_refl _, ⟨j - 1, swapL p j (j - 1), ?_, by omega, (swapL_perm (by omega) (by omega)).trans hp, ins_step hIn hj (by omega) hfl2.1 hfl2.2, ?_⟩, by rw [h9]; simp only [lin, iv_int]; omega⟩
    · congr 2; omega
    · rw [hHz]
      unfold nB
      rw [upd_upd, upd_upd]
theorem wpo_str {s : ByteArray} {i : Nat} {F : AVal → Prop} (hs : s.size = 256) (hi : i < 256) (h : ∀ L : Nat, L < 256 → F (.lit (.int .u8 (L : Int)))) : wpo (indexA Tryd.prog 9 (.lit (.string s)) (.lit (.int .u8 (i : Int)))) F := by
  have ix : indexA Tryd.prog 9 (.lit (.string s)) (.lit (.int .u8 (i : Int))) = some (.lit (.int .u8 (((s[i]!).toNat : Nat) : Int))) := by
    unfold indexA
    simp only []
    have e1 : s[i]? = some s[i]! := by
      rw [getElem!_pos s i (by omega)]
      exact getElem?_pos s i (by omega)
    have ht : Tryd.prog.underlying 9 = some .string := Tryd.underlying9
    simp [Instr.index, asIntOf, underlying, program, ht, pureRun, bind, Sem.bind, pure, e1]
  rw [ix, wpo_some]
  exact h _ (UInt8.toNat_lt _)
theorem len64_some {n : Nat} (h12 : n ≤ 12) (H : AHeap) (K : ARes → AHeap → Prop) (hK : ∀ L : Nat, L < 256 → K (.ret (lin L)) H) : ACall Tryd.prog G0 105 [.lit (.int .u64 (n : Int))] H K := by
  have h1 : ¬ (4294967296 : Int) ≤ (n : Int) := by omega
  have h2 : ¬ (65536 : Int) ≤ (n : Int) := by omega
  have h3 : ¬ (256 : Int) ≤ (n : Int) := by omega
  have ww : IntKind.u8.wrap ((n : Nat) : Int) = (n : Int) := by simp [IntKind.wrap, IntKind.bits, IntKind.signed]; omega
  refine ACall.of_bodyW (n := 25) (rs := [.tmp 2]) Tryd.func105 rfl rfl rfl (by decide) (by simp) ?_
  refine W.seq (vc_sound _ _ _ (by rfl) ?_)
  simp (config := { maxSteps := 1000000 }) only [go_sem, h1, h2, h3, ww, appendA_U]
  refine W.seq (vc_sound _ _ _ (by rfl) ?_)
  simp (config := { maxSteps := 1000000 }) only [go_sem, h1, h2, h3, ww, appendA_U]
  refine W.seq (vc_sound _ _ _ (by rfl) ?_)
  simp (config := { maxSteps := 1000000 }) only [go_sem, h1, h2, h3, ww, appendA_U]
  refine W.seq (vc_sound _ _ _ (by rfl) ?_)
  simp (config := { maxSteps := 1000000 }) only [go_sem, h1, h2, h3, ww, appendA_U]
  refine vc_sound _ _ _ (by rfl) ?_
  simp (config := { maxSteps := 1000000 }) only [go_sem, h1, h2, h3, ww, appendA_U]
  refine wpo_str (by kernel_rfl) (by omega) fun L hL => ?_
  have w : IntKind.i64.wrap (0 + (L : Int)) = (L : Int) := by rw [Int.zero_add]; exact IntWalk.i64_in (L : Int) (by omega)
  have w0 := IntWalk.i64_in (L : Int) (by omega)
  simp (config := { maxSteps := 1000000 }) only [go_sem, w0, w, appendA_U]
  exact FinV.mk (Nat.le_refl _) (hK L hL)
theorem len_some {n : Nat} (h12 : n ≤ 12) (H : AHeap) (K : ARes → AHeap → Prop) (hK : ∀ L : Nat, L < 256 → K (.ret (lin L)) H) : ACall Tryd.prog G0 81 [.lit (.int .u64 (n : Int))] H K := by
  refine ACall.of_bodyW (n := 8) (rs := [.tmp 2]) Tryd.func81 rfl rfl rfl (by decide) (by simp) ?_
  refine vc_sound _ _ _ (by rfl) ?_
  simp (config := { maxSteps := 1000000 }) only [go_sem, appendA_U]
  refine AApply.clo (len64_some h12 H _ fun L hL => ⟨trivial, ?_⟩)
  simp (config := { maxSteps := 1000000 }) only [go_sem, appendA_U]
  exact FinV.mk (Nat.le_refl _) (hK L hL)
theorem pdq_spec {v cv : AVal} {n L : Nat} {Q : AHeap → Prop} (h12 : n ≤ 12) (H : AHeap) (hQ : ∀ H', Q H' → H.next ≤ H'.next) (hc : ∀ K' : ARes → AHeap → Prop, (∀ H', Q H' → K' (.ret (.tup [])) H') → ACall Tryd.prog G0 96 [v, lin 0, lin n, cv] H K')
    (K : ARes → AHeap → Prop) (hK : ∀ H', Q H' → K (.ret (.tup [])) H') :
    ACall Tryd.prog G0 80 [v, lin 0, lin n, lin L, cv] H K := by
  have wn : IntKind.i64.wrap ((n : Int) - 0) = (n : Int) := by rw [Int.sub_zero]; exact IntWalk.i64_in (n : Int) (by omega)
  have hb : (n : Int) ≤ 12 := by omega
  refine ACall.of_bodyW (n := 148) (rs := []) Tryd.func80 rfl rfl rfl (by decide) (by simp) ?_
  refine W.seq (vc_sound _ _ _ (by rfl) ?_)
  simp (config := { maxSteps := 1000000 }) only [go_sem, appendA_U]
  refine W.seq (vc_sound _ _ _ (by rfl) ?_)
  simp (config := { maxSteps := 1000000 }) only [go_sem, appendA_U]
  refine W.env fun E hE => ?_
  have e0 : E 0 = v := by rw [hE]; simp (config := { maxSteps := 1000000 }) only [go_sem, appendA_U]
  have e1 : E 1 = lin 0 := by rw [hE]; simp (config := { maxSteps := 1000000 }) only [go_sem, appendA_U]
  have e2 : E 2 = lin n := by rw [hE]; simp (config := { maxSteps := 1000000 }) only [go_sem, appendA_U]
  have e4 : E 4 = cv := by rw [hE]; simp (config := { maxSteps := 1000000 }) only [go_sem, appendA_U]
  clear hE
  refine W.block ?_
  refine W.loop0 356811923176489970264571492362373784095685646 (by kernel_rfl) (fun ρ Hx => ρ 0 = v ∧ ρ 1 = lin 0 ∧ ρ 2 = lin n ∧ ρ 4 = cv ∧ Hx = H) (fun ρ Hx => 0) ?_ ?_
  · exact ⟨e0, e1, e2, e4, rfl⟩
  rintro ρ Hx ⟨h0, h1, h2, h4, hHx⟩
  refine W.env fun E1 hE1 => ?_
  have f0 : E1 0 = v := by rw [hE1]; simp (config := { maxSteps := 1000000 }) only [go_sem, h0, e0, appendA_U]
  have f1 : E1 1 = lin 0 := by rw [hE1]; simp (config := { maxSteps := 1000000 }) only [go_sem, h1, appendA_U]
  have f2 : E1 2 = lin n := by rw [hE1]; simp (config := { maxSteps := 1000000 }) only [go_sem, h2, appendA_U]
  have f4 : E1 4 = cv := by rw [hE1]; simp (config := { maxSteps := 1000000 }) only [go_sem, h4, e4, appendA_U]
  clear hE1
  rw [hHx]
  refine W.block ?_
  refine W.seq (vc_sound _ _ _ (by rfl) ?_)
  simp (config := { maxSteps := 1000000 }) only [go_sem, f1, f2, wn, appendA_U]
  refine W.seq (vc_sound _ _ _ (by rfl) ?_)
  simp (config := { maxSteps := 1000000 }) only [go_sem, hb, f0, f1, f2, f4, appendA_U]
  refine AApply.clo (hc _ fun H' hq => ⟨trivial, ?_⟩)
  simp (config := { maxSteps := 1000000 }) only [go_sem, appendA_U]
  exact FinV.mk (hQ H' hq) (hK H' hq)
theorem sortF_spec {v cv : AVal} {cs : List AVal} {n : Nat} {Q : AHeap → Prop} (h12 : n ≤ 12) (H : AHeap) (hQ : ∀ H', Q H' → H.next ≤ H'.next) (hv : OwnG 0 H 3 v cs) (hn : cs.length = n) (hc : ∀ K' : ARes → AHeap → Prop, (∀ H', Q H' → K' (.ret (.tup [])) H') → ACall Tryd.prog G0 96 [v, lin 0, lin n, cv] H K')
    (K : ARes → AHeap → Prop) (hK : ∀ H', Q H' → K (.ret (.tup [])) H') :
    ACall Tryd.prog G0 47 [v, cv] H K := by
  have wn : IntKind.u64.wrap ((n : Nat) : Int) = (n : Int) := by simp [IntKind.wrap, IntKind.bits, IntKind.signed]; omega
  have w2 := IntWalk.i64_in (n : Int) (by omega)
  have go : ∀ v : AVal, (v = .lit (.slice none 0 0) ∧ n = 0 ∨ ∃ id g cs, v = .own id g 0 n 1 ∧ cs.length = n ∧ H.live id g = some (3, cs)) → (∀ K' : ARes → AHeap → Prop, (∀ H', Q H' → K' (.ret (.tup [])) H') → ACall Tryd.prog G0 96 [v, lin 0, lin n, cv] H K') → ACall Tryd.prog G0 47 [v, cv] H K := fun v hv hc => by
    rcases hv with ⟨rfl, rfl⟩ | ⟨id, g, cs, rfl, hcl2, lv⟩
    · refine ACall.of_bodyW (n := 14) (rs := []) Tryd.func47 rfl rfl rfl (by decide) (by simp) ?_
      refine W.seq (vc_sound _ _ _ (by rfl) ?_)
      simp (config := { maxSteps := 1000000 }) only [go_sem, appendA_U]
      refine vc_sound _ _ _ (by rfl) ?_
      simp (config := { maxSteps := 1000000 }) only [go_sem, wn, appendA_U]
      refine AApply.clo (len_some (n := 0) h12 H _ fun L hL => ⟨trivial, ?_⟩)
      simp (config := { maxSteps := 1000000 }) only [go_sem, appendA_U]
      refine AApply.clo (pdq_spec h12 H hQ hc _ fun H' hq => ⟨trivial, ?_⟩)
      simp (config := { maxSteps := 1000000 }) only [go_sem, appendA_U]
      exact FinV.mk (hQ H' hq) (hK H' hq)
    · refine ACall.of_bodyW (n := 14) (rs := []) Tryd.func47 rfl rfl rfl (by decide) (by simp) ?_
      refine W.seq (vc_sound _ _ _ (by rfl) ?_)
      simp (config := { maxSteps := 1000000 }) only [go_sem, lv, hcl2, appendA_U]
      refine vc_sound _ _ _ (by rfl) ?_
      simp (config := { maxSteps := 1000000 }) only [go_sem, wn, appendA_U]
      refine AApply.clo (len_some h12 H _ fun L hL => ⟨trivial, ?_⟩)
      simp (config := { maxSteps := 1000000 }) only [go_sem, appendA_U]
      refine AApply.clo (pdq_spec h12 H hQ hc _ fun H' hq => ⟨trivial, ?_⟩)
      simp (config := { maxSteps := 1000000 }) only [go_sem, appendA_U]
      exact FinV.mk (hQ H' hq) (hK H' hq)
  refine go v ?_ hc
  rcases hv with ⟨h1, h2⟩ | ⟨id, g, _, _, h3, h4⟩
  · rw [h2] at hn; exact .inl ⟨h1, hn.symm⟩
  · rw [hn] at h3; exact .inr ⟨id, g, cs, h3, hn, get_live h4⟩
theorem insShort_spec {v cv : AVal} {n : Nat} (h1 : n ≤ 1) (H : AHeap) (K : ARes → AHeap → Prop) (hK : K (.ret (.tup [])) H) :
    ACall Tryd.prog G0 96 [v, lin 0, lin n, cv] H K := by
  have hb : ¬ (1 : Int) < (n : Int) := by omega
  refine ACall.of_bodyW (n := 53) (rs := []) Tryd.func96 rfl rfl rfl (by decide) (by simp) ?_
  refine W.seq (vc_sound _ _ _ (by rfl) ?_)
  simp (config := { maxSteps := 1000000 }) only [go_sem, appendA_U]
  refine W.env fun E hE => ?_
  have e2 : E 2 = lin n := by rw [hE]; simp (config := { maxSteps := 1000000 }) only [go_sem, appendA_U]
  have e8 : E 8 = lin 1 := by rw [hE]; simp (config := { maxSteps := 1000000 }) only [go_sem, appendA_U]; rfl
  clear hE
  refine W.block ?_
  refine W.loop0 9007199254737664 (by rfl) (fun ρ Hx => ρ 8 = lin 1 ∧ Hx = H) (fun ρ Hx => 0) ?_ ?_
  · exact ⟨e8, rfl⟩
  rintro ρ Hx ⟨h8, hHx⟩
  refine W.env fun E1 hE1 => ?_
  have f2 : E1 2 = lin n := by rw [hE1]; simp (config := { maxSteps := 1000000 }) only [go_sem, e2, appendA_U]
  have f8 : E1 8 = lin 1 := by rw [hE1]; simp (config := { maxSteps := 1000000 }) only [go_sem, h8, appendA_U]
  clear hE1
  rw [hHx]
  refine vc_sound _ _ _ (by rfl) ?_
  simp (config := { maxSteps := 1000000 }) only [go_sem, f8, f2, hb, appendA_U]
  exact FinV.mk (Nat.le_refl _) hK
end Go.Proofs
set_option linter.unusedVariables false
namespace Go.Proofs
theorem mem_take_succ {l : List Nat} {m i : Nat} (hi : l[m]? = some i) (a : Nat) : a ∈ l.take (m + 1) ↔ a ∈ l.take m ∨ a = i := by
  rw [List.take_add_one, hi]
  simp
theorem not_mem_take {l : List Nat} (hnd : l.Nodup) {m i : Nat} (hi : l[m]? = some i) : i ∉ l.take m := fun h => by
  obtain ⟨j, hj⟩ := List.mem_iff_getElem?.1 h
  have hjm : j < m := by
    have := get_lt hj
    rw [List.length_take] at this
    omega
  rw [List.getElem?_take_of_lt hjm] at hj
  have := (List.getElem?_inj (get_lt hj) hnd).1 (hj.trans hi.symm)
  omega
theorem shares_none (least sp : Int) (c : List Int) (l : List Nat) : sharesM least sp c (fun a => decide (a ∈ l.take 0)) = (List.range c.length).map fun i => least + partAt sp c i := by
  unfold sharesM
  refine List.map_congr_left fun i _ => ?_
  simp
theorem shares_at {least sp : Int} {c : List Int} {l : List Nat} (hnd : l.Nodup) {m i : Nat} (hi : l[m]? = some i) (hic : i < c.length) : (sharesM least sp c fun a => decide (a ∈ l.take m))[i]? = some (least + partAt sp c i) := by
  rw [shares_get hic, decide_eq_false (not_mem_take hnd hi)]
  simp
theorem shares_step {least sp : Int} {c : List Int} {l : List Nat} (hnd : l.Nodup) {m i : Nat} (hi : l[m]? = some i) (hic : i < c.length) : (sharesM least sp c fun a => decide (a ∈ l.take m)).set i (least + partAt sp c i + 1) = sharesM least sp c fun a => decide (a ∈ l.take (m + 1)) := by
  apply List.ext_getElem?
  intro a
  rw [List.getElem?_set]
  by_cases h : i = a
  · subst h
    rw [if_pos rfl, if_pos (by rw [shares_len]; exact hic), shares_get hic, decide_eq_true ((mem_take_succ hi i).2 (.inr rfl))]
    simp
  · rw [if_neg h]
    rcases Nat.lt_or_ge a c.length with ha | ha
    · rw [shares_get ha, shares_get ha]
      congr 2
      have : (a ∈ l.take (m + 1)) ↔ a ∈ l.take m := by rw [mem_take_succ hi]; exact ⟨fun h' => h'.elim id fun e => absurd e.symm h, .inl⟩
      simp only [this]
    · rw [List.getElem?_eq_none (by rw [shares_len]; exact ha), List.getElem?_eq_none (by rw [shares_len]; exact ha)]
theorem part_pos {sp : Int} {c : List Int} (h : 0 < c.sum) {i : Nat} {x : Int} (hx : c[i]? = some x) : partAt sp c i = sp * x / c.sum ∧ restAt sp c i = sp * x % c.sum := by
  unfold partAt restAt effC effT
  rw [if_pos h, if_pos h, List.getD_eq_getElem?_getD, hx]
  exact ⟨rfl, rfl⟩
theorem part_zero {sp : Int} {c : List Int} (h : ¬ 0 < c.sum) {i : Nat} (hi : i < c.length) : partAt sp c i = sp / c.length ∧ restAt sp c i = sp % c.length := by
  unfold partAt restAt effC effT
  rw [if_neg h, if_neg h, List.getD_eq_getElem?_getD, List.getElem?_replicate, if_pos hi]
  simp
def leftK (sp : Int) (c : List Int) (k : Nat) : Int := sp - ((List.range k).map (partAt sp c)).sum
theorem leftK_succ (sp : Int) (c : List Int) (k : Nat) : leftK sp c (k + 1) = leftK sp c k - partAt sp c k := by
  unfold leftK
  rw [List.range_succ, List.map_append, List.sum_append]
  simp
  omega
theorem part_le {sp : Int} {c : List Int} (hc : ∀ x ∈ c, 0 ≤ x) (h0 : 0 < c.length) (hs : 0 ≤ sp) (i : Nat) : partAt sp c i ≤ sp := by
  have hT := effT_pos h0
  refine Int.ediv_le_of_le_mul hT ?_
  have : (effC c).getD i 0 ≤ effT c := by
    rw [List.getD_eq_getElem?_getD]
    cases e : (effC c)[i]? with
    | none => exact Int.le_of_lt hT
    | some a =>
      have := sum_ge_mem (effC_nonneg hc) a (List.mem_of_getElem? e)
      rw [effC_sum] at this
      exact this
  exact Int.mul_le_mul_of_nonneg_left this hs
theorem leftK_rng {sp : Int} {c : List Int} (hc : ∀ x ∈ c, 0 ≤ x) (h0 : 0 < c.length) (hs : 0 ≤ sp) (k : Nat) : leftK sp c k ≤ sp ∧ sp - sp * k ≤ leftK sp c k := by
  induction k with
  | zero => simp [leftK]
  | succ k ih =>
    rw [leftK_succ]
    have h1 := part_nn hc h0 hs k
    have h2 := part_le hc h0 hs k
    have h3 : sp * ((k + 1 : Nat) : Int) = sp * k + sp := by push_cast; rw [Int.mul_add, Int.mul_one]
    omega
end Go.Proofs
namespace Go.Proofs
open Go.Hx
theorem compare_ok {id g n : Nat} {rs : List Int} (hn : rs.length = n) (hr : ∀ x ∈ rs, 0 ≤ x ∧ x < 1125899906842624) (hn6 : n ≤ 64) {T : Nat} (hT : ∀ i, i < n → 0 ≤ rs.getD i 0 ∧ rs.getD i 0 < T) {l : List Nat} (hl : ∀ a ∈ l, a < n) :
    CmpOk (.clo 48 [.own id g 0 n 1] []) (rankF (fun i => rs.getD i 0) T n) l (fun Hx => Hx.get id = some (.arr g 3 (ints rs))) := by
  intro a b ha hb Hx hI
  have ha := hl a ha
  have hb := hl b hb
  obtain ⟨x, hx⟩ := get_of_lt (l := rs) (i := a) (by omega)
  obtain ⟨y, hy⟩ := get_of_lt (l := rs) (i := b) (by omega)
  have hxr := hr x (List.mem_of_getElem? hx)
  have hyr := hr y (List.mem_of_getElem? hy)
  have ex : rs.getD a 0 = x := by rw [List.getD_eq_getElem?_getD, hx]; rfl
  have ey : rs.getD b 0 = y := by rw [List.getD_eq_getElem?_getD, hy]; rfl
  have hxn := ne_of_get hx
  have hyn := ne_of_get hy
  have lv := get_live hI
  have hil := ints_length rs
  rw [hn] at hil
  have bx : (a : Int) < n := by omega
  have by' : (b : Int) < n := by omega
  have w1 := IntWalk.i64_in (y - x) (by omega)
  have w2 := IntWalk.i64_in ((a : Int) - (b : Int)) (by omega)
  refine ⟨if x = y then (a : Int) - b else y - x, ?_, fun K hK => AApply.clo ?_⟩
  · rw [rank_lt hT ha hb]
    unfold before
    simp only [ex, ey]
    split <;> omega
  simp only [List.cons_append, List.nil_append, List.append_nil]
  refine ACall.of_bodyW (n := 28) (rs := [.tmp 6]) Tryd.func48 rfl rfl rfl (by decide) (by simp) ?_
  refine W.seq (vc_sound _ _ _ (by rfl) ?_)
  simp (config := { maxSteps := 1000000 }) only [go_sem, appendA_U]
  refine W.seq (W.midN (fun s' => s'.H = Hx ∧ s'.ρ 0 = .own id g 0 n 1 ∧ s'.ρ 1 = lin a ∧ s'.ρ 2 = lin b ∧ s'.ρ 15 = .lit (.bool (!decide (x = y)))) ?_ ?_)
  · refine W.draw 8 [0, 0, 3, 7, 0, 0, 48, 112] Tryd.mixed (by kernel_rfl) (by kernel_rfl) ?_
    simp (config := { maxSteps := 1000000 }) only [go_sem, lv, hil, hx, hy, hxn, hyn, bx, by', appendA_U]
  rintro ⟨ρ, Hq⟩ ⟨hHq, q0, q1, q2, q15⟩
  simp only at hHq q0 q1 q2 q15
  rw [hHq]
  by_cases hxy : x = y
  · rw [if_pos hxy] at hK
    rw [decide_eq_true hxy] at q15
    refine W.cond (t := false) q15 ?_
    refine vc_sound _ _ _ (by rfl) ?_
    simp (config := { maxSteps := 1000000 }) only [go_sem, q1, q2, w2, appendA_U]
    refine vc_sound _ _ _ (by rfl) ?_
    simp (config := { maxSteps := 1000000 }) only [go_sem, q1, q2, w2, appendA_U]
    exact FinV.mk (Nat.le_refl _) hK
  · rw [if_neg hxy] at hK
    rw [decide_eq_false hxy] at q15
    refine W.cond (t := true) q15 ?_
    refine W.seq ?_
    refine W.draw 8 [0, 0, 3, 7, 0, 0, 48, 112] Tryd.mixed (by kernel_rfl) (by kernel_rfl) ?_
    simp (config := { maxSteps := 1000000 }) only [go_sem, q0, q1, q2, lv, hil, hx, hy, hxn, hyn, bx, by', w1, appendA_U]
    refine vc_sound _ _ _ (by rfl) ?_
    simp (config := { maxSteps := 1000000 }) only [go_sem, appendA_U]
    exact FinV.mk (Nat.le_refl _) hK
theorem sum_take_succ {c : List Int} {i : Nat} {x : Int} (h : c[i]? = some x) : (c.take (i + 1)).sum = (c.take i).sum + x := by rw [take_succ_get h]; simp
theorem sum_take_rng {c : List Int} (hc : ∀ x ∈ c, 0 ≤ x ∧ x ≤ 1099511627776) (i : Nat) : 0 ≤ (c.take i).sum ∧ (c.take i).sum ≤ 1099511627776 * (c.take i).length := by
  have : ∀ l : List Int, (∀ x ∈ l, 0 ≤ x ∧ x ≤ 1099511627776) → 0 ≤ l.sum ∧ l.sum ≤ 1099511627776 * l.length := by
    intro l
    induction l with
    | nil => intro _; simp
    | cons a l ih =>
      intro h
      have h1 := h a (by simp)
      have h2 := ih fun x hx => h x (by simp [hx])
      rw [List.sum_cons, List.length_cons]
      omega
  exact this _ fun x hx => hc x (List.mem_of_mem_take hx)
set_option maxHeartbeats 8000000 in
theorem round_own {c : List Int} {grain least : Int} {cid cg n : Nat} (hn : c.length = n) (h0 : 1 ≤ n) (hl : n ≤ 12) (hc : ∀ x ∈ c, 0 ≤ x ∧ x ≤ 1099511627776) (hg : 1 ≤ grain ∧ grain ≤ 720) (hle : 0 ≤ least ∧ least ≤ 720) (H : AHeap) (hcl : H.get cid = some (.arr cg 3 (ints c))) (hcn : cid < H.next) (K : ARes → AHeap → Prop)
    (hE : grain < least * n → K (.ret (.tup [.lit (.slice none 0 0), lin 2])) H)
    (hK : ∀ s v H', least * n ≤ grain → ShareOk least (spareOf grain least c) c s → Over H H' → OwnG H.next H' 3 v (ints s) → K (.ret (.tup [v, lin 0])) H') :
    ACall Tryd.prog G0 10 [.own cid cg 0 n 1, lin grain, lin least] H K := by
  have lc := get_live hcl
  have hil := ints_length c
  rw [hn] at hil
  have b1 : ¬ (n : Int) < 1 := by omega
  have b2 : ¬ (n : Int) > 1024 := by omega
  refine ACall.of_bodyW (n := 144) (rs := [.tmp 6, .tmp 7]) Tryd.func10 rfl rfl rfl (by decide) (by simp) ?_
  refine W.seq (vc_sound _ _ _ (by rfl) ?_)
  simp (config := { maxSteps := 1000000 }) only [go_sem, appendA_U]
  refine W.seq (vc_sound _ _ _ (by rfl) ?_)
  simp (config := { maxSteps := 1000000 }) only [go_sem, lc, hil, b1, b2, appendA_U]
  refine W.seq (vc_sound _ _ _ (by rfl) ?_)
  simp (config := { maxSteps := 1000000 }) only [go_sem, appendA_U]
  refine W.seq (vc_sound _ _ _ (by rfl) ?_)
  simp (config := { maxSteps := 1000000 }) only [go_sem, lc, hil, appendA_U]
  refine W.env fun E hE1 => ?_
  have e0 : E 0 = .own cid cg 0 n 1 := by rw [hE1]; simp (config := { maxSteps := 1000000 }) only [go_sem, appendA_U]
  have e1 : E 1 = lin grain := by rw [hE1]; simp (config := { maxSteps := 1000000 }) only [go_sem, appendA_U]
  have e2 : E 2 = lin least := by rw [hE1]; simp (config := { maxSteps := 1000000 }) only [go_sem, appendA_U]
  have e8 : E 8 = lin 0 := by rw [hE1]; simp (config := { maxSteps := 1000000 }) only [go_sem, appendA_U]
  have e30 : E 30 = .own cid cg 0 n 1 := by rw [hE1]; simp (config := { maxSteps := 1000000 }) only [go_sem, appendA_U]
  have e31 : E 31 = lin n := by rw [hE1]; simp (config := { maxSteps := 1000000 }) only [go_sem, lc, hil, appendA_U]
  have e32 : E 32 = lin 0 := by rw [hE1]; simp (config := { maxSteps := 1000000 }) only [go_sem, appendA_U]
  clear hE1
  refine W.loop0 70364449211840 (by rfl) (fun ρ Hx => Hx = H ∧ ∃ i : Nat, ρ 32 = lin i ∧ i ≤ n ∧ ρ 8 = lin (c.take i).sum) (fun ρ Hx => n - (iv (ρ 32)).toNat) ?_ ?_
  · exact ⟨rfl, 0, e32, by omega, e8⟩
  rintro ρ Hx ⟨hHx, i, h32, hi, h8⟩
  rw [hHx]
  refine W.env fun E1 hE1 => ?_
  have f0 : E1 0 = .own cid cg 0 n 1 := by rw [hE1]; simp (config := { maxSteps := 1000000 }) only [go_sem, e0, appendA_U]
  have f1 : E1 1 = lin grain := by rw [hE1]; simp (config := { maxSteps := 1000000 }) only [go_sem, e1, appendA_U]
  have f2 : E1 2 = lin least := by rw [hE1]; simp (config := { maxSteps := 1000000 }) only [go_sem, e2, appendA_U]
  have f8 : E1 8 = lin (c.take i).sum := by rw [hE1]; simp (config := { maxSteps := 1000000 }) only [go_sem, h8, appendA_U]
  have f30 : E1 30 = .own cid cg 0 n 1 := by rw [hE1]; simp (config := { maxSteps := 1000000 }) only [go_sem, e30, appendA_U]
  have f31 : E1 31 = lin n := by rw [hE1]; simp (config := { maxSteps := 1000000 }) only [go_sem, e31, appendA_U]
  have f32 : E1 32 = lin i := by rw [hE1]; simp (config := { maxSteps := 1000000 }) only [go_sem, h32, appendA_U]
  clear hE1
  have hsr := sum_take_rng hc i
  have htl : ((c.take i).length : Int) ≤ 12 := by rw [List.length_take]; omega
  by_cases hb : (i : Int) < n
  · obtain ⟨x, hx⟩ := get_of_lt (l := c) (i := i) (by omega)
    have hxr := hc x (List.mem_of_getElem? hx)
    have hxn := ne_of_get hx
    have x1 : ¬ x < 0 := by omega
    have x2 : ¬ x > 1099511627776 := by omega
    have w1 := IntWalk.i64_in ((c.take i).sum + x) (by omega)
    have w2 := IntWalk.i64_in ((i : Int) + 1) (by omega)
    refine vc_sound _ _ _ (by rfl) ?_
    simp (config := { maxSteps := 1000000 }) only [go_sem, f8, f30, f31, f32, hb, lc, hil, hx, hxn, x1, x2, w1, w2, appendA_U]
    exact ⟨⟨i + 1, rfl, by omega, by rw [sum_take_succ hx]⟩, by rw [h32]; simp only [lin, iv_int]; omega⟩
  have hin : i = n := by omega
  rw [hin, ← hn, List.take_length] at f8 hsr
  have g1 : ¬ grain < 1 := by omega
  have g2 : ¬ grain > 720 := by omega
  have g3 : ¬ least < 0 := by omega
  have gn : ¬ (n : Int) = 0 := by omega
  have gt : grain.tdiv n = grain / n := Int.tdiv_eq_ediv_of_nonneg (by omega)
  have gw := IntWalk.i64_in (grain / n) (by have := Int.ediv_nonneg (a := grain) (b := n) (by omega) (by omega); have := Int.ediv_le_self (a := grain) n (by omega); omega)
  refine vc_sound _ _ _ (by rfl) ?_
  simp (config := { maxSteps := 1000000 }) only [go_sem, f31, f32, hb, appendA_U]
  by_cases hfit : grain < least * n
  · have g4 : least > grain / n := by
      refine Classical.byContradiction fun h => ?_
      have := (Int.le_ediv_iff_mul_le (show (0 : Int) < n by omega)).1 (Int.not_lt.1 h)
      omega
    refine W.seq (vc_sound _ _ _ (by rfl) ?_)
    simp (config := { maxSteps := 1000000 }) only [go_sem, f0, f1, f2, g1, g2, g3, lc, hil, gn, gt, gw, g4, appendA_U]
    exact FinV.mk (Nat.le_refl _) (hE hfit)
  have g4 : ¬ least > grain / n := fun h => by
    have := (Int.le_ediv_iff_mul_le (show (0 : Int) < n by omega)).2 (Int.not_lt.1 hfit)
    omega
  refine W.seq (vc_sound _ _ _ (by rfl) ?_)
  simp (config := { maxSteps := 1000000 }) only [go_sem, f0, f1, f2, g1, g2, g3, lc, hil, gn, gt, gw, g4, appendA_U]
  have m0 : 0 ≤ least * n := Int.mul_nonneg hle.1 (by omega)
  have wm := IntWalk.i64_in (least * (n : Int)) (by omega)
  have wsb := IntWalk.i64_in (grain - least * (n : Int)) (by omega)
  obtain ⟨sp, hsp⟩ : ∃ sp, sp = grain - least * n := ⟨_, rfl⟩
  have hsp' : spareOf grain least c = sp := by unfold spareOf; rw [hn, hsp]
  rw [← hsp] at wsb
  have sp0 : 0 ≤ sp ∧ sp ≤ 720 := by omega
  refine W.seq (vc_sound _ _ _ (by rfl) ?_)
  simp (config := { maxSteps := 1000000 }) only [go_sem, f0, f1, f2, lc, hil, wm, ← hsp, wsb, appendA_U]
  refine W.seq (vc_sound _ _ _ (by rfl) ?_)
  simp (config := { maxSteps := 1000000 }) only [go_sem, appendA_U]
  refine W.seq (vc_sound _ _ _ (by rfl) ?_)
  simp (config := { maxSteps := 1000000 }) only [go_sem, f0, lc, hil, appendA_U]
  have lcE : ∀ L, (ext H L).live cid cg = some (3, ints c) := fun L => (ext_live_old hcn).trans lc
  refine ⟨⟨by omega, by omega⟩, ?_⟩
  refine W.seq (vc_sound _ _ _ (by rfl) ?_)
  simp (config := { maxSteps := 1000000 }) only [go_sem, f0, lcE, hil, appendA_U]
  refine ⟨⟨by omega, by omega⟩, ?_⟩
  refine W.seq (vc_sound _ _ _ (by rfl) ?_)
  simp (config := { maxSteps := 1000000 }) only [go_sem, f0, lcE, hil, appendA_U]
  refine ⟨⟨by omega, by omega⟩, ?_⟩
  refine W.seq (vc_sound _ _ _ (by rfl) ?_)
  simp (config := { maxSteps := 1000000 }) only [go_sem, f0, lcE, hil, appendA_U]
  have hz : List.replicate n (AVal.lit (.int .i64 0)) = ints (List.replicate n 0) := by simp only [ints, List.map_replicate]; rfl
  rw [hz]
  obtain ⟨H1, hH1⟩ : ∃ H1, H1 = ext H [.arr 0 3 (ints (List.replicate n 0)), .arr 0 3 (ints (List.replicate n 0)), .arr 0 3 (ints (List.replicate n 0))] := ⟨_, rfl⟩
  have ga : H1.get H.next = some (.arr 0 3 (ints (List.replicate n 0))) := by rw [hH1]; exact get_ext H _ 0 (by simp)
  have gb : H1.get (H.next + 1) = some (.arr 0 3 (ints (List.replicate n 0))) := by rw [hH1]; exact get_ext H _ 1 (by simp)
  have go : H1.get (H.next + 2) = some (.arr 0 3 (ints (List.replicate n 0))) := by rw [hH1]; exact get_ext H _ 2 (by simp)
  have n1 : H1.next = H.next + 3 := by rw [hH1]; rfl
  have o1 : Over H H1 := by rw [hH1]; exact .ext _ _
  rw [← hH1]
  refine W.env fun E2 hE2 => ?_
  have a0 : E2 0 = .own cid cg 0 n 1 := by rw [hE2]; simp (config := { maxSteps := 1000000 }) only [go_sem, f0, appendA_U]
  have a2 : E2 2 = lin least := by rw [hE2]; simp (config := { maxSteps := 1000000 }) only [go_sem, f2, appendA_U]
  have a8 : E2 8 = lin c.sum := by rw [hE2]; simp (config := { maxSteps := 1000000 }) only [go_sem, f8, appendA_U]
  have a11 : E2 11 = lin sp := by rw [hE2]; simp (config := { maxSteps := 1000000 }) only [go_sem, wm, ← hsp, wsb, appendA_U]
  have a12 : E2 12 = lin sp := by rw [hE2]; simp (config := { maxSteps := 1000000 }) only [go_sem, wm, ← hsp, wsb, appendA_U]
  have a13 : E2 13 = .own H.next 0 0 n 1 := by rw [hE2]; simp (config := { maxSteps := 1000000 }) only [go_sem, appendA_U]
  have a14 : E2 14 = .own (H.next + 1) 0 0 n 1 := by rw [hE2]; simp (config := { maxSteps := 1000000 }) only [go_sem, appendA_U]
  have a15 : E2 15 = .own (H.next + 2) 0 0 n 1 := by rw [hE2]; simp (config := { maxSteps := 1000000 }) only [go_sem, appendA_U]
  have a80 : E2 80 = .own cid cg 0 n 1 := by rw [hE2]; simp (config := { maxSteps := 1000000 }) only [go_sem, f0, appendA_U]
  have a81 : E2 81 = lin n := by rw [hE2]; simp (config := { maxSteps := 1000000 }) only [go_sem, f0, lcE, hil, appendA_U]
  have a82 : E2 82 = lin 0 := by rw [hE2]; simp (config := { maxSteps := 1000000 }) only [go_sem, appendA_U]
  clear hE2 hH1
  have hrs := fun k => leftK_rng (sp := sp) (c := c) (fun x h => (hc x h).1) (by omega) sp0.1 k
  have hpn := fun k => part_nn (c := c) (fun x h => (hc x h).1) (by omega) sp0.1 k
  have hpl := fun k => part_le (c := c) (fun x h => (hc x h).1) (by omega) sp0.1 k
  have hrb := fun k => rest_bound (sp := sp) (c := c) (by omega) k
  have hT : effT c < 1125899906842624 := by unfold effT; split <;> omega
  refine W.loop0 21267647932553818263182454447787675648 (by kernel_rfl) (fun ρ Hx => ∃ (i : Nat) (A B O : List Int), ρ 82 = lin i ∧ i ≤ n ∧ ρ 12 = lin (leftK sp c i) ∧ Hx.next = H1.next ∧ (∀ j, j < H.next → Hx.get j = H.get j) ∧ Hx.get H.next = some (.arr 0 3 (ints A)) ∧ Hx.get (H.next + 1) = some (.arr 0 3 (ints B)) ∧ Hx.get (H.next + 2) = some (.arr 0 3 (ints O)) ∧
    (A.length = n ∧ B.length = n ∧ O.length = n) ∧ ∀ j, j < i → A[j]? = some (least + partAt sp c j) ∧ B[j]? = some (restAt sp c j) ∧ O[j]? = some (j : Int)) (fun ρ Hx => n - (iv (ρ 82)).toNat) ?_ ?_
  · exact ⟨0, _, _, _, a82, by omega, a12.trans (by unfold leftK; simp), rfl, fun j h => o1.old j h, ga, gb, go, by simp, fun j h => absurd h (Nat.not_lt_zero _)⟩
  rintro ρ2 Hx ⟨k, A, B, O, h82, hk, h12, nx, hold, xa, xb, xo, ⟨lA, lB, lO⟩, hall⟩
  refine W.env fun E3 hE3 => ?_
  have d0 : E3 0 = .own cid cg 0 n 1 := by rw [hE3]; simp (config := { maxSteps := 1000000 }) only [go_sem, a0, appendA_U]
  have d2 : E3 2 = lin least := by rw [hE3]; simp (config := { maxSteps := 1000000 }) only [go_sem, a2, appendA_U]
  have d8 : E3 8 = lin c.sum := by rw [hE3]; simp (config := { maxSteps := 1000000 }) only [go_sem, a8, appendA_U]
  have d11 : E3 11 = lin sp := by rw [hE3]; simp (config := { maxSteps := 1000000 }) only [go_sem, a11, appendA_U]
  have d12 : E3 12 = lin (leftK sp c k) := by rw [hE3]; simp (config := { maxSteps := 1000000 }) only [go_sem, h12, appendA_U]
  have d13 : E3 13 = .own H.next 0 0 n 1 := by rw [hE3]; simp (config := { maxSteps := 1000000 }) only [go_sem, a13, appendA_U]
  have d14 : E3 14 = .own (H.next + 1) 0 0 n 1 := by rw [hE3]; simp (config := { maxSteps := 1000000 }) only [go_sem, a14, appendA_U]
  have d15 : E3 15 = .own (H.next + 2) 0 0 n 1 := by rw [hE3]; simp (config := { maxSteps := 1000000 }) only [go_sem, a15, appendA_U]
  have d80 : E3 80 = .own cid cg 0 n 1 := by rw [hE3]; simp (config := { maxSteps := 1000000 }) only [go_sem, a80, appendA_U]
  have d81 : E3 81 = lin n := by rw [hE3]; simp (config := { maxSteps := 1000000 }) only [go_sem, a81, appendA_U]
  have d82 : E3 82 = lin k := by rw [hE3]; simp (config := { maxSteps := 1000000 }) only [go_sem, h82, appendA_U]
  clear hE3
  have lcx := get_live ((hold cid hcn).trans hcl)
  by_cases hb2 : (k : Int) < n
  rotate_left
  · have hkn : k = n := by omega
    refine vc_sound _ _ _ (by rfl) ?_
    simp (config := { maxSteps := 1000000 }) only [go_sem, d81, d82, hb2, appendA_U]
    rw [hkn] at d12 hall
    have eA : A = sharesM least sp c fun a => decide (a ∈ ([] : List Nat).take 0) := by
      rw [shares_none]
      apply List.ext_getElem?
      intro j
      rcases Nat.lt_or_ge j n with h | h
      · rw [(hall j h).1, List.getElem?_map, List.getElem?_range (by omega)]; rfl
      · rw [List.getElem?_eq_none (by omega), List.getElem?_eq_none (by simp; omega)]
    have eO : O = natsJ (List.range n) := by
      apply List.ext_getElem?
      intro j
      rcases Nat.lt_or_ge j n with h | h
      · rw [(hall j h).2.2, natsJ_get (List.getElem?_range h)]
      · rw [List.getElem?_eq_none (by omega), List.getElem?_eq_none (by rw [natsJ_len, List.length_range]; omega)]
    have eB : ∀ j, j < n → B.getD j 0 = restAt sp c j := fun j h => by rw [List.getD_eq_getElem?_getD, (hall j h).2.1]; rfl
    rw [eO] at xo
    obtain ⟨T, hTe⟩ := Int.eq_ofNat_of_zero_le (Int.le_of_lt (effT_pos (c := c) (by omega)))
    have hBr : ∀ x ∈ B, 0 ≤ x ∧ x < 1125899906842624 := fun x hx => by
      obtain ⟨j, hj⟩ := List.mem_iff_getElem?.1 hx
      have hjn := get_lt hj
      rw [(hall j (by omega)).2.1] at hj
      cases hj
      have := hrb j
      omega
    have hBT : ∀ j, j < n → 0 ≤ B.getD j 0 ∧ B.getD j 0 < T := fun j h => by
      rw [eB j h, ← hTe]
      exact hrb j
    have hcmp := compare_ok (id := H.next + 1) (g := 0) lB hBr (by omega) hBT (l := List.range n) (fun a h => List.mem_range.1 h)
    have xon : Hx.get (H.next + 2) = some (nB 0 (List.range n)) := xo
    refine W.seq (vc_sound _ _ _ (by rfl) ?_)
    simp (config := { maxSteps := 1000000 }) only [go_sem, d14, d15, appendA_U]
    refine AApply.clo (sortF_spec (n := n) (v := .own (H.next + 2) 0 0 n 1) (cs := ints (natsJ (List.range n))) (Q := fun H' => ∃ l : List Nat, l.Perm (List.range n) ∧ Srt (rankF (fun i => B.getD i 0) T n) l l.length ∧ H' = Hx.upd (H.next + 2) (nB 0 l)) (by omega) Hx (fun H' ⟨l, _, _, e⟩ => by rw [e, upd_next]; exact Nat.le_refl _) (.inr ⟨H.next + 2, 0, Nat.zero_le _, by omega, by rw [ints_length, natsJ_len, List.length_range], xo⟩) (by rw [ints_length, natsJ_len, List.length_range]) (fun K' hK' => ?_) _ fun H4 ⟨l, hp, hs, hH4⟩ => ⟨trivial, ?_⟩)
    · rcases Nat.lt_or_ge n 2 with h | h
      · exact insShort_spec (by omega) Hx K' (hK' Hx ⟨List.range n, .refl _, fun a b h1 h2 => by rw [List.length_range] at h2; omega, (upd_self xon).symm⟩)
      · have hrl : (List.range n).length = n := List.length_range
        have := insSort_spec (cv := .clo 48 [.own (H.next + 1) 0 0 n 1] []) (f := rankF (fun i => B.getD i 0) T n) (id := H.next + 2) (g := 0) (l := List.range n) (Inv := fun Hx => Hx.get (H.next + 1) = some (.arr 0 3 (ints B))) (by omega) (by omega) Hx xon (fun q => by rw [upd_get, if_neg (by omega)]; exact xb) hcmp K' fun l' h1 h2 => hK' _ ⟨l', h1, by rw [h1.length_eq]; exact h2, rfl⟩
        rw [hrl] at this
        exact this
    have hpw := srt_before (r := fun i => B.getD i 0) (T := T) (n := n) hBT hp hs
    have pl := hp.length_eq
    rw [List.length_range] at pl
    have hlm : ∀ a ∈ l, a < n := fun a h => List.mem_range.1 (hp.mem_iff.1 h)
    have hnd : l.Nodup := hp.nodup_iff.2 List.nodup_range
    have n4 : H4.next = Hx.next := by rw [hH4, upd_next]
    have g4o : H4.get (H.next + 2) = some (.arr 0 3 (ints (natsJ l))) := by rw [hH4, upd_get, if_pos rfl]; rfl
    have g4a : H4.get H.next = some (.arr 0 3 (ints (sharesM least sp c fun a => decide (a ∈ l.take 0)))) := by rw [hH4, upd_get, if_neg (by omega), xa, eA]; rfl
    have old4 : ∀ j, j < H.next → H4.get j = H.get j := fun j h => by rw [hH4, upd_get, if_neg (by omega)]; exact hold j h
    clear hH4
    have hLb := left_bound (sp := sp) (c := c) (by omega)
    have hLk : leftK sp c n = leftOf sp c := by unfold leftK leftOf; rw [hn]
    obtain ⟨L, hL⟩ := Int.eq_ofNat_of_zero_le hLb.1
    rw [hLk, hL] at d12
    have Ln : L < n := by omega
    have l4o := get_live g4o
    have iol : (ints (natsJ l)).length = n := by rw [ints_length, natsJ_len, pl]
    have L0 : (0 : Int) ≤ L := by omega
    have L1 : (L : Int) ≤ n := by omega
    simp (config := { maxSteps := 1000000 }) only [go_sem, appendA_U]
    refine W.seq (vc_sound _ _ _ (by rfl) ?_)
    simp (config := { maxSteps := 1000000 }) only [go_sem, d12, d15, l4o, iol, L0, L1, appendA_U]
    refine W.env fun E4 hE4 => ?_
    have k13 : E4 13 = .own H.next 0 0 n 1 := by rw [hE4]; simp (config := { maxSteps := 1000000 }) only [go_sem, d13, appendA_U]
    have k130 : E4 130 = .own (H.next + 2) 0 0 L 1 := by rw [hE4]; simp (config := { maxSteps := 1000000 }) only [go_sem, d12, d15, l4o, iol, L0, L1, appendA_U]
    have k131 : E4 131 = lin L := by rw [hE4]; simp (config := { maxSteps := 1000000 }) only [go_sem, d12, d15, l4o, iol, L0, L1, appendA_U]
    have k132 : E4 132 = lin 0 := by rw [hE4]; simp (config := { maxSteps := 1000000 }) only [go_sem, appendA_U]
    clear hE4
    refine W.loop0 11144928081394576555352445142605272463704064 (by kernel_rfl) (fun ρ Hy => ∃ m : Nat, ρ 132 = lin m ∧ m ≤ L ∧ Hy.next = H4.next ∧ (∀ j, j < H.next → Hy.get j = H.get j) ∧ Hy.get (H.next + 2) = some (.arr 0 3 (ints (natsJ l))) ∧ Hy.get H.next = some (.arr 0 3 (ints (sharesM least sp c fun a => decide (a ∈ l.take m))))) (fun ρ Hy => L - (iv (ρ 132)).toNat) ?_ ?_
    · exact ⟨0, k132, by omega, rfl, old4, g4o, g4a⟩
    rintro ρ3 Hy ⟨m, h132, hm, ny, oldy, gyo, gya⟩
    refine W.env fun E5 hE5 => ?_
    have u13 : E5 13 = .own H.next 0 0 n 1 := by rw [hE5]; simp (config := { maxSteps := 1000000 }) only [go_sem, k13, appendA_U]
    have u130 : E5 130 = .own (H.next + 2) 0 0 L 1 := by rw [hE5]; simp (config := { maxSteps := 1000000 }) only [go_sem, k130, appendA_U]
    have u131 : E5 131 = lin L := by rw [hE5]; simp (config := { maxSteps := 1000000 }) only [go_sem, k131, appendA_U]
    have u132 : E5 132 = lin m := by rw [hE5]; simp (config := { maxSteps := 1000000 }) only [go_sem, h132, appendA_U]
    clear hE5
    have lyo := get_live gyo
    have lya := get_live gya
    have isl : (ints (sharesM least sp c fun a => decide (a ∈ l.take m))).length = n := by rw [ints_length, shares_len, hn]
    by_cases hb3 : (m : Int) < L
    rotate_left
    · have hmL : m = L := by omega
      subst hmL
      have hTop : Top (restAt sp c) n m (fun i => decide (i ∈ l.take m)) := by
        have hpw' : l.Pairwise (before (restAt sp c)) := (List.Pairwise.and_mem.1 hpw).imp fun {i j} ⟨hi, hj, h⟩ => by
          unfold before at h ⊢
          simp only [eB i (hlm i hi), eB j (hlm j hj)] at h
          exact h
        exact Top.sorted hp hpw' (by omega)
      refine vc_sound _ _ _ (by rfl) ?_
      simp (config := { maxSteps := 1000000 }) only [go_sem, u131, u132, hb3, appendA_U]
      refine vc_sound _ _ _ (by rfl) ?_
      simp (config := { maxSteps := 1000000 }) only [go_sem, u13, appendA_U]
      have hov : Over H Hy := ⟨by omega, oldy⟩
      refine FinV.mk hov.next (hK _ _ Hy (by omega) (by rw [hsp']; exact ⟨_, by rw [hL, Int.toNat_natCast, hn]; exact hTop, rfl⟩) hov (.inr ⟨H.next, 0, Nat.le_refl _, by omega, ?_, gya⟩))
      rw [isl]
    obtain ⟨q, hq⟩ := get_of_lt (l := l) (i := m) (by omega)
    have hqn := hlm q (List.mem_of_getElem? hq)
    have gq : (ints (natsJ l))[m]? = some (lin q) := by rw [ints_get, natsJ_get hq]; rfl
    have gqn := ne_of_get gq
    have gs : (ints (sharesM least sp c fun a => decide (a ∈ l.take m)))[q]? = some (lin (least + partAt sp c q)) := by rw [ints_get, shares_at hnd hq (by omega)]; rfl
    have gsn := ne_of_get gs
    have qb : (q : Int) < n := by omega
    have wq := IntWalk.i64_in (least + partAt sp c q + 1) (by have := hpn q; have := hpl q; omega)
    have wm1 := IntWalk.i64_in ((m : Int) + 1) (by omega)
    have es : setAt (ints (sharesM least sp c fun a => decide (a ∈ l.take m))) q [.lit (.int .i64 (least + partAt sp c q + 1))] = ints (sharesM least sp c fun a => decide (a ∈ l.take (m + 1))) := by rw [setAt_ints (by rw [shares_len]; omega), shares_step hnd hq (by omega)]
    refine W.seq (vc_sound _ _ _ (by rfl) ?_)
    simp (config := { maxSteps := 1000000 }) only [go_sem, u131, u132, hb3, appendA_U]
    refine W.seq (vc_sound _ _ _ (by rfl) ?_)
    simp (config := { maxSteps := 1000000 }) only [go_sem, appendA_U]
    refine W.seq (W.block ?_)
    refine W.seq (vc_sound _ _ _ (by rfl) ?_)
    simp (config := { maxSteps := 1000000 }) only [go_sem, u130, u132, lyo, iol, gq, gqn, hb3, appendA_U]
    refine vc_sound _ _ _ (by rfl) ?_
    simp (config := { maxSteps := 1000000 }) only [go_sem, u13, lya, isl, gs, gsn, qb, wq, es, appendA_U]
    refine ⟨by omega, vc_sound _ _ _ (by rfl) ?_⟩
    simp (config := { maxSteps := 1000000 }) only [go_sem, u132, wm1, appendA_U]
    exact ⟨by rw [upd_next]; omega, ⟨m + 1, rfl, by omega, by rw [upd_next]; exact ny, fun j h => by rw [upd_get, if_neg (by omega)]; exact oldy j h, by rw [upd_get, if_neg (by omega)]; exact gyo, by rw [upd_get, if_pos rfl]⟩, by rw [h132]; simp only [lin, iv_int]; omega⟩
  obtain ⟨x, hx⟩ := get_of_lt (l := c) (i := k) (by omega)
  have hxr := hc x (List.mem_of_getElem? hx)
  have hxn := ne_of_get hx
  have sx0 : 0 ≤ sp * x := Int.mul_nonneg sp0.1 hxr.1
  have sx1 : sp * x ≤ 720 * 1099511627776 := Int.mul_le_mul sp0.2 hxr.2 hxr.1 (by omega)
  have wsx := IntWalk.i64_in (sp * x) (by omega)
  refine W.seq (vc_sound _ _ _ (by rfl) ?_)
  simp (config := { maxSteps := 1000000 }) only [go_sem, d81, d82, hb2, appendA_U]
  refine W.seq (vc_sound _ _ _ (by rfl) ?_)
  simp (config := { maxSteps := 1000000 }) only [go_sem, appendA_U]
  refine W.seq (W.block ?_)
  refine W.seq (vc_sound _ _ _ (by rfl) ?_)
  simp (config := { maxSteps := 1000000 }) only [go_sem, d80, d82, lcx, hil, hx, hxn, hb2, appendA_U]
  refine W.seq (vc_sound _ _ _ (by rfl) ?_)
  simp (config := { maxSteps := 1000000 }) only [go_sem, d11, wsx, appendA_U]
  refine W.midN (fun s' => s'.H = Hx ∧ s'.ρ 2 = lin least ∧ s'.ρ 12 = lin (leftK sp c k) ∧ s'.ρ 13 = .own H.next 0 0 n 1 ∧ s'.ρ 14 = .own (H.next + 1) 0 0 n 1 ∧ s'.ρ 15 = .own (H.next + 2) 0 0 n 1 ∧ s'.ρ 16 = lin k ∧ s'.ρ 18 = lin (partAt sp c k) ∧ s'.ρ 19 = lin (restAt sp c k) ∧ s'.ρ 82 = lin k) ?_ ?_
  · by_cases hs : c.sum > 0
    · obtain ⟨p1, p2⟩ := part_pos (sp := sp) hs hx
      have t1 : (sp * x).tdiv c.sum = partAt sp c k := by rw [p1]; exact Int.tdiv_eq_ediv_of_nonneg sx0
      have t2 : (sp * x).tmod c.sum = restAt sp c k := by rw [p2]; exact Int.tmod_eq_emod_of_nonneg sx0
      have sn : ¬ c.sum = 0 := by omega
      have wp := IntWalk.i64_in (partAt sp c k) (by have := hpn k; have := hpl k; omega)
      have wr := IntWalk.i64_in (restAt sp c k) (by have := hrb k; omega)
      refine W.seq (vc_sound _ _ _ (by rfl) ?_)
      simp (config := { maxSteps := 1000000 }) only [go_sem, d8, hs, appendA_U]
      refine W.cond (t := true) (by simp (config := { maxSteps := 1000000 }) only [go_sem, d8, hs, appendA_U]) ?_
      refine W.draw 7 [0, 0, 3, 0, 0, 24, 15] Tryd.mixed (by kernel_rfl) (by kernel_rfl) ?_
      simp (config := { maxSteps := 1000000 }) only [go_sem, d2, d8, d11, d12, d13, d14, d15, d82, sn, wsx, t1, t2, wp, wr, appendA_U]
    · obtain ⟨p1, p2⟩ := part_zero (sp := sp) hs (show k < c.length by omega)
      rw [hn] at p1 p2
      have t1 : sp.tdiv n = partAt sp c k := by rw [p1]; exact Int.tdiv_eq_ediv_of_nonneg sp0.1
      have t2 : sp.tmod n = restAt sp c k := by rw [p2]; exact Int.tmod_eq_emod_of_nonneg sp0.1
      have wp := IntWalk.i64_in (partAt sp c k) (by have := hpn k; have := hpl k; omega)
      have wr := IntWalk.i64_in (restAt sp c k) (by have := hrb k; omega)
      refine W.seq (vc_sound _ _ _ (by rfl) ?_)
      simp (config := { maxSteps := 1000000 }) only [go_sem, d8, hs, appendA_U]
      refine W.cond (t := false) (by simp (config := { maxSteps := 1000000 }) only [go_sem, d8, hs, appendA_U]) ?_
      refine W.draw 9 [0, 0, 2, 7, 0, 0, 32, 112, 15] Tryd.mixed (by kernel_rfl) (by kernel_rfl) ?_
      simp (config := { maxSteps := 1000000 }) only [go_sem, d0, d2, d8, d11, d12, d13, d14, d15, d82, lcx, hil, gn, t1, t2, wp, wr, appendA_U]
  rintro ⟨ρ3, Hq⟩ ⟨hHq, q2, q12, q13, q14, q15, q16, q18, q19, q82⟩
  simp only at hHq q2 q12 q13 q14 q15 q16 q18 q19 q82
  rw [hHq]
  have wpl := IntWalk.i64_in (least + partAt sp c k) (by have := hpn k; have := hpl k; omega)
  have lxa := get_live xa
  have iA := ints_length A
  have iB := ints_length B
  have iO := ints_length O
  rw [lA] at iA
  rw [lB] at iB
  rw [lO] at iO
  have sA : setAt (ints A) k [.lit (.int .i64 (least + partAt sp c k))] = ints (A.set k (least + partAt sp c k)) := setAt_ints (by omega)
  have sB : setAt (ints B) k [.lit (.int .i64 (restAt sp c k))] = ints (B.set k (restAt sp c k)) := setAt_ints (by omega)
  have sO : setAt (ints O) k [.lit (.int .i64 (k : Int))] = ints (O.set k (k : Int)) := setAt_ints (by omega)
  obtain ⟨Ha, hHa⟩ : ∃ Ha, Ha = Hx.upd H.next (.arr 0 3 (ints (A.set k (least + partAt sp c k)))) := ⟨_, rfl⟩
  obtain ⟨Hb, hHb⟩ : ∃ Hb, Hb = Ha.upd (H.next + 1) (.arr 0 3 (ints (B.set k (restAt sp c k)))) := ⟨_, rfl⟩
  obtain ⟨Ho, hHo⟩ : ∃ Ho, Ho = Hb.upd (H.next + 2) (.arr 0 3 (ints (O.set k (k : Int)))) := ⟨_, rfl⟩
  have lxb : Ha.live (H.next + 1) 0 = some (3, ints B) := get_live (by rw [hHa, upd_get, if_neg (by omega)]; exact xb)
  have lxo : Hb.live (H.next + 2) 0 = some (3, ints O) := get_live (by rw [hHb, upd_get, if_neg (by omega), hHa, upd_get, if_neg (by omega)]; exact xo)
  have gax : ∀ b : Blk, Hx.upd H.next b = Hx.upd H.next b := fun _ => rfl
  refine W.seq (vc_sound _ _ _ (by rfl) ?_)
  simp (config := { maxSteps := 1000000 }) only [go_sem, q2, q13, q14, q15, q16, q18, q19, lxa, iA, wpl, hb2, sA, ← hHa, lxb, iB, sB, ← hHb, lxo, iO, sO, ← hHo, appendA_U]
  have wlk := IntWalk.i64_in (leftK sp c k - partAt sp c k) (by
    have h1 := hrs k
    have h2 := hpl k
    have h3 := hpn k
    have : sp * (k : Int) ≤ 720 * 12 := Int.mul_le_mul sp0.2 (by omega) (by omega) (by omega)
    omega)
  have wk := IntWalk.i64_in ((k : Int) + 1) (by omega)
  refine ⟨by omega, by omega, by omega, vc_sound _ _ _ (by rfl) ?_⟩
  simp (config := { maxSteps := 1000000 }) only [go_sem, q12, q18, wlk, appendA_U]
  refine vc_sound _ _ _ (by rfl) ?_
  simp (config := { maxSteps := 1000000 }) only [go_sem, q82, wk, appendA_U]
  have hn' : Ho.next = Hx.next := by rw [hHo, hHb, hHa]; rfl
  refine ⟨by omega, ⟨k + 1, A.set k (least + partAt sp c k), B.set k (restAt sp c k), O.set k (k : Int), rfl, by omega, by rw [leftK_succ], by omega, fun j h => ?_, ?_, ?_, ?_, by simp [lA, lB, lO], fun j hj => ?_⟩, by rw [h82]; simp only [lin, iv_int]; omega⟩
  · rw [hHo, upd_get, if_neg (by omega), hHb, upd_get, if_neg (by omega), hHa, upd_get, if_neg (by omega)]
    exact hold j h
  · rw [hHo, upd_get, if_neg (by omega), hHb, upd_get, if_neg (by omega), hHa, upd_get, if_pos rfl]
  · rw [hHo, upd_get, if_neg (by omega), hHb, upd_get, if_pos rfl]
  · rw [hHo, upd_get, if_pos rfl]
  · by_cases e : j = k
    · subst e
      exact ⟨by rw [List.getElem?_set_self (by omega)], by rw [List.getElem?_set_self (by omega)], by rw [List.getElem?_set_self (by omega)]⟩
    · obtain ⟨z1, z2, z3⟩ := hall j (by omega)
      exact ⟨by rw [List.getElem?_set_ne (fun h => e h.symm)]; exact z1, by rw [List.getElem?_set_ne (fun h => e h.symm)]; exact z2, by rw [List.getElem?_set_ne (fun h => e h.symm)]; exact z3⟩
def maxL : List Int → Int
  | [] => 0
  | a :: l => l.foldl max a
theorem foldl_max (l : List Int) : ∀ a, a ≤ l.foldl max a ∧ (∀ x ∈ l, x ≤ l.foldl max a) ∧ (l.foldl max a = a ∨ l.foldl max a ∈ l) := by
  induction l with
  | nil => exact fun a => ⟨Int.le_refl _, fun x h => (by cases h), .inl rfl⟩
  | cons b l ih =>
    intro a
    obtain ⟨h1, h2, h3⟩ := ih (max a b)
    simp only [List.foldl_cons]
    refine ⟨by omega, fun x hx => ?_, ?_⟩
    · rcases List.mem_cons.1 hx with rfl | hx
      · omega
      · exact h2 x hx
    · rcases h3 with h3 | h3
      · rw [h3]
        rcases Int.le_total a b with h | h
        · rw [Int.max_eq_right h]; exact .inr (by simp)
        · rw [Int.max_eq_left h]; exact .inl rfl
      · exact .inr (by simp [h3])
theorem maxL_mem {l : List Int} (h : l ≠ []) : maxL l ∈ l := by
  cases l with
  | nil => exact absurd rfl h
  | cons a l =>
    rcases (foldl_max l a).2.2 with h | h
    · show l.foldl max a ∈ _
      rw [h]; simp
    · exact List.mem_cons_of_mem _ h
theorem maxL_snoc {l : List Int} (h : l ≠ []) (b : Int) : maxL (l ++ [b]) = max (maxL l) b := by
  cases l with
  | nil => exact absurd rfl h
  | cons a l =>
    show (l ++ [b]).foldl max a = _
    rw [List.foldl_append]; rfl
theorem max_spec (l : List Int) (h0 : l ≠ []) (hl : (l.length : Int) < 2 ^ 62) (H : AHeap) (K : ARes → AHeap → Prop) (hK : K (.ret (lin (maxL l))) H) : ACall Tryd.prog G0 36 [vecI l] H K := by
  have hpos : 0 < l.length := List.length_pos_iff.2 h0
  obtain ⟨a, ha⟩ := get_of_lt hpos
  have h1 : ¬ ((l.length : Int) < 1) := by omega
  have hp1 : (0 : Int) < l.length := by omega
  refine ACall.of_body (n := 25) (rs := [.tmp 2]) Tryd.func36 rfl rfl rfl (by decide) (by kernel_rfl) (by simp) ?_
  simp (config := { maxSteps := 1000000 }) only [go_sem, h1, ha, h0, hp1, appendA_U]
  refine W.loop0 16773144 (by rfl) (fun ρ H' => H' = H ∧ ∃ k : Nat, ρ 4 = lin (k : Int) ∧ 1 ≤ k ∧ k ≤ l.length ∧ ρ 3 = lin (maxL (l.take k))) (fun ρ H => l.length - (iv (ρ 4)).toNat) ?_ ?_
  · simp (config := { maxSteps := 1000000 }) only [go_sem, appendA_U]
    refine ⟨1, rfl, Nat.le_refl _, by omega, ?_⟩
    rw [take_succ_get ha, List.take_zero]
    rfl
  rintro ρ H' ⟨rfl, k, h4, hk1, hk, h3⟩
  refine vc_sound _ _ _ (by rfl) ?_
  by_cases hb : (k : Int) < l.length
  · obtain ⟨b, hkb⟩ := get_of_lt (l := l) (i := k) (by omega)
    have hne := ne_of_get hkb
    have w1 := IntWalk.i64_in ((k : Int) + 1) (by omega)
    simp (config := { maxSteps := 1000000 }) only [go_sem, h4, h3, hb, hkb, hne, w1, builtin_max, appendA_U]
    refine ⟨⟨k + 1, by simp, by omega, by omega, ?_⟩, by omega⟩
    rw [take_succ_get hkb, maxL_snoc (fun e => by have := congrArg List.length e; rw [List.length_take, Nat.min_eq_left (by omega)] at this; rw [List.length_nil] at this; omega)]
    congr 2
    split <;> omega
  · simp (config := { maxSteps := 1000000 }) only [go_sem, h4, h3, hb, appendA_U]
    rw [List.take_of_length_le (by omega)]
    exact FinV.mk (Nat.le_refl _) hK
def tailAt (k : Nat) : Code → Option Code
  | .seq a b => match tailAt k a with
    | some a' => some (.seq a' b)
    | none => tailAt k b
  | .region j x m => if j == k then some (.region j x m) else none
  | _ => none
def bodyOf (f : Func) : Code := f.body.getD .skip

end Go.Proofs
