/- Own work: contracts. -/
import Derived.Test.YtikgmgmphkalkaaDoorConE
import Derived.Test.YtikgmgmphkalkaaDoorConB
set_option linter.all false
set_option maxRecDepth 100000
namespace Go.Proofs
open Go.Hx
theorem sortR_spec {cv : AVal} {f : Nat → Nat} {rid : Nat} {rb : Blk} {id g n : Nat} {l : List Nat} {H : AHeap} (S : SH cv f rid rb id g n l H) (hD : DistF f l) (h1 : 1 ≤ n) (K : ARes → AHeap → Prop) (hK : ∀ q, q.Perm l → Srt f q q.length → K (.ret (.tup [])) (H.upd id (nB g q))) :
    ACall Tryd.prog G0 47 [.own id g 0 n 1, cv] H K := by
  have hn := S.hn
  have wn : IntKind.u64.wrap ((n : Nat) : Int) = (n : Int) := IntWalk.u64_in _ (by omega)
  have w2 := IntWalk.i64_in (n : Int) (by omega)
  refine ACall.of_bodyW (n := 14) (rs := []) Tryd.func47 rfl rfl rfl (by decide) (by simp) ?_
  refine W.seq (vc_sound _ _ _ (by rfl) ?_)
  simp (config := { maxSteps := 1000000 }) only [go_sem, S.live, S.len, appendA_U]
  refine vc_sound _ _ _ (by rfl) ?_
  simp (config := { maxSteps := 1000000 }) only [go_sem, wn, appendA_U]
  refine AApply.clo (len_k h1 hn H _ fun L hL _ => ⟨trivial, ?_⟩)
  simp (config := { maxSteps := 1000000 }) only [go_sem, appendA_U]
  refine AApply.clo (pdqR_spec (n + 1) 0 n l H L (by omega) S hD (by omega) (Nat.le_refl _) (by omega) (.inl rfl) _ fun q hq hs => ⟨trivial, ?_⟩)
  simp (config := { maxSteps := 1000000 }) only [go_sem, appendA_U]
  exact FinV.mk (by rw [upd_next]; exact Nat.le_refl _) (hK q hq.1 fun a b h1 h2 => hs a b (Nat.zero_le _) h1 (by rw [hq.len, S.hl] at h2; exact h2))
theorem rank_dist {r : Nat → Int} {T n : Nat} (hr : ∀ i, i < n → 0 ≤ r i ∧ r i < T) : DistF (rankF r T n) (List.range n) := by
  unfold DistF
  rw [List.nodup_iff_pairwise_ne, List.pairwise_map]
  refine (List.Pairwise.and_mem.1 (List.nodup_iff_pairwise_ne.1 List.nodup_range)).imp fun {i j} ⟨hi, hj, hne⟩ e => ?_
  have hi := List.mem_range.1 hi
  have hj := List.mem_range.1 hj
  rcases before_tri hne (r := r) with b | b
  · have := (rank_lt hr hi hj).2 b; omega
  · have := (rank_lt hr hj hi).2 b; omega
theorem compare_k {id g n : Nat} {rs : List Int} (hn : rs.length = n) (hr : ∀ x ∈ rs, 0 ≤ x ∧ x < 1125899906842624) (hn6 : n ≤ 1024) {T : Nat} (hT : ∀ i, i < n → 0 ≤ rs.getD i 0 ∧ rs.getD i 0 < T) {l : List Nat} (hl : ∀ a ∈ l, a < n) :
    CmpOk (.clo 48 [.own id g 0 n 1] []) (rankF (fun i => rs.getD i 0) T n) l (fun Hx => Hx.get id = some (.arr g 3 (ints rs))) := by
  intro a b ha hb Hx hI
  have ha := hl a ha
  have hb := hl b hb
  obtain ⟨x, hx⟩ := get_of_lt (l := rs) (i := a) (by omega)
  obtain ⟨y, hy⟩ := get_of_lt (l := rs) (i := b) (by omega)
  have hxr := hr x (List.mem_of_getElem? hx)
  have hyr := hr y (List.mem_of_getElem? hy)
  have ex : rs.getD a 0 = x := by rw [List.getD_eq_getElem?_getD, hx]; rfl
  have ey : rs.getD b 0 = y := by rw [List.getD_eq_getElem?_getD, hy]; rfl
  have hxn := ne_of_get hx
  have hyn := ne_of_get hy
  have lv := get_live hI
  have hil := ints_length rs
  rw [hn] at hil
  have bx : (a : Int) < n := by omega
  have by' : (b : Int) < n := by omega
  have w1 := IntWalk.i64_in (y - x) (by omega)
  have w2 := IntWalk.i64_in ((a : Int) - (b : Int)) (by omega)
  refine ⟨if x = y then (a : Int) - b else y - x, ?_, fun K hK => AApply.clo ?_⟩
  · rw [rank_lt hT ha hb]
    unfold before
    simp only [ex, ey]
    split <;> omega
  simp only [List.cons_append, List.nil_append, List.append_nil]
  refine ACall.of_bodyW (n := 28) (rs := [.tmp 6]) Tryd.func48 rfl rfl rfl (by decide) (by simp) ?_
  refine W.seq (vc_sound _ _ _ (by rfl) ?_)
  simp (config := { maxSteps := 1000000 }) only [go_sem, appendA_U]
  refine W.seq (W.midN (fun s' => s'.H = Hx ∧ s'.ρ 0 = .own id g 0 n 1 ∧ s'.ρ 1 = lin a ∧ s'.ρ 2 = lin b ∧ s'.ρ 15 = .lit (.bool (!decide (x = y)))) ?_ ?_)
  · refine W.draw 8 [0, 0, 3, 7, 0, 0, 48, 112] Tryd.mixed (by kernel_rfl) (by kernel_rfl) ?_
    simp (config := { maxSteps := 1000000 }) only [go_sem, lv, hil, hx, hy, hxn, hyn, bx, by', appendA_U]
  rintro ⟨ρ, Hq⟩ ⟨hHq, q0, q1, q2, q15⟩
  simp only at hHq q0 q1 q2 q15
  rw [hHq]
  by_cases hxy : x = y
  · rw [if_pos hxy] at hK
    rw [decide_eq_true hxy] at q15
    refine W.cond (t := false) q15 ?_
    refine vc_sound _ _ _ (by rfl) ?_
    simp (config := { maxSteps := 1000000 }) only [go_sem, q1, q2, w2, appendA_U]
    refine vc_sound _ _ _ (by rfl) ?_
    simp (config := { maxSteps := 1000000 }) only [go_sem, q1, q2, w2, appendA_U]
    exact FinV.mk (Nat.le_refl _) hK
  · rw [if_neg hxy] at hK
    rw [decide_eq_false hxy] at q15
    refine W.cond (t := true) q15 ?_
    refine W.seq ?_
    refine W.draw 8 [0, 0, 3, 7, 0, 0, 48, 112] Tryd.mixed (by kernel_rfl) (by kernel_rfl) ?_
    simp (config := { maxSteps := 1000000 }) only [go_sem, q0, q1, q2, lv, hil, hx, hy, hxn, hyn, bx, by', w1, appendA_U]
    refine vc_sound _ _ _ (by rfl) ?_
    simp (config := { maxSteps := 1000000 }) only [go_sem, appendA_U]
    exact FinV.mk (Nat.le_refl _) hK
theorem sumk_succ {c : List Int} {i : Nat} {x : Int} (h : c[i]? = some x) : (c.take (i + 1)).sum = (c.take i).sum + x := by rw [take_succ_get h]; simp
theorem sumk_rng {c : List Int} (hc : ∀ x ∈ c, 0 ≤ x ∧ x ≤ 1099511627776) (i : Nat) : 0 ≤ (c.take i).sum ∧ (c.take i).sum ≤ 1099511627776 * (c.take i).length := by
  have : ∀ l : List Int, (∀ x ∈ l, 0 ≤ x ∧ x ≤ 1099511627776) → 0 ≤ l.sum ∧ l.sum ≤ 1099511627776 * l.length := by
    intro l
    induction l with
    | nil => intro _; simp
    | cons a l ih =>
      intro h
      have h1 := h a (by simp)
      have h2 := ih fun x hx => h x (by simp [hx])
      rw [List.sum_cons, List.length_cons]
      omega
  exact this _ fun x hx => hc x (List.mem_of_mem_take hx)
set_option maxHeartbeats 8000000 in
theorem round_k {c : List Int} {grain least : Int} {n : Nat} (hn : c.length = n) (h0 : 1 ≤ n) (hl : n ≤ 1024) (hc : ∀ x ∈ c, 0 ≤ x ∧ x ≤ 1099511627776) (hg : 1 ≤ grain ∧ grain ≤ 720) (hle : 0 ≤ least ∧ least ≤ 720) (H : AHeap) (K : ARes → AHeap → Prop)
    (hE : grain < least * n → K (.ret (.tup [.lit (.slice none 0 0), lin 2])) H)
    (hK : ∀ s v H', least * n ≤ grain → ShareOk least (spareOf grain least c) c s → Over H H' → OwnG H.next H' 3 v (ints s) → K (.ret (.tup [v, lin 0])) H') :
    ACall Tryd.prog G0 10 [.vec n (ints c), lin grain, lin least] H K := by
  have hil := ints_length c
  rw [hn] at hil
  have b1 : ¬ (n : Int) < 1 := by omega
  have b2 : ¬ (n : Int) > 1024 := by omega
  refine ACall.of_bodyW (n := 144) (rs := [.tmp 6, .tmp 7]) Tryd.func10 rfl rfl rfl (by decide) (by simp) ?_
  refine W.seq (vc_sound _ _ _ (by rfl) ?_)
  simp (config := { maxSteps := 1000000 }) only [go_sem, appendA_U]
  refine W.seq (vc_sound _ _ _ (by rfl) ?_)
  simp (config := { maxSteps := 1000000 }) only [go_sem, hil, b1, b2, appendA_U]
  refine W.seq (vc_sound _ _ _ (by rfl) ?_)
  simp (config := { maxSteps := 1000000 }) only [go_sem, appendA_U]
  refine W.seq (vc_sound _ _ _ (by rfl) ?_)
  simp (config := { maxSteps := 1000000 }) only [go_sem, hil, appendA_U]
  refine W.env fun E hE1 => ?_
  have e0 : E 0 = .vec n (ints c) := by rw [hE1]; simp (config := { maxSteps := 1000000 }) only [go_sem, appendA_U]
  have e1 : E 1 = lin grain := by rw [hE1]; simp (config := { maxSteps := 1000000 }) only [go_sem, appendA_U]
  have e2 : E 2 = lin least := by rw [hE1]; simp (config := { maxSteps := 1000000 }) only [go_sem, appendA_U]
  have e8 : E 8 = lin 0 := by rw [hE1]; simp (config := { maxSteps := 1000000 }) only [go_sem, appendA_U]
  have e30 : E 30 = .vec n (ints c) := by rw [hE1]; simp (config := { maxSteps := 1000000 }) only [go_sem, appendA_U]
  have e31 : E 31 = lin n := by rw [hE1]; simp (config := { maxSteps := 1000000 }) only [go_sem, hil, appendA_U]
  have e32 : E 32 = lin 0 := by rw [hE1]; simp (config := { maxSteps := 1000000 }) only [go_sem, appendA_U]
  clear hE1
  refine W.loop0 70364449211840 (by rfl) (fun ρ Hx => Hx = H ∧ ∃ i : Nat, ρ 32 = lin i ∧ i ≤ n ∧ ρ 8 = lin (c.take i).sum) (fun ρ Hx => n - (iv (ρ 32)).toNat) ?_ ?_
  · exact ⟨rfl, 0, e32, by omega, e8⟩
  rintro ρ Hx ⟨hHx, i, h32, hi, h8⟩
  rw [hHx]
  refine W.env fun E1 hE1 => ?_
  have f0 : E1 0 = .vec n (ints c) := by rw [hE1]; simp (config := { maxSteps := 1000000 }) only [go_sem, e0, appendA_U]
  have f1 : E1 1 = lin grain := by rw [hE1]; simp (config := { maxSteps := 1000000 }) only [go_sem, e1, appendA_U]
  have f2 : E1 2 = lin least := by rw [hE1]; simp (config := { maxSteps := 1000000 }) only [go_sem, e2, appendA_U]
  have f8 : E1 8 = lin (c.take i).sum := by rw [hE1]; simp (config := { maxSteps := 1000000 }) only [go_sem, h8, appendA_U]
  have f30 : E1 30 = .vec n (ints c) := by rw [hE1]; simp (config := { maxSteps := 1000000 }) only [go_sem, e30, appendA_U]
  have f31 : E1 31 = lin n := by rw [hE1]; simp (config := { maxSteps := 1000000 }) only [go_sem, e31, appendA_U]
  have f32 : E1 32 = lin i := by rw [hE1]; simp (config := { maxSteps := 1000000 }) only [go_sem, h32, appendA_U]
  clear hE1
  have hsr := sumk_rng hc i
  have htl : ((c.take i).length : Int) ≤ 1024 := by rw [List.length_take]; omega
  by_cases hb : (i : Int) < n
  · obtain ⟨x, hx⟩ := get_of_lt (l := c) (i := i) (by omega)
    have hxr := hc x (List.mem_of_getElem? hx)
    have hxn := ne_of_get hx
    have x1 : ¬ x < 0 := by omega
    have x2 : ¬ x > 1099511627776 := by omega
    have w1 := IntWalk.i64_in ((c.take i).sum + x) (by omega)
    have w2 := IntWalk.i64_in ((i : Int) + 1) (by omega)
    refine vc_sound _ _ _ (by rfl) ?_
    simp (config := { maxSteps := 1000000 }) only [go_sem, f8, f30, f31, f32, hb, hil, hx, hxn, x1, x2, w1, w2, appendA_U]
    exact ⟨⟨i + 1, rfl, by omega, by rw [sumk_succ hx]⟩, by rw [h32]; simp only [lin, iv_int]; omega⟩
  have hin : i = n := by omega
  rw [hin, ← hn, List.take_length] at f8 hsr
  have g1 : ¬ grain < 1 := by omega
  have g2 : ¬ grain > 720 := by omega
  have g3 : ¬ least < 0 := by omega
  have gn : ¬ (n : Int) = 0 := by omega
  have gt : grain.tdiv n = grain / n := Int.tdiv_eq_ediv_of_nonneg (by omega)
  have gw := IntWalk.i64_in (grain / n) (by have := Int.ediv_nonneg (a := grain) (b := n) (by omega) (by omega); have := Int.ediv_le_self (a := grain) n (by omega); omega)
  refine vc_sound _ _ _ (by rfl) ?_
  simp (config := { maxSteps := 1000000 }) only [go_sem, f31, f32, hb, appendA_U]
  by_cases hfit : grain < least * n
  · have g4 : least > grain / n := by
      refine Classical.byContradiction fun h => ?_
      have := (Int.le_ediv_iff_mul_le (show (0 : Int) < n by omega)).1 (Int.not_lt.1 h)
      omega
    refine W.seq (vc_sound _ _ _ (by rfl) ?_)
    simp (config := { maxSteps := 1000000 }) only [go_sem, f0, f1, f2, g1, g2, g3, hil, gn, gt, gw, g4, appendA_U]
    exact FinV.mk (Nat.le_refl _) (hE hfit)
  have g4 : ¬ least > grain / n := fun h => by
    have := (Int.le_ediv_iff_mul_le (show (0 : Int) < n by omega)).2 (Int.not_lt.1 hfit)
    omega
  refine W.seq (vc_sound _ _ _ (by rfl) ?_)
  simp (config := { maxSteps := 1000000 }) only [go_sem, f0, f1, f2, g1, g2, g3, hil, gn, gt, gw, g4, appendA_U]
  have m0 : 0 ≤ least * n := Int.mul_nonneg hle.1 (by omega)
  have wm := IntWalk.i64_in (least * (n : Int)) (by omega)
  have wsb := IntWalk.i64_in (grain - least * (n : Int)) (by omega)
  obtain ⟨sp, hsp⟩ : ∃ sp, sp = grain - least * n := ⟨_, rfl⟩
  have hsp' : spareOf grain least c = sp := by unfold spareOf; rw [hn, hsp]
  rw [← hsp] at wsb
  have sp0 : 0 ≤ sp ∧ sp ≤ 720 := by omega
  refine W.seq (vc_sound _ _ _ (by rfl) ?_)
  simp (config := { maxSteps := 1000000 }) only [go_sem, f0, f1, f2, hil, wm, ← hsp, wsb, appendA_U]
  refine W.seq (vc_sound _ _ _ (by rfl) ?_)
  simp (config := { maxSteps := 1000000 }) only [go_sem, appendA_U]
  refine W.seq (vc_sound _ _ _ (by rfl) ?_)
  simp (config := { maxSteps := 1000000 }) only [go_sem, f0, hil, appendA_U]
  refine ⟨⟨by omega, by omega⟩, ?_⟩
  refine W.seq (vc_sound _ _ _ (by rfl) ?_)
  simp (config := { maxSteps := 1000000 }) only [go_sem, f0, hil, appendA_U]
  refine ⟨⟨by omega, by omega⟩, ?_⟩
  refine W.seq (vc_sound _ _ _ (by rfl) ?_)
  simp (config := { maxSteps := 1000000 }) only [go_sem, f0, hil, appendA_U]
  refine ⟨⟨by omega, by omega⟩, ?_⟩
  refine W.seq (vc_sound _ _ _ (by rfl) ?_)
  simp (config := { maxSteps := 1000000 }) only [go_sem, f0, hil, appendA_U]
  have hz : List.replicate n (AVal.lit (.int .i64 0)) = ints (List.replicate n 0) := by simp only [ints, List.map_replicate]; rfl
  rw [hz]
  obtain ⟨H1, hH1⟩ : ∃ H1, H1 = ext H [.arr 0 3 (ints (List.replicate n 0)), .arr 0 3 (ints (List.replicate n 0)), .arr 0 3 (ints (List.replicate n 0))] := ⟨_, rfl⟩
  have ga : H1.get H.next = some (.arr 0 3 (ints (List.replicate n 0))) := by rw [hH1]; exact get_ext H _ 0 (by simp)
  have gb : H1.get (H.next + 1) = some (.arr 0 3 (ints (List.replicate n 0))) := by rw [hH1]; exact get_ext H _ 1 (by simp)
  have go : H1.get (H.next + 2) = some (.arr 0 3 (ints (List.replicate n 0))) := by rw [hH1]; exact get_ext H _ 2 (by simp)
  have n1 : H1.next = H.next + 3 := by rw [hH1]; rfl
  have o1 : Over H H1 := by rw [hH1]; exact .ext _ _
  rw [← hH1]
  refine W.env fun E2 hE2 => ?_
  have a0 : E2 0 = .vec n (ints c) := by rw [hE2]; simp (config := { maxSteps := 1000000 }) only [go_sem, f0, appendA_U]
  have a2 : E2 2 = lin least := by rw [hE2]; simp (config := { maxSteps := 1000000 }) only [go_sem, f2, appendA_U]
  have a8 : E2 8 = lin c.sum := by rw [hE2]; simp (config := { maxSteps := 1000000 }) only [go_sem, f8, appendA_U]
  have a11 : E2 11 = lin sp := by rw [hE2]; simp (config := { maxSteps := 1000000 }) only [go_sem, wm, ← hsp, wsb, appendA_U]
  have a12 : E2 12 = lin sp := by rw [hE2]; simp (config := { maxSteps := 1000000 }) only [go_sem, wm, ← hsp, wsb, appendA_U]
  have a13 : E2 13 = .own H.next 0 0 n 1 := by rw [hE2]; simp (config := { maxSteps := 1000000 }) only [go_sem, appendA_U]
  have a14 : E2 14 = .own (H.next + 1) 0 0 n 1 := by rw [hE2]; simp (config := { maxSteps := 1000000 }) only [go_sem, appendA_U]
  have a15 : E2 15 = .own (H.next + 2) 0 0 n 1 := by rw [hE2]; simp (config := { maxSteps := 1000000 }) only [go_sem, appendA_U]
  have a80 : E2 80 = .vec n (ints c) := by rw [hE2]; simp (config := { maxSteps := 1000000 }) only [go_sem, f0, appendA_U]
  have a81 : E2 81 = lin n := by rw [hE2]; simp (config := { maxSteps := 1000000 }) only [go_sem, f0, hil, appendA_U]
  have a82 : E2 82 = lin 0 := by rw [hE2]; simp (config := { maxSteps := 1000000 }) only [go_sem, appendA_U]
  clear hE2 hH1
  have hrs := fun k => leftK_rng (sp := sp) (c := c) (fun x h => (hc x h).1) (by omega) sp0.1 k
  have hpn := fun k => part_nn (c := c) (fun x h => (hc x h).1) (by omega) sp0.1 k
  have hpl := fun k => part_le (c := c) (fun x h => (hc x h).1) (by omega) sp0.1 k
  have hrb := fun k => rest_bound (sp := sp) (c := c) (by omega) k
  have hT : effT c ≤ 1125899906842624 := by unfold effT; split <;> omega
  refine W.loop0 21267647932553818263182454447787675648 (by kernel_rfl) (fun ρ Hx => ∃ (i : Nat) (A B O : List Int), ρ 82 = lin i ∧ i ≤ n ∧ ρ 12 = lin (leftK sp c i) ∧ Hx.next = H1.next ∧ (∀ j, j < H.next → Hx.get j = H.get j) ∧ Hx.get H.next = some (.arr 0 3 (ints A)) ∧ Hx.get (H.next + 1) = some (.arr 0 3 (ints B)) ∧ Hx.get (H.next + 2) = some (.arr 0 3 (ints O)) ∧
    (A.length = n ∧ B.length = n ∧ O.length = n) ∧ ∀ j, j < i → A[j]? = some (least + partAt sp c j) ∧ B[j]? = some (restAt sp c j) ∧ O[j]? = some (j : Int)) (fun ρ Hx => n - (iv (ρ 82)).toNat) ?_ ?_
  · exact ⟨0, _, _, _, a82, by omega, a12.trans (by unfold leftK; simp), rfl, fun j h => o1.old j h, ga, gb, go, by simp, fun j h => absurd h (Nat.not_lt_zero _)⟩
  rintro ρ2 Hx ⟨k, A, B, O, h82, hk, h12, nx, hold, xa, xb, xo, ⟨lA, lB, lO⟩, hall⟩
  refine W.env fun E3 hE3 => ?_
  have d0 : E3 0 = .vec n (ints c) := by rw [hE3]; simp (config := { maxSteps := 1000000 }) only [go_sem, a0, appendA_U]
  have d2 : E3 2 = lin least := by rw [hE3]; simp (config := { maxSteps := 1000000 }) only [go_sem, a2, appendA_U]
  have d8 : E3 8 = lin c.sum := by rw [hE3]; simp (config := { maxSteps := 1000000 }) only [go_sem, a8, appendA_U]
  have d11 : E3 11 = lin sp := by rw [hE3]; simp (config := { maxSteps := 1000000 }) only [go_sem, a11, appendA_U]
  have d12 : E3 12 = lin (leftK sp c k) := by rw [hE3]; simp (config := { maxSteps := 1000000 }) only [go_sem, h12, appendA_U]
  have d13 : E3 13 = .own H.next 0 0 n 1 := by rw [hE3]; simp (config := { maxSteps := 1000000 }) only [go_sem, a13, appendA_U]
  have d14 : E3 14 = .own (H.next + 1) 0 0 n 1 := by rw [hE3]; simp (config := { maxSteps := 1000000 }) only [go_sem, a14, appendA_U]
  have d15 : E3 15 = .own (H.next + 2) 0 0 n 1 := by rw [hE3]; simp (config := { maxSteps := 1000000 }) only [go_sem, a15, appendA_U]
  have d80 : E3 80 = .vec n (ints c) := by rw [hE3]; simp (config := { maxSteps := 1000000 }) only [go_sem, a80, appendA_U]
  have d81 : E3 81 = lin n := by rw [hE3]; simp (config := { maxSteps := 1000000 }) only [go_sem, a81, appendA_U]
  have d82 : E3 82 = lin k := by rw [hE3]; simp (config := { maxSteps := 1000000 }) only [go_sem, h82, appendA_U]
  clear hE3
  by_cases hb2 : (k : Int) < n
  rotate_left
  · have hkn : k = n := by omega
    refine vc_sound _ _ _ (by rfl) ?_
    simp (config := { maxSteps := 1000000 }) only [go_sem, d81, d82, hb2, appendA_U]
    rw [hkn] at d12 hall
    have eA : A = sharesM least sp c fun a => decide (a ∈ ([] : List Nat).take 0) := by
      rw [shares_none]
      apply List.ext_getElem?
      intro j
      rcases Nat.lt_or_ge j n with h | h
      · rw [(hall j h).1, List.getElem?_map, List.getElem?_range (by omega)]; rfl
      · rw [List.getElem?_eq_none (by omega), List.getElem?_eq_none (by simp; omega)]
    have eO : O = natsJ (List.range n) := by
      apply List.ext_getElem?
      intro j
      rcases Nat.lt_or_ge j n with h | h
      · rw [(hall j h).2.2, natsJ_get (List.getElem?_range h)]
      · rw [List.getElem?_eq_none (by omega), List.getElem?_eq_none (by rw [natsJ_len, List.length_range]; omega)]
    have eB : ∀ j, j < n → B.getD j 0 = restAt sp c j := fun j h => by rw [List.getD_eq_getElem?_getD, (hall j h).2.1]; rfl
    rw [eO] at xo
    obtain ⟨T, hTe⟩ := Int.eq_ofNat_of_zero_le (Int.le_of_lt (effT_pos (c := c) (by omega)))
    have hBr : ∀ x ∈ B, 0 ≤ x ∧ x < 1125899906842624 := fun x hx => by
      obtain ⟨j, hj⟩ := List.mem_iff_getElem?.1 hx
      have hjn := get_lt hj
      rw [(hall j (by omega)).2.1] at hj
      cases hj
      have := hrb j
      omega
    have hBT : ∀ j, j < n → 0 ≤ B.getD j 0 ∧ B.getD j 0 < T := fun j h => by
      rw [eB j h, ← hTe]
      exact hrb j
    have hcmp := compare_k (id := H.next + 1) (g := 0) lB hBr (by omega) hBT (l := List.range n) (fun a h => List.mem_range.1 h)
    have xon : Hx.get (H.next + 2) = some (nB 0 (List.range n)) := xo
    refine W.seq (vc_sound _ _ _ (by rfl) ?_)
    simp (config := { maxSteps := 1000000 }) only [go_sem, d14, d15, appendA_U]
    have SHx : SH (.clo 48 [.own (H.next + 1) 0 0 n 1] []) (rankF (fun i => B.getD i 0) T n) (H.next + 1) (.arr 0 3 (ints B)) (H.next + 2) 0 n (List.range n) Hx :=
      ⟨List.length_range, hl, xon, xb, by omega, by omega, by omega, hcmp⟩
    refine AApply.clo (sortR_spec SHx (rank_dist hBT) (by omega) _ fun l hp hs => ⟨trivial, ?_⟩)
    obtain ⟨H4, hH4⟩ : ∃ H4, H4 = Hx.upd (H.next + 2) (nB 0 l) := ⟨_, rfl⟩
    rw [← hH4]
    have hpw := srt_before (r := fun i => B.getD i 0) (T := T) (n := n) hBT hp hs
    have pl := hp.length_eq
    rw [List.length_range] at pl
    have hlm : ∀ a ∈ l, a < n := fun a h => List.mem_range.1 (hp.mem_iff.1 h)
    have hnd : l.Nodup := hp.nodup_iff.2 List.nodup_range
    have n4 : H4.next = Hx.next := by rw [hH4, upd_next]
    have g4o : H4.get (H.next + 2) = some (.arr 0 3 (ints (natsJ l))) := by rw [hH4, upd_get, if_pos rfl]; rfl
    have g4a : H4.get H.next = some (.arr 0 3 (ints (sharesM least sp c fun a => decide (a ∈ l.take 0)))) := by rw [hH4, upd_get, if_neg (by omega), xa, eA]; rfl
    have old4 : ∀ j, j < H.next → H4.get j = H.get j := fun j h => by rw [hH4, upd_get, if_neg (by omega)]; exact hold j h
    clear hH4
    have hLb := left_bound (sp := sp) (c := c) (by omega)
    have hLk : leftK sp c n = leftOf sp c := by unfold leftK leftOf; rw [hn]
    obtain ⟨L, hL⟩ := Int.eq_ofNat_of_zero_le hLb.1
    rw [hLk, hL] at d12
    have Ln : L < n := by omega
    have l4o := get_live g4o
    have iol : (ints (natsJ l)).length = n := by rw [ints_length, natsJ_len, pl]
    have L0 : (0 : Int) ≤ L := by omega
    have L1 : (L : Int) ≤ n := by omega
    simp (config := { maxSteps := 1000000 }) only [go_sem, appendA_U]
    refine W.seq (vc_sound _ _ _ (by rfl) ?_)
    simp (config := { maxSteps := 1000000 }) only [go_sem, d12, d15, l4o, iol, L0, L1, appendA_U]
    refine W.env fun E4 hE4 => ?_
    have k13 : E4 13 = .own H.next 0 0 n 1 := by rw [hE4]; simp (config := { maxSteps := 1000000 }) only [go_sem, d13, appendA_U]
    have k130 : E4 130 = .own (H.next + 2) 0 0 L 1 := by rw [hE4]; simp (config := { maxSteps := 1000000 }) only [go_sem, d12, d15, l4o, iol, L0, L1, appendA_U]
    have k131 : E4 131 = lin L := by rw [hE4]; simp (config := { maxSteps := 1000000 }) only [go_sem, d12, d15, l4o, iol, L0, L1, appendA_U]
    have k132 : E4 132 = lin 0 := by rw [hE4]; simp (config := { maxSteps := 1000000 }) only [go_sem, appendA_U]
    clear hE4
    refine W.loop0 11144928081394576555352445142605272463704064 (by kernel_rfl) (fun ρ Hy => ∃ m : Nat, ρ 132 = lin m ∧ m ≤ L ∧ Hy.next = H4.next ∧ (∀ j, j < H.next → Hy.get j = H.get j) ∧ Hy.get (H.next + 2) = some (.arr 0 3 (ints (natsJ l))) ∧ Hy.get H.next = some (.arr 0 3 (ints (sharesM least sp c fun a => decide (a ∈ l.take m))))) (fun ρ Hy => L - (iv (ρ 132)).toNat) ?_ ?_
    · exact ⟨0, k132, by omega, rfl, old4, g4o, g4a⟩
    rintro ρ3 Hy ⟨m, h132, hm, ny, oldy, gyo, gya⟩
    refine W.env fun E5 hE5 => ?_
    have u13 : E5 13 = .own H.next 0 0 n 1 := by rw [hE5]; simp (config := { maxSteps := 1000000 }) only [go_sem, k13, appendA_U]
    have u130 : E5 130 = .own (H.next + 2) 0 0 L 1 := by rw [hE5]; simp (config := { maxSteps := 1000000 }) only [go_sem, k130, appendA_U]
    have u131 : E5 131 = lin L := by rw [hE5]; simp (config := { maxSteps := 1000000 }) only [go_sem, k131, appendA_U]
    have u132 : E5 132 = lin m := by rw [hE5]; simp (config := { maxSteps := 1000000 }) only [go_sem, h132, appendA_U]
    clear hE5
    have lyo := get_live gyo
    have lya := get_live gya
    have isl : (ints (sharesM least sp c fun a => decide (a ∈ l.take m))).length = n := by rw [ints_length, shares_len, hn]
    by_cases hb3 : (m : Int) < L
    rotate_left
    · have hmL : m = L := by omega
      subst hmL
      have hTop : Top (restAt sp c) n m (fun i => decide (i ∈ l.take m)) := by
        have hpw' : l.Pairwise (before (restAt sp c)) := (List.Pairwise.and_mem.1 hpw).imp fun {i j} ⟨hi, hj, h⟩ => by
          unfold before at h ⊢
          simp only [eB i (hlm i hi), eB j (hlm j hj)] at h
          exact h
        exact Top.sorted hp hpw' (by omega)
      refine vc_sound _ _ _ (by rfl) ?_
      simp (config := { maxSteps := 1000000 }) only [go_sem, u131, u132, hb3, appendA_U]
      refine vc_sound _ _ _ (by rfl) ?_
      simp (config := { maxSteps := 1000000 }) only [go_sem, u13, appendA_U]
      have hov : Over H Hy := ⟨by omega, oldy⟩
      refine FinV.mk hov.next (hK _ _ Hy (by omega) (by rw [hsp']; exact ⟨_, by rw [hL, Int.toNat_natCast, hn]; exact hTop, rfl⟩) hov (.inr ⟨H.next, 0, Nat.le_refl _, by omega, ?_, gya⟩))
      rw [isl]
    obtain ⟨q, hq⟩ := get_of_lt (l := l) (i := m) (by omega)
    have hqn := hlm q (List.mem_of_getElem? hq)
    have gq : (ints (natsJ l))[m]? = some (lin q) := by rw [ints_get, natsJ_get hq]; rfl
    have gqn := ne_of_get gq
    have gs : (ints (sharesM least sp c fun a => decide (a ∈ l.take m)))[q]? = some (lin (least + partAt sp c q)) := by rw [ints_get, shares_at hnd hq (by omega)]; rfl
    have gsn := ne_of_get gs
    have qb : (q : Int) < n := by omega
    have wq := IntWalk.i64_in (least + partAt sp c q + 1) (by have := hpn q; have := hpl q; omega)
    have wm1 := IntWalk.i64_in ((m : Int) + 1) (by omega)
    have es : setAt (ints (sharesM least sp c fun a => decide (a ∈ l.take m))) q [.lit (.int .i64 (least + partAt sp c q + 1))] = ints (sharesM least sp c fun a => decide (a ∈ l.take (m + 1))) := by rw [setAt_ints (by rw [shares_len]; omega), shares_step hnd hq (by omega)]
    refine W.seq (vc_sound _ _ _ (by rfl) ?_)
    simp (config := { maxSteps := 1000000 }) only [go_sem, u131, u132, hb3, appendA_U]
    refine W.seq (vc_sound _ _ _ (by rfl) ?_)
    simp (config := { maxSteps := 1000000 }) only [go_sem, appendA_U]
    refine W.seq (W.block ?_)
    refine W.seq (vc_sound _ _ _ (by rfl) ?_)
    simp (config := { maxSteps := 1000000 }) only [go_sem, u130, u132, lyo, iol, gq, gqn, hb3, appendA_U]
    refine vc_sound _ _ _ (by rfl) ?_
    simp (config := { maxSteps := 1000000 }) only [go_sem, u13, lya, isl, gs, gsn, qb, wq, es, appendA_U]
    refine ⟨by omega, vc_sound _ _ _ (by rfl) ?_⟩
    simp (config := { maxSteps := 1000000 }) only [go_sem, u132, wm1, appendA_U]
    exact ⟨by rw [upd_next]; omega, ⟨m + 1, rfl, by omega, by rw [upd_next]; exact ny, fun j h => by rw [upd_get, if_neg (by omega)]; exact oldy j h, by rw [upd_get, if_neg (by omega)]; exact gyo, by rw [upd_get, if_pos rfl]⟩, by rw [h132]; simp only [lin, iv_int]; omega⟩
  obtain ⟨x, hx⟩ := get_of_lt (l := c) (i := k) (by omega)
  have hxr := hc x (List.mem_of_getElem? hx)
  have hxn := ne_of_get hx
  have sx0 : 0 ≤ sp * x := Int.mul_nonneg sp0.1 hxr.1
  have sx1 : sp * x ≤ 720 * 1099511627776 := Int.mul_le_mul sp0.2 hxr.2 hxr.1 (by omega)
  have wsx := IntWalk.i64_in (sp * x) (by omega)
  refine W.seq (vc_sound _ _ _ (by rfl) ?_)
  simp (config := { maxSteps := 1000000 }) only [go_sem, d81, d82, hb2, appendA_U]
  refine W.seq (vc_sound _ _ _ (by rfl) ?_)
  simp (config := { maxSteps := 1000000 }) only [go_sem, appendA_U]
  refine W.seq (W.block ?_)
  refine W.seq (vc_sound _ _ _ (by rfl) ?_)
  simp (config := { maxSteps := 1000000 }) only [go_sem, d80, d82, hil, hx, hxn, hb2, appendA_U]
  refine W.seq (vc_sound _ _ _ (by rfl) ?_)
  simp (config := { maxSteps := 1000000 }) only [go_sem, d11, wsx, appendA_U]
  refine W.midN (fun s' => s'.H = Hx ∧ s'.ρ 2 = lin least ∧ s'.ρ 12 = lin (leftK sp c k) ∧ s'.ρ 13 = .own H.next 0 0 n 1 ∧ s'.ρ 14 = .own (H.next + 1) 0 0 n 1 ∧ s'.ρ 15 = .own (H.next + 2) 0 0 n 1 ∧ s'.ρ 16 = lin k ∧ s'.ρ 18 = lin (partAt sp c k) ∧ s'.ρ 19 = lin (restAt sp c k) ∧ s'.ρ 82 = lin k) ?_ ?_
  · by_cases hs : c.sum > 0
    · obtain ⟨p1, p2⟩ := part_pos (sp := sp) hs hx
      have t1 : (sp * x).tdiv c.sum = partAt sp c k := by rw [p1]; exact Int.tdiv_eq_ediv_of_nonneg sx0
      have t2 : (sp * x).tmod c.sum = restAt sp c k := by rw [p2]; exact Int.tmod_eq_emod_of_nonneg sx0
      have sn : ¬ c.sum = 0 := by omega
      have wp := IntWalk.i64_in (partAt sp c k) (by have := hpn k; have := hpl k; omega)
      have wr := IntWalk.i64_in (restAt sp c k) (by have := hrb k; omega)
      refine W.seq (vc_sound _ _ _ (by rfl) ?_)
      simp (config := { maxSteps := 1000000 }) only [go_sem, d8, hs, appendA_U]
      refine W.cond (t := true) (by simp (config := { maxSteps := 1000000 }) only [go_sem, d8, hs, appendA_U]) ?_
      refine W.draw 7 [0, 0, 3, 0, 0, 24, 15] Tryd.mixed (by kernel_rfl) (by kernel_rfl) ?_
      simp (config := { maxSteps := 1000000 }) only [go_sem, d2, d8, d11, d12, d13, d14, d15, d82, sn, wsx, t1, t2, wp, wr, appendA_U]
    · obtain ⟨p1, p2⟩ := part_zero (sp := sp) hs (show k < c.length by omega)
      rw [hn] at p1 p2
      have t1 : sp.tdiv n = partAt sp c k := by rw [p1]; exact Int.tdiv_eq_ediv_of_nonneg sp0.1
      have t2 : sp.tmod n = restAt sp c k := by rw [p2]; exact Int.tmod_eq_emod_of_nonneg sp0.1
      have wp := IntWalk.i64_in (partAt sp c k) (by have := hpn k; have := hpl k; omega)
      have wr := IntWalk.i64_in (restAt sp c k) (by have := hrb k; omega)
      refine W.seq (vc_sound _ _ _ (by rfl) ?_)
      simp (config := { maxSteps := 1000000 }) only [go_sem, d8, hs, appendA_U]
      refine W.cond (t := false) (by simp (config := { maxSteps := 1000000 }) only [go_sem, d8, hs, appendA_U]) ?_
      refine W.draw 9 [0, 0, 2, 7, 0, 0, 32, 112, 15] Tryd.mixed (by kernel_rfl) (by kernel_rfl) ?_
      simp (config := { maxSteps := 1000000 }) only [go_sem, d0, d2, d8, d11, d12, d13, d14, d15, d82, hil, gn, t1, t2, wp, wr, appendA_U]
  rintro ⟨ρ3, Hq⟩ ⟨hHq, q2, q12, q13, q14, q15, q16, q18, q19, q82⟩
  simp only at hHq q2 q12 q13 q14 q15 q16 q18 q19 q82
  rw [hHq]
  have wpl := IntWalk.i64_in (least + partAt sp c k) (by have := hpn k; have := hpl k; omega)
  have lxa := get_live xa
  have iA := ints_length A
  have iB := ints_length B
  have iO := ints_length O
  rw [lA] at iA
  rw [lB] at iB
  rw [lO] at iO
  have sA : setAt (ints A) k [.lit (.int .i64 (least + partAt sp c k))] = ints (A.set k (least + partAt sp c k)) := setAt_ints (by omega)
  have sB : setAt (ints B) k [.lit (.int .i64 (restAt sp c k))] = ints (B.set k (restAt sp c k)) := setAt_ints (by omega)
  have sO : setAt (ints O) k [.lit (.int .i64 (k : Int))] = ints (O.set k (k : Int)) := setAt_ints (by omega)
  obtain ⟨Ha, hHa⟩ : ∃ Ha, Ha = Hx.upd H.next (.arr 0 3 (ints (A.set k (least + partAt sp c k)))) := ⟨_, rfl⟩
  obtain ⟨Hb, hHb⟩ : ∃ Hb, Hb = Ha.upd (H.next + 1) (.arr 0 3 (ints (B.set k (restAt sp c k)))) := ⟨_, rfl⟩
  obtain ⟨Ho, hHo⟩ : ∃ Ho, Ho = Hb.upd (H.next + 2) (.arr 0 3 (ints (O.set k (k : Int)))) := ⟨_, rfl⟩
  have lxb : Ha.live (H.next + 1) 0 = some (3, ints B) := get_live (by rw [hHa, upd_get, if_neg (by omega)]; exact xb)
  have lxo : Hb.live (H.next + 2) 0 = some (3, ints O) := get_live (by rw [hHb, upd_get, if_neg (by omega), hHa, upd_get, if_neg (by omega)]; exact xo)
  have gax : ∀ b : Blk, Hx.upd H.next b = Hx.upd H.next b := fun _ => rfl
  refine W.seq (vc_sound _ _ _ (by rfl) ?_)
  simp (config := { maxSteps := 1000000 }) only [go_sem, q2, q13, q14, q15, q16, q18, q19, lxa, iA, wpl, hb2, sA, ← hHa, lxb, iB, sB, ← hHb, lxo, iO, sO, ← hHo, appendA_U]
  have wlk := IntWalk.i64_in (leftK sp c k - partAt sp c k) (by
    have h1 := hrs k
    have h2 := hpl k
    have h3 := hpn k
    have : sp * (k : Int) ≤ 720 * 1024 := Int.mul_le_mul sp0.2 (by omega) (by omega) (by omega)
    omega)
  have wk := IntWalk.i64_in ((k : Int) + 1) (by omega)
  refine ⟨by omega, by omega, by omega, vc_sound _ _ _ (by rfl) ?_⟩
  simp (config := { maxSteps := 1000000 }) only [go_sem, q12, q18, wlk, appendA_U]
  refine vc_sound _ _ _ (by rfl) ?_
  simp (config := { maxSteps := 1000000 }) only [go_sem, q82, wk, appendA_U]
  have hn' : Ho.next = Hx.next := by rw [hHo, hHb, hHa]; rfl
  refine ⟨by omega, ⟨k + 1, A.set k (least + partAt sp c k), B.set k (restAt sp c k), O.set k (k : Int), rfl, by omega, by rw [leftK_succ], by omega, fun j h => ?_, ?_, ?_, ?_, by simp [lA, lB, lO], fun j hj => ?_⟩, by rw [h82]; simp only [lin, iv_int]; omega⟩
  · rw [hHo, upd_get, if_neg (by omega), hHb, upd_get, if_neg (by omega), hHa, upd_get, if_neg (by omega)]
    exact hold j h
  · rw [hHo, upd_get, if_neg (by omega), hHb, upd_get, if_neg (by omega), hHa, upd_get, if_pos rfl]
  · rw [hHo, upd_get, if_neg (by omega), hHb, upd_get, if_pos rfl]
  · rw [hHo, upd_get, if_pos rfl]
  · by_cases e : j = k
    · subst e
      exact ⟨by rw [List.getElem?_set_self (by omega)], by rw [List.getElem?_set_self (by omega)], by rw [List.getElem?_set_self (by omega)]⟩
    · obtain ⟨z1, z2, z3⟩ := hall j (by omega)
      exact ⟨by rw [List.getElem?_set_ne (fun h => e h.symm)]; exact z1, by rw [List.getElem?_set_ne (fun h => e h.symm)]; exact z2, by rw [List.getElem?_set_ne (fun h => e h.symm)]; exact z3⟩

def parC (ns : List NodeP) (x : NodeP) : List Int := atL (cardsL ns) x.parents
def idxL : List Int → List Int → Int
  | _ :: cs, v :: vs => v * prodL cs + idxL cs vs
  | _, _ => 0
def FitsC (cs vs : List Int) : Prop := vs.length = cs.length ∧ ∀ (k : Nat) (c v : Int), cs[k]? = some c → vs[k]? = some v → 0 ≤ v ∧ v < c
theorem FitsC.tail {c v : Int} {cs vs : List Int} (h : FitsC (c :: cs) (v :: vs)) : FitsC cs vs := ⟨by simpa using h.1, fun k c v h1 h2 => h.2 (k + 1) c v (by simpa using h1) (by simpa using h2)⟩
theorem FitsC.head {c v : Int} {cs vs : List Int} (h : FitsC (c :: cs) (v :: vs)) : 0 ≤ v ∧ v < c := h.2 0 c v (by simp) (by simp)
theorem FitsC.pos {cs vs : List Int} (h : FitsC cs vs) : ∀ c ∈ cs, 1 ≤ c := fun c hc => by
  obtain ⟨k, hk⟩ := List.mem_iff_getElem?.1 hc
  obtain ⟨v, hv⟩ := get_of_lt (l := vs) (i := k) (by rw [h.1]; exact get_lt hk)
  have := h.2 k c v hk hv
  omega
def SmallC (l : List Int) : Prop := l.length ≤ 12 ∧ ∀ x ∈ l, 0 ≤ x ∧ x ≤ 8
theorem SmallC.take {l : List Int} (h : SmallC l) (k : Nat) : SmallC (l.take k) := ⟨by have := h.1; simp; omega, fun x hx => h.2 x (List.mem_of_mem_take hx)⟩
theorem SmallC.drop {l : List Int} (h : SmallC l) (k : Nat) : SmallC (l.drop k) := ⟨by have := h.1; simp; omega, fun x hx => h.2 x (List.mem_of_mem_drop hx)⟩
theorem eq_spec (x y : List Int) (hx : (x.length : Int) < 2 ^ 62) (H : AHeap) (K : ARes → AHeap → Prop) (hK : K (.ret (.lit (.bool (decide (x = y))))) H) : ACall Tryd.prog G0 13 [vecI x, vecI y] H K := by
  have no : ¬ x = y → FinV Tryd.prog G0 H K (.lit (.bool false)) H := fun h => FinV.mk (Nat.le_refl _) (by rw [decide_eq_false h] at hK; exact hK)
  refine ACall.of_body (n := 26) (rs := [.tmp 4]) Tryd.func13 rfl rfl rfl (by decide) (by kernel_rfl) (by simp) ?_
  by_cases hl : (x.length : Int) = y.length
  rotate_left
  · simp (config := { maxSteps := 1000000 }) only [go_sem, hl, appendA_U]
    exact no fun h => hl (by rw [h])
  simp (config := { maxSteps := 1000000 }) only [go_sem, hl, appendA_U]
  refine W.loop0 67100720 (by rfl) (fun ρ H' => H' = H ∧ ∃ k : Nat, ρ 13 = lin k ∧ k ≤ x.length ∧ x.take k = y.take k) (fun ρ H => x.length - (iv (ρ 13)).toNat) ?_ ?_
  · simp (config := { maxSteps := 1000000 }) only [go_sem, appendA_U]
    exact ⟨0, rfl, by omega, rfl⟩
  rintro ρ H' ⟨rfl, k, h13, hk, ht⟩
  refine vc_sound _ _ _ (by rfl) ?_
  by_cases hb : (k : Int) < y.length
  · obtain ⟨a, ha⟩ := get_of_lt (l := x) (i := k) (by omega)
    obtain ⟨b, hbk⟩ := get_of_lt (l := y) (i := k) (by omega)
    have hxn := ne_of_get ha
    have hyn := ne_of_get hbk
    have hbx : (k : Int) < x.length := by omega
    simp (config := { maxSteps := 1000000 }) only [go_sem, h13, hb, hbx, hl, appendA_U]
    refine W.draw 8 [0, 0, 3, 7, 0, 0, 48, 112] Tryd.mixed (by kernel_rfl) (by kernel_rfl) ?_
    by_cases he : a = b
    · subst he
      simp (config := { maxSteps := 1000000 }) only [go_sem, h13, hb, hbx, ha, hbk, hxn, hyn, appendA_U]
      rw [IntWalk.i64_in ((k : Int) + 1) (by omega)]
      exact ⟨⟨k + 1, by simp, by omega, by rw [take_succ_get ha, take_succ_get hbk, ht]⟩, by omega⟩
    · simp (config := { maxSteps := 1000000 }) only [go_sem, h13, hb, hbx, ha, hbk, hxn, hyn, he, appendA_U]
      exact no fun h => he (by rw [h, hbk] at ha; exact (Option.some.inj ha).symm)
  · simp (config := { maxSteps := 1000000 }) only [go_sem, h13, hb, hl, appendA_U]
    refine FinV.mk (Nat.le_refl _) ?_
    have : x = y := by
      rw [List.take_of_length_le (by omega), List.take_of_length_le (by omega)] at ht
      exact ht
    rw [decide_eq_true this] at hK
    exact hK
instance placesDec (l : List Int) (n : Int) : Decidable (PlacesOk l n) := by unfold PlacesOk; infer_instance
theorem PlacesOk.nil {n : Int} : PlacesOk [] n := ⟨.nil, fun _ h => by cases h⟩
theorem PlacesOk.take {l : List Int} {n : Int} (h : PlacesOk l n) (k : Nat) : PlacesOk (l.take k) n := ⟨h.1.sublist (List.take_sublist k l), fun p hp => h.2 p (List.mem_of_mem_take hp)⟩
theorem PlacesOk.lt {l : List Int} {n : Int} (h : PlacesOk l n) {i j : Nat} {a b : Int} (ha : l[i]? = some a) (hb : l[j]? = some b) (hij : i < j) : a < b := by
  have := List.pairwise_iff_getElem.1 h.1 i j (get_lt ha) (get_lt hb) hij
  have e1 := List.getElem?_eq_getElem (get_lt ha)
  have e2 := List.getElem?_eq_getElem (get_lt hb)
  rw [ha] at e1; rw [hb] at e2
  rw [Option.some.inj e1, Option.some.inj e2]; exact this
theorem PlacesOk.len {l : List Int} {n : Int} (h : PlacesOk l n) : (l.length : Int) ≤ max n 0 := by
  -- the k-th place is at least k
  have key : ∀ (k : Nat) (a : Int), l[k]? = some a → (k : Int) ≤ a := by
    intro k
    induction k with
    | zero => intro a ha; have := h.2 a (List.mem_of_getElem? ha); omega
    | succ k ih =>
      intro a ha
      obtain ⟨b, hb⟩ := get_of_lt (l := l) (i := k) (by have := get_lt ha; omega)
      have := ih b hb
      have := h.lt hb ha (by omega)
      omega
  rcases Nat.eq_zero_or_pos l.length with h0 | h0
  · omega
  · obtain ⟨a, ha⟩ := get_of_lt (l := l) (i := l.length - 1) (by omega)
    have h1 := key _ a ha
    have h2 := h.2 a (List.mem_of_getElem? ha)
    omega
end Go.Proofs
namespace Go.Hx
theorem Over.live {H H' : AHeap} (h : Over H H') {id g : Nat} (hi : id < H.next) : H'.live id g = H.live id g := by
  unfold AHeap.live; rw [h.old id hi]
theorem Over.upd {H H' : AHeap} (h : Over H H') {id : Nat} (hi : H.next ≤ id) (b : Blk) : Over H (H'.upd id b) := ⟨h.next, fun j hj => by rw [upd_get, if_neg (by omega)]; exact h.old j hj⟩
theorem live_upd_other {H : AHeap} {id j g : Nat} {b : Blk} (h : j ≠ id) : (H.upd id b).live j g = H.live j g := by unfold AHeap.live; rw [upd_get, if_neg h]
@[go_sem] theorem partU_func (a b : Array TypeId) (c : Bool) (n : Nat) (cells : List AVal) (off : Nat) : partU (some (.func a b c)) n cells off = cells[off]? := rfl
end Go.Hx
namespace Go.Proofs
open Go.Hx
theorem vecV_one (l : List (List Int)) : (vecV l).one = true := rfl
theorem vecV_cells (l : List (List Int)) : (vecV l).cells = [vecV l] := rfl
theorem nodesV_one (l : List NodeP) : (nodesV l).one = true := rfl
theorem nodesV_cells (l : List NodeP) : (nodesV l).cells = [nodesV l] := rfl
theorem utilsV_one (l : List UtilP) : (utilsV l).one = true := rfl
theorem utilsV_cells (l : List UtilP) : (utilsV l).cells = [utilsV l] := rfl
attribute [go_sem] vecV_one vecV_cells nodesV_one nodesV_cells utilsV_one utilsV_cells
structure OwnI (H H' : AHeap) (id : Nat) (c : List Int) : Prop where
  ov : Over H H'
  lo : H.next ≤ id
  hi : id < H'.next
  get : H'.get id = some (.arr 0 3 (ints c))
theorem OwnI.live {H H' : AHeap} {id : Nat} {c : List Int} (h : OwnI H H' id c) : H'.live id 0 = some (3, ints c) := get_live h.get
theorem OwnI.ne {H H' : AHeap} {id : Nat} {c : List Int} (h : OwnI H H' id c) : ¬ id = H'.next := by have := h.hi; omega
theorem OwnI.over {H H' H2 : AHeap} {id : Nat} {c : List Int} (h : OwnI H H' id c) (o : Over H' H2) : OwnI H H2 id c := ⟨h.ov.trans o, h.lo, Nat.lt_of_lt_of_le h.hi o.next, (o.old id h.hi).trans h.get⟩
theorem OwnI.store {H H' : AHeap} {id : Nat} {c : List Int} (h : OwnI H H' id c) {k : Nat} (hk : k < c.length) (x : Int) : OwnI H (H'.upd id (.arr 0 3 (setAt (ints c) k [.lit (.int .i64 x)]))) id (c.set k x) :=
  ⟨⟨h.ov.next, fun i hi => by rw [upd_get, if_neg (by have := h.lo; omega)]; exact h.ov.old i hi⟩, h.lo, h.hi, by rw [upd_get, if_pos rfl, setAt_ints hk]⟩
theorem OwnI.new {H : AHeap} (L : List Blk) (n : Nat) : OwnI H (ext H (.arr 0 3 (List.replicate n (.lit (.int .i64 0))) :: L)) H.next (List.replicate n 0) :=
  ⟨.ext _ _, Nat.le_refl _, by simp [ext_next], by rw [get_ext0]; simp [ints, lin]⟩
theorem OwnI.fin {H H' : AHeap} {id : Nat} {c : List Int} {K : ARes → AHeap → Prop} (hcl : Clo H) (h : OwnI H H' id c) {n : Nat} (hn : n = c.length) (hK : K (.ret (vecI c)) H) : FinV Tryd.prog G0 H K (.own id 0 0 n 1) H' := by
  subst hn
  refine FinV.dropO G0_ok hcl h.ov ?_ hK
  exact .ints h.lo h.get (by simp) fun i hi => by simp [ints_get, hi]
theorem getD_of_get {α : Type} {l : List α} {i : Nat} {a d : α} (h : l[i]? = some a) : l.getD i d = a := by rw [List.getD_eq_getElem?_getD, h]; rfl
theorem atL_len (l p : List Int) : (atL l p).length = p.length := by simp [atL]
theorem atL_get {l p : List Int} {k : Nat} {q : Int} (h : p[k]? = some q) : (atL l p)[k]? = some (l.getD q.toNat 0) := by unfold atL; rw [List.getElem?_map, h]; rfl

def setN (l : List Int) : Nat := l.foldl (fun s p => s ||| 2 ^ p.toNat) 0
def Sub (s t : Nat) : Prop := ∀ i, s.testBit i = true → t.testBit i = true
theorem Sub.refl (s : Nat) : Sub s s := fun _ h => h
theorem Sub.trans {s t u : Nat} (h : Sub s t) (h' : Sub t u) : Sub s u := fun i hi => h' i (h i hi)
theorem Sub.or {s t u : Nat} (h : Sub s u) (h' : Sub t u) : Sub (s ||| t) u := fun i hi => by
  rw [Nat.testBit_or, Bool.or_eq_true] at hi
  exact hi.elim (h i) (h' i)
theorem Sub.left (s t : Nat) : Sub s (s ||| t) := fun i hi => by rw [Nat.testBit_or, hi]; rfl
theorem Sub.right (s t : Nat) : Sub t (s ||| t) := fun i hi => by rw [Nat.testBit_or, hi]; simp
theorem subN_zero {a b : Nat} (ha : a < 2 ^ 64) : subN a b = 0 ↔ Sub a b := by
  constructor
  · intro h i hi
    have := subN_bit (a := a) (b := b) (i := i) ha
    rw [h, Nat.zero_testBit, hi] at this
    simpa using this.symm
  · intro h
    apply Nat.eq_of_testBit_eq
    intro i
    rw [subN_bit ha, Nat.zero_testBit]
    cases hi : a.testBit i
    · rfl
    · rw [h i hi]; rfl

def upStep (ps : List Nat) (s v : Nat) : Nat := if s.testBit v = true then s ||| ps.getD v 0 else s
def upOnce (ps : List Nat) (s : Nat) : Nat := (List.range ps.length).foldl (upStep ps) s
def upN (ps : List Nat) : Nat → Nat → Nat
  | 0, s => s
  | k + 1, s => upOnce ps (upN ps k s)
def upL (ps : List Nat) (s : Nat) : Nat := upN ps ps.length s
def AcycB (ps : List Nat) : Prop := ∀ v, v < ps.length → (upL ps (ps.getD v 0)).testBit v = false
def Closed (ps : List Nat) (t : Nat) : Prop := ∀ v, v < ps.length → t.testBit v = true → Sub (ps.getD v 0) t
theorem foldl_closed {ps : List Nat} {t : Nat} (hc : Closed ps t) (l : List Nat) (hl : ∀ v ∈ l, v < ps.length) : ∀ s, Sub s t → Sub (l.foldl (upStep ps) s) t := by
  induction l with
  | nil => exact fun s h => h
  | cons v l ih =>
    intro s h
    refine ih (fun v hv => hl v (by simp [hv])) _ ?_
    unfold upStep
    split
    · rename_i hv
      exact h.or (hc v (hl v (by simp)) (h v hv))
    · exact h
theorem upOnce_closed {ps : List Nat} {t : Nat} (hc : Closed ps t) {s : Nat} (h : Sub s t) : Sub (upOnce ps s) t := foldl_closed hc _ (fun v hv => List.mem_range.1 hv) s h
theorem upN_closed {ps : List Nat} {t : Nat} (hc : Closed ps t) (k : Nat) {s : Nat} (h : Sub s t) : Sub (upN ps k s) t := by
  induction k with
  | zero => exact h
  | succ k ih => exact upOnce_closed hc ih
theorem or_pow_bit (d v i : Nat) : (d ||| 2 ^ v).testBit i = (d.testBit i || decide (v = i)) := by rw [Nat.testBit_or, Nat.testBit_two_pow]
end Go.Proofs
namespace Go.Hx
attribute [go_sem] bitV
end Go.Hx
namespace Go.Proofs
open Go.Hx
def setsL (ns : List NodeP) : List Nat := ns.map fun x => setN x.parents
def RowOk (g card : Int) (r : List Int) : Prop := (r.length : Int) = card ∧ (∀ w ∈ r, 0 ≤ w ∧ w ≤ g) ∧ r.sum = g
def NodeOk (g : Int) (ns : List NodeP) (x : NodeP) : Prop := (x.rows.length : Int) = prodL (parC ns x) ∧ ∀ r ∈ x.rows, RowOk g x.card r
structure NetOk (g : Int) (ns : List NodeP) : Prop where
  g1 : 1 ≤ g ∧ g ≤ 60
  n1 : 1 ≤ ns.length ∧ ns.length ≤ 8
  node : ∀ x ∈ ns, (1 ≤ x.card ∧ x.card ≤ 4) ∧ PlacesOk x.parents ns.length
  size : prodL (cardsL ns) ≤ 1024
  acyc : AcycB (setsL ns)
  rows : ∀ x ∈ ns, NodeOk g ns x
def NetFit (ns : List NodeP) : Prop := (ns.length : Int) < 2 ^ 38 ∧ ∀ x ∈ ns, (x.parents.length : Int) < 2 ^ 38 ∧ (x.rows.length : Int) < 2 ^ 38 ∧ ∀ r ∈ x.rows, (r.length : Int) < 2 ^ 38
def CaseOk (cs r : List Int) : Prop := r.length = cs.length ∧ ∀ (v : Nat) (c x : Int), cs[v]? = some c → r[v]? = some x → -1 ≤ x ∧ x < c
structure DataOk (cs : List Int) (xs : List (List Int)) : Prop where
  c1 : 1 ≤ cs.length ∧ cs.length ≤ 6
  x1 : xs.length ≤ 40
  card : ∀ c ∈ cs, 2 ≤ c ∧ c ≤ 4
  size : prodL cs ≤ 1024
  row : ∀ r ∈ xs, CaseOk cs r
theorem CaseOk.of {cs r : List Int} (hl : r.length = cs.length) (h : ∀ (v : Nat) (c x : Int), v < r.length → cs[v]? = some c → r[v]? = some x → -1 ≤ x ∧ x < c) : CaseOk cs r := ⟨hl, fun v c x h1 h2 => h v c x (get_lt h2) h1 h2⟩
end Go.Proofs
namespace Go.Hx
variable {P : Program} {G : Nat → Option (List AVal)} {n : Nat} {rd : Option Nat} {Q : AX → St → Prop}

end Go.Hx
namespace Go.Proofs
open Go.Hx
end Go.Proofs
namespace Go.Hx
end Go.Hx
namespace Go.Proofs
open Go.Hx
structure RdS (g : Int) (ns : List NodeP) (H H' : AHeap) (c : List Int) (s : List Nat) : Prop where
  nx : H.next + 5 ≤ H'.next
  ov : Over H H'
  b0 : H'.get H.next = some (.arr 0 61 [.lit (.int .i64 g), .vec ns.length (nodesC ns)])
  b1 : H'.get (H.next + 1) = some (.arr 0 153 [.lit (.int .i64 0), .lit (.slice none 0 0), .lit (.slice none 0 0), .lit (.slice none 0 0), .lit (.slice none 0 0)])
  b2 : H'.get (H.next + 2) = some (.arr 0 3 (ints c))
  b3 : H'.get (H.next + 3) = some (.arr 0 100 (s.map bitV))
  b4 : H'.get (H.next + 4) = some (.arr 0 153 [.lit (.int .i64 g), .vec ns.length (nodesC ns), .own (H.next + 2) 0 0 ns.length 1, .own (H.next + 3) 0 0 ns.length 1, .lit (.slice none 0 0)])
  cl : c.length = ns.length
  sl : s.length = ns.length
theorem RdS.over {g : Int} {ns : List NodeP} {H H' H2 : AHeap} {c : List Int} {s : List Nat} (h : RdS g ns H H' c s) (o : Over H' H2) : RdS g ns H H2 c s where
  nx := Nat.le_trans h.nx o.next
  ov := h.ov.trans o
  b0 := (o.old _ (by have := h.nx; omega)).trans h.b0
  b1 := (o.old _ (by have := h.nx; omega)).trans h.b1
  b2 := (o.old _ (by have := h.nx; omega)).trans h.b2
  b3 := (o.old _ (by have := h.nx; omega)).trans h.b3
  b4 := (o.old _ (by have := h.nx; omega)).trans h.b4
  cl := h.cl
  sl := h.sl
theorem RdS.l0 {g : Int} {ns : List NodeP} {H H' : AHeap} {c : List Int} {s : List Nat} (h : RdS g ns H H' c s) : H'.live H.next 0 = some (61, [.lit (.int .i64 g), .vec ns.length (nodesC ns)]) := get_live h.b0
theorem RdS.l1 {g : Int} {ns : List NodeP} {H H' : AHeap} {c : List Int} {s : List Nat} (h : RdS g ns H H' c s) : H'.live (H.next + 1) 0 = some (153, [.lit (.int .i64 0), .lit (.slice none 0 0), .lit (.slice none 0 0), .lit (.slice none 0 0), .lit (.slice none 0 0)]) := get_live h.b1
theorem RdS.l2 {g : Int} {ns : List NodeP} {H H' : AHeap} {c : List Int} {s : List Nat} (h : RdS g ns H H' c s) : H'.live (H.next + 2) 0 = some (3, ints c) := get_live h.b2
theorem RdS.l3 {g : Int} {ns : List NodeP} {H H' : AHeap} {c : List Int} {s : List Nat} (h : RdS g ns H H' c s) : H'.live (H.next + 3) 0 = some (100, s.map bitV) := get_live h.b3
theorem RdS.l4 {g : Int} {ns : List NodeP} {H H' : AHeap} {c : List Int} {s : List Nat} (h : RdS g ns H H' c s) : H'.live (H.next + 4) 0 = some (153, [.lit (.int .i64 g), .vec ns.length (nodesC ns), .own (H.next + 2) 0 0 ns.length 1, .own (H.next + 3) 0 0 ns.length 1, .lit (.slice none 0 0)]) := get_live h.b4
def decK (D v : Nat) : List Nat := (List.range v).filter fun v => D.testBit v
def placeD (D v : Nat) : Nat := (decK D v).length
def decL (d : InfP) : List Nat := decK d.decs d.nodes.length
def unitRow (g card x : Int) : List Int := (List.replicate card.toNat 0).set x.toNat g
def rowsN (ns : List NodeP) (x : NodeP) : Nat := (prodL (parC ns x)).toNat
def decRows (g : Int) (ns : List NodeP) (c : Nat → Nat → Int) (p : Nat) (x : NodeP) : List (List Int) := (List.range (rowsN ns x)).map fun r => unitRow g x.card (c p r)
def fillN (d : InfP) (c : Nat → Nat → Int) (k v : Nat) (x : NodeP) : NodeP := if d.decs.testBit v = true ∧ placeD d.decs v < k then { x with rows := x.rows ++ decRows d.grain d.nodes c (placeD d.decs v) x } else x
def fillK (d : InfP) (c : Nat → Nat → Int) (k : Nat) : List NodeP := d.nodes.zipIdx.map fun p => fillN d c k p.2 p.1
def fillL (d : InfP) (c : Nat → Nat → Int) : List NodeP := fillK d c (decL d).length
structure RightN (d : InfP) : Prop where
  n1 : 1 ≤ d.nodes.length ∧ d.nodes.length ≤ 8
  decs : d.decs >>> d.nodes.length = 0
  card : ∀ x ∈ d.nodes, 1 ≤ x.card ∧ x.card ≤ 4
  dec : ∀ v x, d.nodes[v]? = some x → d.decs.testBit v = true → x.rows = [] ∧ PlacesOk x.parents d.nodes.length
structure InfFit (d : InfP) : Prop where
  nodes : NetFit d.nodes
  decs : d.decs < 2 ^ 64
  utils : (d.utils.length : Int) < 2 ^ 38 ∧ ∀ u ∈ d.utils, (u.vars.length : Int) < 2 ^ 38 ∧ (u.w.length : Int) < 2 ^ 38

end Go.Proofs
namespace Go.Hx
variable {P : Program} {G : Nat → Option (List AVal)}
theorem OwnG.ne {lo : Nat} {H : AHeap} {e : TypeId} {v : AVal} {cs : List AVal} (h : OwnG lo H e v cs) {k : Nat} (hk : k < lo) : ∀ g n, v ≠ .own k g 0 n 1 := fun g n he => by
  rcases h with ⟨h, _⟩ | ⟨i2, g2, a1, _, h, _⟩
  · rw [h] at he; cases he
  · rw [h] at he; have := AVal.own.inj he; omega
def OwnZ (lo : Nat) (H : AHeap) (e : TypeId) (z : Nat) (v : AVal) (n : Nat) (cs : List AVal) : Prop :=
  (v = .lit (.slice none 0 0) ∧ n = 0 ∧ cs = []) ∨ ∃ id g, lo ≤ id ∧ id < H.next ∧ v = .own id g 0 n z ∧ cs.length = n * z ∧ H.get id = some (.arr g e cs)
theorem OwnZ.nil {lo : Nat} {H : AHeap} {e : TypeId} {z : Nat} : OwnZ lo H e z (.lit (.slice none 0 0)) 0 [] := .inl ⟨rfl, rfl, rfl⟩
theorem OwnZ.keep {lo : Nat} {H H' : AHeap} {e : TypeId} {z n : Nat} {v : AVal} {cs : List AVal} (h : OwnZ lo H e z v n cs) (hn : H.next ≤ H'.next) (hk : ∀ id g, lo ≤ id → id < H.next → v = .own id g 0 n z → H'.get id = H.get id) : OwnZ lo H' e z v n cs := by
  rcases h with h | ⟨id, g, h1, h2, h3, h4, h5⟩
  · exact .inl h
  · exact .inr ⟨id, g, h1, by omega, h3, h4, (hk id g h1 h2 h3).trans h5⟩
theorem OwnZ.over {lo : Nat} {H H' : AHeap} {e : TypeId} {z n : Nat} {v : AVal} {cs : List AVal} (h : OwnZ lo H e z v n cs) (ho : Over H H') : OwnZ lo H' e z v n cs := h.keep ho.next fun id _ _ h2 _ => ho.old id h2
theorem OwnZ.one {lo : Nat} {H : AHeap} {e : TypeId} {z n : Nat} {v : AVal} {cs : List AVal} (h : OwnZ lo H e z v n cs) : v.one = true := by
  rcases h with ⟨rfl, _⟩ | ⟨_, _, _, _, rfl, _⟩ <;> rfl
theorem OwnZ.cells {lo : Nat} {H : AHeap} {e : TypeId} {z n : Nat} {v : AVal} {cs : List AVal} (h : OwnZ lo H e z v n cs) : v.cells = [v] := by
  rcases h with ⟨rfl, _⟩ | ⟨_, _, _, _, rfl, _⟩ <;> rfl
theorem OwnZ.ne {lo : Nat} {H : AHeap} {e : TypeId} {z m : Nat} {v : AVal} {cs : List AVal} (h : OwnZ lo H e z v m cs) {k : Nat} (hk : k < lo) : ∀ g n, v ≠ .own k g 0 n z := fun g n he => by
  rcases h with ⟨h, _⟩ | ⟨i2, g2, a1, _, h, _⟩
  · rw [h] at he; cases he
  · rw [h] at he; have := AVal.own.inj he; omega
end Go.Hx
namespace Go.Proofs
open Go.Hx
def rowsE (x : NodeP) : AVal := if x.rows = [] then .lit (.slice none 0 0) else vecV x.rows
structure NodesQ (e : Nat → Prop) (ns : List NodeP) (cs : List AVal) : Prop where
  len : cs.length = ns.length * 3
  node : ∀ (v : Nat) (x : NodeP), ns[v]? = some x → ∃ rv, cs[v * 3]? = some (lin x.card) ∧ cs[v * 3 + 1]? = some (vecI x.parents) ∧ cs[v * 3 + 2]? = some rv ∧ (rv = vecV x.rows ∨ rv = rowsE x) ∧ (e v → rv = rowsE x)
theorem NodesQ.c0 {e : Nat → Prop} {ns : List NodeP} {cs : List AVal} (h : NodesQ e ns cs) {v : Nat} {x : NodeP} (hx : ns[v]? = some x) : cs[v * 3]? = some (lin x.card) := (h.node v x hx).elim fun _ h => h.1
theorem NodesQ.c1 {e : Nat → Prop} {ns : List NodeP} {cs : List AVal} (h : NodesQ e ns cs) {v : Nat} {x : NodeP} (hx : ns[v]? = some x) : cs[v * 3 + 1]? = some (vecI x.parents) := (h.node v x hx).elim fun _ h => h.2.1
theorem NodesQ.ne {e : Nat → Prop} {ns : List NodeP} {cs : List AVal} (h : NodesQ e ns cs) {v : Nat} {x : NodeP} (hx : ns[v]? = some x) : ¬ cs = [] := fun he => by
  have := h.c0 hx; rw [he] at this; simp at this
theorem NodesQ.part {e : Nat → Prop} {ns : List NodeP} {cs : List AVal} (h : NodesQ e ns cs) {v : Nat} {x : NodeP} (hx : ns[v]? = some x) : ∃ rv, (cs.drop (v * 3)).take 3 = [lin x.card, vecI x.parents, rv] ∧ cs[v * 3 + 2]? = some rv ∧ (rv = vecV x.rows ∨ rv = rowsE x) ∧ (e v → rv = rowsE x) := by
  obtain ⟨rv, a, b, c, d, f⟩ := h.node v x hx
  refine ⟨rv, ?_, c, d, f⟩
  have h3 := get_lt c
  rw [List.drop_eq_getElem_cons (by omega), List.drop_eq_getElem_cons (by omega), List.drop_eq_getElem_cons (by omega)]
  simp only [List.take_succ_cons, List.take_zero]
  rw [List.getElem?_eq_getElem (by omega)] at a b c
  rw [Option.some.inj a, Option.some.inj b, Option.some.inj c]
theorem NodesQ.nil {e : Nat → Prop} : NodesQ e [] [] := ⟨rfl, fun v x hx => by simp at hx⟩
theorem NodesQ.mono {e e' : Nat → Prop} {ns : List NodeP} {cs : List AVal} (h : NodesQ e ns cs) (he : ∀ v, e' v → e v) : NodesQ e' ns cs := ⟨h.len, fun v x hx => by
  obtain ⟨r, a, b, c, d, f⟩ := h.node v x hx
  exact ⟨r, a, b, c, d, fun h => f (he v h)⟩⟩
structure UtilOk (ns : List NodeP) (u : UtilP) : Prop where
  vars : PlacesOk u.vars ns.length
  size : (u.w.length : Int) = prodL (atL (cardsL ns) u.vars)
  w : ∀ x ∈ u.w, -100 ≤ x ∧ x ≤ 100
def UtilsOk (d : InfP) : Prop := d.utils.length ≤ 4 ∧ ∀ u ∈ d.utils, UtilOk d.nodes u
structure InfOk (d : InfP) : Prop where
  n : RightN d
  net : NetOk d.grain (fillL d fun _ _ => 0)
  utils : UtilsOk d
structure PolOk (d : InfP) (p : List (List Int)) : Prop where
  len : p.length = (decL d).length
  row : ∀ (k v : Nat) (x : NodeP) (l : List Int), (decL d)[k]? = some v → d.nodes[v]? = some x → p[k]? = some l → l.length = rowsN d.nodes x ∧ ∀ a ∈ l, 0 ≤ a ∧ a < x.card
end Go.Proofs
namespace Go.Hx
variable {P : Program} {G : Nat → Option (List AVal)} {n : Nat} {rd : Option Nat} {Q : AX → St → Prop}

end Go.Hx
namespace Go.Proofs
open Go.Hx
end Go.Proofs
