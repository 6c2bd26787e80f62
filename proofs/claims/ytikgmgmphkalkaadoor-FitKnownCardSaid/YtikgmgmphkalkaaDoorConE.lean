/- Own work: contracts. -/
import Derived.Test.YtikgmgmphkalkaaDoorConD
import Derived.Test.YtikgmgmphkalkaaDoorConB
set_option linter.all false
set_option maxRecDepth 100000
namespace Go.Hx
theorem shr8N {P : Program} {t : TypeId} {x y : Operand} {k' : IntKind} {a : Nat} : binA P .shr t x y (.lit (.int .u64 (a : Int))) (.lit (.int k' 8)) = some (.lit (.int .u64 ((a / 256 : Nat) : Int))) := by
  rw [bin_shr (by decide)]
  have e : (a : Int).fdiv (2 ^ (min (8 : Int).toNat (IntKind.bits .u64))) = ((a / 256 : Nat) : Int) := by
    rw [Int.fdiv_eq_ediv_of_nonneg _ (by exact_mod_cast Nat.zero_le _)]
    push_cast
    rfl
  rw [e]
theorem Clo.updN {H : AHeap} (hc : Clo H) {id : Nat} (hi : id < H.next) (g : Nat) (e : TypeId) (x : List Int) : Clo (H.upd id (.arr g e (ints x))) := by
  refine ⟨fun j b hb => ?_, fun j b hb => ?_⟩
  · rw [upd_get] at hb
    split at hb
    · rename_i h; rw [h]; exact hi
    · exact hc.lt j b hb
  · rw [upd_get] at hb
    split at hb
    · cases hb
      exact fun i hi => by simp only [ints, List.getElem_map]; exact .lit _
    · exact hc.below j b hb
end Go.Hx
namespace Go.Proofs
open Go.Hx
def tabLen (s : ByteArray) : Bool := s.size == 256 && (List.range 256).all fun i => Nat.ble (s[i]!).toNat 8 && (i == 0 || (Nat.ble 1 (s[i]!).toNat && Nat.ble (2 ^ ((s[i]!).toNat - 1)) i))
theorem wpo_len {s : ByteArray} {i : Nat} {F : AVal → Prop} (hs : tabLen s = true) (h0 : i ≠ 0) (hi : i < 256) (h : ∀ L : Nat, L ≤ 8 → 1 ≤ L → 2 ^ (L - 1) ≤ i → F (.lit (.int .u8 (L : Int)))) : wpo (indexA Tryd.prog 9 (.lit (.string s)) (.lit (.int .u8 (i : Int)))) F := by
  unfold tabLen at hs
  rw [Bool.and_eq_true, List.all_eq_true] at hs
  have h1 := hs.2 i (List.mem_range.2 hi)
  have hz : s.size = 256 := by simpa using hs.1
  have ix : indexA Tryd.prog 9 (.lit (.string s)) (.lit (.int .u8 (i : Int))) = some (.lit (.int .u8 (((s[i]!).toNat : Nat) : Int))) := by
    unfold indexA
    simp only []
    have e1 : s[i]? = some s[i]! := by
      rw [getElem!_pos s i (by omega)]
      exact getElem?_pos s i (by omega)
    have ht : Tryd.prog.underlying 9 = some .string := Tryd.underlying9
    simp [Instr.index, asIntOf, underlying, program, ht, pureRun, bind, Sem.bind, pure, e1]
  rw [ix, wpo_some]
  simp only [Bool.and_eq_true, Bool.or_eq_true, beq_iff_eq] at h1
  have b2 := Nat.le_of_ble_eq_true h1.1
  rcases h1.2 with h2 | h2
  · exact absurd h2 h0
  · exact h _ b2 (Nat.le_of_ble_eq_true h2.1) (Nat.le_of_ble_eq_true h2.2)
theorem len64_k {n : Nat} (h1 : 1 ≤ n) (hn : n ≤ 1024) (H : AHeap) (K : ARes → AHeap → Prop) (hK : ∀ L : Nat, L ≤ 16 → 2 ^ L ≤ 2 * n → K (.ret (lin L)) H) : ACall Tryd.prog G0 105 [.lit (.int .u64 (n : Int))] H K := by
  have g1 : ¬ (4294967296 : Int) ≤ (n : Int) := by omega
  have g2 : ¬ (65536 : Int) ≤ (n : Int) := by omega
  have wr : ∀ i : Nat, i < 256 → IntKind.u8.wrap ((i : Nat) : Int) = (i : Int) := fun i hi => by simp [IntKind.wrap, IntKind.bits, IntKind.signed]; omega
  have k8 : IntKind.i64.wrap 8 = 8 := by decide
  have pw : ∀ L, 1 ≤ L → 2 ^ L = 2 * 2 ^ (L - 1) := fun L h => by rw [show L = (L - 1) + 1 by omega, Nat.pow_succ, Nat.add_sub_cancel, Nat.mul_comm]
  refine ACall.of_bodyW (n := 25) (rs := [.tmp 2]) Tryd.func105 rfl rfl rfl (by decide) (by simp) ?_
  refine W.seq (vc_sound _ _ _ (by rfl) ?_)
  simp (config := { maxSteps := 1000000 }) only [go_sem, g1, g2, appendA_U]
  refine W.seq (vc_sound _ _ _ (by rfl) ?_)
  simp (config := { maxSteps := 1000000 }) only [go_sem, g1, g2, appendA_U]
  refine W.seq (vc_sound _ _ _ (by rfl) ?_)
  simp (config := { maxSteps := 1000000 }) only [go_sem, g1, g2, appendA_U]
  by_cases g3 : (256 : Int) ≤ (n : Int)
  · have ww := wr (n / 256) (by omega)
    refine W.seq (vc_sound _ _ _ (by rfl) ?_)
    simp (config := { maxSteps := 1000000 }) only [go_sem, g1, g2, g3, shr8N, k8, appendA_U]
    refine vc_sound _ _ _ (by rfl) ?_
    simp (config := { maxSteps := 1000000 }) only [go_sem, ww, appendA_U]
    refine wpo_len (by kernel_rfl) (by omega) (by omega) fun L hL h1L h2L => ?_
    have w := IntWalk.i64_in (8 + (L : Int)) (by omega)
    have w0 := IntWalk.i64_in (L : Int) (by omega)
    simp (config := { maxSteps := 1000000 }) only [go_sem, w0, w, appendA_U]
    have e : 8 + (L : Int) = ((8 + L : Nat) : Int) := by omega
    rw [e]
    refine FinV.mk (Nat.le_refl _) (hK _ (by omega) ?_)
    rw [Nat.pow_add, pw L h1L]
    omega
  · have ww := wr n (by omega)
    refine W.seq (vc_sound _ _ _ (by rfl) ?_)
    simp (config := { maxSteps := 1000000 }) only [go_sem, g1, g2, g3, appendA_U]
    refine vc_sound _ _ _ (by rfl) ?_
    simp (config := { maxSteps := 1000000 }) only [go_sem, ww, appendA_U]
    refine wpo_len (by kernel_rfl) (by omega) (by omega) fun L hL h1L h2L => ?_
    have w : IntKind.i64.wrap (0 + (L : Int)) = (L : Int) := by rw [Int.zero_add]; exact IntWalk.i64_in (L : Int) (by omega)
    have w0 := IntWalk.i64_in (L : Int) (by omega)
    simp (config := { maxSteps := 1000000 }) only [go_sem, w0, w, appendA_U]
    refine FinV.mk (Nat.le_refl _) (hK _ (by omega) ?_)
    rw [pw L h1L]
    omega
theorem len_k {n : Nat} (h1 : 1 ≤ n) (hn : n ≤ 1024) (H : AHeap) (K : ARes → AHeap → Prop) (hK : ∀ L : Nat, L ≤ 16 → 2 ^ L ≤ 2 * n → K (.ret (lin L)) H) : ACall Tryd.prog G0 81 [.lit (.int .u64 (n : Int))] H K := by
  refine ACall.of_bodyW (n := 8) (rs := [.tmp 2]) Tryd.func81 rfl rfl rfl (by decide) (by simp) ?_
  refine vc_sound _ _ _ (by rfl) ?_
  simp (config := { maxSteps := 1000000 }) only [go_sem, appendA_U]
  refine AApply.clo (len64_k h1 hn H _ fun L hL h2 => ⟨trivial, ?_⟩)
  simp (config := { maxSteps := 1000000 }) only [go_sem, appendA_U]
  exact FinV.mk (Nat.le_refl _) (hK L hL h2)
theorem npow_spec {n : Nat} (h1 : 1 ≤ n) (hn : n ≤ 1024) (H : AHeap) (K : ARes → AHeap → Prop) (hK : ∀ M : Nat, 1 ≤ M → M ≤ 2 * n → K (.ret (.lit (.int .u64 (M : Int)))) H) : ACall Tryd.prog G0 110 [lin n] H K := by
  have wn : IntKind.u64.wrap ((n : Nat) : Int) = (n : Int) := by simp [IntKind.wrap, IntKind.bits, IntKind.signed]; omega
  refine ACall.of_bodyW (n := 7) (rs := [.tmp 2]) Tryd.func110 rfl rfl rfl (by decide) (by simp) ?_
  refine W.seq (vc_sound _ _ _ (by rfl) ?_)
  simp (config := { maxSteps := 1000000 }) only [go_sem, appendA_U]
  refine vc_sound _ _ _ (by rfl) ?_
  simp (config := { maxSteps := 1000000 }) only [go_sem, wn, appendA_U]
  refine AApply.clo (len_k h1 hn H _ fun L hL h2 => ⟨trivial, ?_⟩)
  obtain ⟨M, hM⟩ : ∃ M, M = 2 ^ L := ⟨_, rfl⟩
  have sh : ∀ t o1 o2, binA Tryd.prog .shl t o1 o2 (.lit (.int .u64 1)) (.lit (.int .i64 (L : Int))) = some (.lit (.int .u64 (M : Int))) := fun t o1 o2 => by
    have e : min L (IntKind.bits .u64) = L := Nat.min_eq_left (show L ≤ 64 by omega)
    have e2 : ((2 : Int) ^ L) = (M : Int) := by rw [hM]; push_cast; rfl
    rw [bin_shl (Int.natCast_nonneg L), Int.toNat_natCast, e, Int.one_mul, e2, IntWalk.u64_in _ (by omega)]
  simp (config := { maxSteps := 1000000 }) only [go_sem, sh, appendA_U]
  exact FinV.mk (Nat.le_refl _) (hK M (by rw [hM]; exact Nat.two_pow_pos L) (by omega))
theorem next_spec {rd : Nat} {a : Int} (H : AHeap) (hg : H.get rd = some (.arr 0 180 [.lit (.int .u64 a)])) (K : ARes → AHeap → Prop) (hK : ∀ c, K (.ret (.lit (.int .u64 c))) (H.upd rd (.arr 0 180 [.lit (.int .u64 c)]))) : ACall Tryd.prog G0 111 [.ptr rd 0 0] H K := by
  obtain ⟨f1, h1⟩ : ∃ f1 : Int → Int, ∀ t x y a, binA Tryd.prog .shl t x y (.lit (.int .u64 a)) (.lit (.int .u64 13)) = some (.lit (.int .u64 (f1 a))) := ⟨_, fun t x y a => bin_shl (by decide)⟩
  obtain ⟨f2, h2⟩ : ∃ f2 : Int → Int, ∀ t x y a, binA Tryd.prog .shr t x y (.lit (.int .u64 a)) (.lit (.int .u64 7)) = some (.lit (.int .u64 (f2 a))) := ⟨_, fun t x y a => bin_shr (by decide)⟩
  obtain ⟨f3, h3⟩ : ∃ f3 : Int → Int, ∀ t x y a, binA Tryd.prog .shl t x y (.lit (.int .u64 a)) (.lit (.int .u64 17)) = some (.lit (.int .u64 (f3 a))) := ⟨_, fun t x y a => bin_shl (by decide)⟩
  obtain ⟨f4, h4⟩ : ∃ f4 : Int → Int → Int, ∀ t x y a b, binA Tryd.prog .xor t x y (.lit (.int .u64 a)) (.lit (.int .u64 b)) = some (.lit (.int .u64 (f4 a b))) := ⟨fun a b => _, fun t x y a b => bin_xor⟩
  have up : ∀ (H : AHeap) (x y : Blk), (H.upd rd x).upd rd y = H.upd rd y := fun H x y => upd_upd ..
  have lv : ∀ (H : AHeap) (x : List AVal), (H.upd rd (.arr 0 180 x)).live rd 0 = some (180, x) := fun H x => get_live (by rw [upd_get, if_pos rfl])
  have l0 := get_live hg
  refine ACall.of_bodyW (n := 33) (rs := [.tmp 2]) Tryd.func111 rfl rfl rfl (by decide) (by simp) ?_
  refine W.seq (vc_sound _ _ _ (by rfl) ?_)
  simp (config := { maxSteps := 1000000 }) only [go_sem, appendA_U]
  refine W.seq ?_
  refine W.draw 7 [0, 1, 3, 0, 8, 24, 56] Tryd.mixed (by kernel_rfl) (by kernel_rfl) ?_
  simp (config := { maxSteps := 1000000 }) only [go_sem, l0, h1, h4, appendA_U]
  refine W.env fun E1 hE1 => ?_
  have e0 : E1 0 = .ptr rd 0 0 := by rw [hE1]; simp (config := { maxSteps := 1000000 }) only [go_sem, appendA_U]
  clear hE1
  obtain ⟨c1, hc1⟩ : ∃ c1, c1 = f4 a (f1 a) := ⟨_, rfl⟩
  rw [← hc1]
  refine W.seq ?_
  refine W.draw 7 [0, 1, 3, 0, 8, 24, 56] Tryd.mixed (by kernel_rfl) (by kernel_rfl) ?_
  simp (config := { maxSteps := 1000000 }) only [go_sem, e0, lv, h2, h4, appendA_U]
  rw [up]
  refine W.env fun E2 hE2 => ?_
  have m0 : E2 0 = .ptr rd 0 0 := by rw [hE2]; simp (config := { maxSteps := 1000000 }) only [go_sem, e0, appendA_U]
  clear hE2
  obtain ⟨c2, hc2⟩ : ∃ c2, c2 = f4 c1 (f2 c1) := ⟨_, rfl⟩
  rw [← hc2]
  refine W.seq ?_
  refine W.draw 7 [0, 1, 3, 0, 8, 24, 56] Tryd.mixed (by kernel_rfl) (by kernel_rfl) ?_
  simp (config := { maxSteps := 1000000 }) only [go_sem, m0, lv, h3, h4, appendA_U]
  rw [up]
  refine W.env fun E3 hE3 => ?_
  have u0 : E3 0 = .ptr rd 0 0 := by rw [hE3]; simp (config := { maxSteps := 1000000 }) only [go_sem, m0, appendA_U]
  clear hE3
  refine vc_sound _ _ _ (by rfl) ?_
  simp (config := { maxSteps := 1000000 }) only [go_sem, u0, lv, appendA_U]
  exact FinV.mk (Nat.le_refl _) (hK _)
section
variable {cv : AVal} {f : Nat → Nat} {rid : Nat} {rb : Blk} {id g n a b : Nat} {l : List Nat} {H : AHeap}
set_option maxHeartbeats 8000000 in
theorem break_spec (S : SH cv f rid rb id g n l H) (hab : a + 8 ≤ b) (hb : b ≤ n) (K : ARes → AHeap → Prop) (hK : ∀ q, PermR a b l q → K (.ret (.tup [])) (H.upd id (nB g q))) :
    ACall Tryd.prog G0 98 [.own id g 0 n 1, lin a, lin b, cv] H K := by
  refine ACall.clo ⟨_, Tryd.func98, rfl, rfl⟩ fun hcl => ?_
  have hn := S.hn
  have hil := S.il
  have hrl := S.rl
  have w0 : IntKind.i64.wrap ((b : Int) - (a : Int)) = ((b - a : Nat) : Int) := by rw [IntWalk.i64_in _ (by omega)]; omega
  obtain ⟨L, hL⟩ : ∃ L, L = b - a := ⟨_, rfl⟩
  rw [← hL] at w0
  have g8 : (L : Int) ≥ 8 := by omega
  have w1 : IntKind.u64.wrap (L : Int) = (L : Int) := IntWalk.u64_in _ (by omega)
  have q1 : ((L : Int)).tdiv 4 = ((L / 4 : Nat) : Int) := by rw [Int.tdiv_eq_ediv_of_nonneg (by omega)]; push_cast; rfl
  have q2 : IntKind.i64.wrap ((L / 4 : Nat) : Int) = ((L / 4 : Nat) : Int) := IntWalk.i64_in _ (by omega)
  have q3 : IntKind.i64.wrap (((L / 4 : Nat) : Int) * 2) = ((L / 4 * 2 : Nat) : Int) := by rw [IntWalk.i64_in _ (by omega)]; omega
  have q4 : IntKind.i64.wrap ((a : Int) + ((L / 4 * 2 : Nat) : Int)) = ((a + L / 4 * 2 : Nat) : Int) := by rw [IntWalk.i64_in _ (by omega)]; omega
  have q5 : IntKind.i64.wrap (((a + L / 4 * 2 : Nat) : Int) - 1) = ((a + L / 4 * 2 - 1 : Nat) : Int) := by rw [IntWalk.i64_in _ (by omega)]; omega
  have q6 : IntKind.i64.wrap (((a + L / 4 * 2 : Nat) : Int) + 1) = ((a + L / 4 * 2 + 1 : Nat) : Int) := by rw [IntWalk.i64_in _ (by omega)]; omega
  refine ACall.of_bodyW (n := 67) (rs := []) Tryd.func98 rfl rfl rfl (by decide) (by simp) ?_
  refine W.seq (vc_sound _ _ _ (by rfl) ?_)
  simp (config := { maxSteps := 1000000 }) only [go_sem, w0, appendA_U]
  refine W.seq (vc_sound _ _ _ (by rfl) ?_)
  simp (config := { maxSteps := 1000000 }) only [go_sem, g8, appendA_U]
  refine vc_sound _ _ _ (by rfl) ?_
  simp (config := { maxSteps := 1000000 }) only [go_sem, w1, appendA_U]
  obtain ⟨H1, hH1⟩ : ∃ H1, H1 = ext H [.arr 0 180 [.lit (.int .u64 (L : Int))]] := ⟨_, rfl⟩
  have n1 : H1.next = H.next + 1 := by rw [hH1]; rfl
  have o1 : Over H H1 := by rw [hH1]; exact .ext _ _
  have gr : H1.get H.next = some (.arr 0 180 [.lit (.int .u64 (L : Int))]) := by rw [hH1]; exact ext1_get_new
  refine AApply.clo (npow_spec (n := L) (by omega) (by omega) _ _ fun M hM1 hM2 => ⟨trivial, ?_⟩)
  simp (config := { maxSteps := 1000000 }) only [go_sem, q1, q2, q3, q4, q5, appendA_U]
  rw [← hH1]
  refine W.env fun E hE => ?_
  have e0 : E 0 = .own id g 0 n 1 := by rw [hE]; simp (config := { maxSteps := 1000000 }) only [go_sem, appendA_U]
  have e1 : E 1 = lin a := by rw [hE]; simp (config := { maxSteps := 1000000 }) only [go_sem, appendA_U]
  have e8 : E 8 = lin L := by rw [hE]; simp (config := { maxSteps := 1000000 }) only [go_sem, appendA_U]
  have e9 : E 9 = .ptr H.next 0 0 := by rw [hE]; simp (config := { maxSteps := 1000000 }) only [go_sem, appendA_U]
  have e10 : E 10 = .lit (.int .u64 (M : Int)) := by rw [hE]; simp (config := { maxSteps := 1000000 }) only [go_sem, appendA_U]
  have e11 : E 11 = lin ((a + L / 4 * 2 - 1 : Nat) : Int) := by rw [hE]; simp (config := { maxSteps := 1000000 }) only [go_sem, q1, q2, q3, q4, q5, appendA_U]
  clear hE
  have S1 := S.over o1
  refine W.loop0 147573952589407983616 (by kernel_rfl) (fun ρ Hx => ∃ (i : Nat) (q : List Nat) (c : Int), ρ 11 = lin i ∧ a ≤ i ∧ i ≤ a + L / 4 * 2 + 2 ∧ PermR a b l q ∧ Hx.next = H1.next ∧ (∀ j, j < H.next → j ≠ id → Hx.get j = H.get j) ∧ Hx.get id = some (nB g q) ∧ Hx.get H.next = some (.arr 0 180 [.lit (.int .u64 c)])) (fun ρ Hx => a + L / 4 * 2 + 2 - (iv (ρ 11)).toNat) ?_ ?_
  · exact ⟨_, l, _, e11, by omega, by omega, .refl _ _ _, rfl, fun j h _ => o1.old j h, S1.hg, gr⟩
  rintro ρ Hx ⟨i, q, c, h11, hi1, hi2, hp, hnx, hold, hgd, hgr⟩
  refine W.env fun F hF => ?_
  have d0 : F 0 = .own id g 0 n 1 := by rw [hF]; simp (config := { maxSteps := 1000000 }) only [go_sem, e0, appendA_U]
  have d1 : F 1 = lin a := by rw [hF]; simp (config := { maxSteps := 1000000 }) only [go_sem, e1, appendA_U]
  have d8 : F 8 = lin L := by rw [hF]; simp (config := { maxSteps := 1000000 }) only [go_sem, e8, appendA_U]
  have d9 : F 9 = .ptr H.next 0 0 := by rw [hF]; simp (config := { maxSteps := 1000000 }) only [go_sem, e9, appendA_U]
  have d10 : F 10 = .lit (.int .u64 (M : Int)) := by rw [hF]; simp (config := { maxSteps := 1000000 }) only [go_sem, e10, appendA_U]
  have d11 : F 11 = lin i := by rw [hF]; simp (config := { maxSteps := 1000000 }) only [go_sem, h11, appendA_U]
  clear hF
  have ov : Over (H.upd id (nB g q)) Hx := ⟨by rw [upd_next, hnx]; omega, fun j hj => by
    rw [upd_next] at hj
    rw [upd_get]
    by_cases h : j = id
    · rw [if_pos h, h, hgd]
    · rw [if_neg h]; exact hold j hj h⟩
  by_cases hle : (i : Int) ≤ ((a + L / 4 * 2 + 1 : Nat) : Int)
  rotate_left
  · refine vc_sound _ _ _ (by rfl) ?_
    simp (config := { maxSteps := 1000000 }) only [go_sem, d1, d8, d11, q1, q2, q3, q4, q6, hle, appendA_U]
    exact ⟨.tup [], H.upd id (nB g q), .freeze G0_ok (fzH_over (hcl.updN hil g _ _) ov) (.tup rfl fun i h => absurd h (Nat.not_lt_zero _)), Nat.le_refl _, hK q hp⟩
  have wi := IntWalk.i64_in ((i : Int) + 1) (by omega)
  have wm : IntKind.u64.wrap ((M : Int) - 1) = ((M - 1 : Nat) : Int) := by rw [IntWalk.u64_in _ (by omega)]; omega
  refine W.seq (vc_sound _ _ _ (by rfl) ?_)
  simp (config := { maxSteps := 1000000 }) only [go_sem, d1, d8, d11, q1, q2, q3, q4, q6, hle, appendA_U]
  refine W.seq (W.block ?_)
  refine W.seq (vc_sound _ _ _ (by rfl) ?_)
  simp (config := { maxSteps := 1000000 }) only [go_sem, d9, appendA_U]
  refine AApply.clo (next_spec Hx hgr _ fun c' => ⟨trivial, ?_⟩)
  obtain ⟨y, hy⟩ : ∃ y, y = (BitVec.ofInt (IntKind.bits .u64) c' &&& BitVec.ofInt (IntKind.bits .u64) ((M - 1 : Nat) : Int)).toNat := ⟨_, rfl⟩
  have hy1 : y ≤ M - 1 := by
    rw [hy, BitVec.toNat_and]
    refine Nat.le_trans Nat.and_le_right ?_
    show (BitVec.ofInt 64 _).toNat ≤ _
    rw [BitVec.ofInt_natCast, BitVec.toNat_ofNat]
    exact Nat.mod_le _ _
  have ha : ∀ t o1 o2, binA Tryd.prog .and t o1 o2 (.lit (.int .u64 c')) (.lit (.int .u64 ((M - 1 : Nat) : Int))) = some (.lit (.int .u64 (y : Int))) := fun t o1 o2 => by
    rw [bin_and, ← hy, IntWalk.u64_in _ (by omega)]
  have wy := IntWalk.i64_in (y : Int) (by omega)
  simp (config := { maxSteps := 1000000 }) only [go_sem, d10, wm, ha, wy, appendA_U]
  obtain ⟨Hy, hHy⟩ : ∃ Hy, Hy = Hx.upd H.next (.arr 0 180 [.lit (.int .u64 c')]) := ⟨_, rfl⟩
  have yn : Hy.next = H1.next := by rw [hHy, upd_next, hnx]
  have yold : ∀ j, j < H.next → j ≠ id → Hy.get j = H.get j := fun j h h2 => by rw [hHy, upd_get, if_neg (by omega)]; exact hold j h h2
  have yd : Hy.get id = some (nB g q) := by rw [hHy, upd_get, if_neg (by omega)]; exact hgd
  have yr : Hy.get H.next = some (.arr 0 180 [.lit (.int .u64 c')]) := by rw [hHy, upd_get, if_pos rfl]
  rw [← hHy]
  clear hHy
  refine W.midN (fun s' => s'.H = Hy ∧ s'.ρ 0 = .own id g 0 n 1 ∧ s'.ρ 1 = lin a ∧ s'.ρ 11 = lin i ∧ ∃ z : Nat, s'.ρ 12 = lin z ∧ z < L) ?_ ?_
  · by_cases hyL : (y : Int) ≥ L
    · have wz : IntKind.i64.wrap ((y : Int) - (L : Int)) = ((y - L : Nat) : Int) := by rw [IntWalk.i64_in _ (by omega)]; omega
      refine vc_sound _ _ _ (by rfl) ?_
      simp (config := { maxSteps := 1000000 }) only [go_sem, d0, d1, d8, d11, hyL, wz, appendA_U]
      exact ⟨y - L, rfl, by omega⟩
    · refine vc_sound _ _ _ (by rfl) ?_
      simp (config := { maxSteps := 1000000 }) only [go_sem, d0, d1, d8, d11, hyL, appendA_U]
      exact ⟨y, rfl, by omega⟩
  rintro ⟨ρ3, Hs⟩ ⟨hHs, v0, v1, v11, z, v12, hz⟩
  simp only at hHs v0 v1 v11 v12
  rw [hHs]
  clear hHs Hs
  have pl := hp.len
  rw [S.hl] at pl
  have T : SH cv f rid rb id g n q Hy := ⟨pl, hn, yd, by rw [yold rid hrl S.ne]; exact S.hr, S.ne, by omega, by omega, fun x y hx hy => S.cmp x y (hp.1.mem_iff.1 hx) (hp.1.mem_iff.1 hy)⟩
  have waz : IntKind.i64.wrap ((a : Int) + (z : Int)) = ((a + z : Nat) : Int) := by rw [IntWalk.i64_in _ (by omega)]; omega
  have i1 : i < n := by omega
  have z1 : a + z < n := by omega
  have bi : (i : Int) < n := by omega
  have bz : ((a + z : Nat) : Int) < n := by omega
  refine W.draw 18 [0, 0, 0, 0, 0, 24, 0, 0, 0, 384, 960, 1984, 0, 0, 12288, 28672, 65475, 131011] Tryd.mixed (by kernel_rfl) (by kernel_rfl) ?_
  simp (config := { maxSteps := 1000000 }) only [go_sem, v0, v1, v11, v12, T.live, T.len, waz, T.cell i1, T.cell z1, bi, bz, T.s1 i1, T.s2 (i := i) z1, T.len1, T.live1, appendA_U]
  refine ⟨by omega, by omega, ?_⟩
  try rw [T.u2]
  refine vc_sound _ _ _ (by rfl) ?_
  simp (config := { maxSteps := 1000000 }) only [go_sem, v11, wi, appendA_U]
  refine ⟨by simp only [upd_next]; omega, ⟨i + 1, swapL q i (a + z), c', rfl, by omega, by omega, hp.trans (.swap (by omega) (by omega) (by omega) (by omega) (by omega)), by simp only [upd_next]; omega, fun j h h2 => ?_, ?_, ?_⟩, by rw [h11]; simp only [lin, iv_int]; omega⟩
  · rw [upd_get, if_neg h2]; exact yold j h h2
  · rw [upd_get, if_pos rfl]
  · rw [upd_get, if_neg (by omega)]; exact yr
end
end Go.Proofs
namespace Go.Proofs
open Go.Hx
section
variable {cv : AVal} {f : Nat → Nat} {rid : Nat} {rb : Blk} {id g n a b : Nat} {l : List Nat} {H : AHeap}
def sB (s : Int) : Blk := .arr 0 3 [lin s]
theorem order2_spec {si : Nat} {s : Int} (S : SH cv f rid rb id g n l H) (hs : H.get si = some (sB s)) (ha : a < n) (hb : b < n) (K : ARes → AHeap → Prop) (hK : ∀ (x y : Nat) (t : Int), (x = a ∧ y = b ∨ x = b ∧ y = a) → K (.ret (.tup [lin x, lin y])) (H.upd si (sB t))) :
    ACall Tryd.prog G0 115 [.own id g 0 n 1, lin a, lin b, .ptr si 0 0, cv] H K := by
  have hn := S.hn
  have ba : (a : Int) < n := by omega
  have bb : (b : Int) < n := by omega
  have ls : H.live si 0 = some (3, [.lit (.int .i64 s)]) := get_live hs
  refine ACall.of_bodyW (n := 32) (rs := [.tmp 10, .tmp 11]) Tryd.func115 rfl rfl rfl (by decide) (by simp) ?_
  refine W.seq (vc_sound _ _ _ (by rfl) ?_)
  simp (config := { maxSteps := 1000000 }) only [go_sem, appendA_U]
  refine W.seq (W.midN (fun s' => s'.H = H ∧ s'.ρ 1 = lin a ∧ s'.ρ 2 = lin b ∧ s'.ρ 3 = .ptr si 0 0 ∧ s'.ρ 22 = .lit (.bool (decide (f (l.getD b 0) < f (l.getD a 0))))) ?_ ?_)
  · refine W.draw 9 [0, 0, 0, 6, 14, 0, 0, 96, 224] Tryd.mixed (by kernel_rfl) (by kernel_rfl) ?_
    simp (config := { maxSteps := 1000000 }) only [go_sem, S.live, S.len, S.cell ha, S.cell hb, ba, bb, appendA_U]
    obtain ⟨z, hz, hcc⟩ := S.ask hb ha
    refine hcc _ ⟨trivial, ?_⟩
    by_cases hlt : f (l.getD b 0) < f (l.getD a 0)
    · have hlt' := hz.2 hlt
      simp (config := { maxSteps := 1000000 }) only [go_sem, hlt', hlt, appendA_U]
    · have hlt' : ¬ z < 0 := fun h => hlt (hz.1 h)
      simp (config := { maxSteps := 1000000 }) only [go_sem, hlt', hlt, appendA_U]
  rintro ⟨ρ3, Hs⟩ ⟨hHs, v1, v2, v3, vc⟩
  simp only at hHs v1 v2 v3 vc
  rw [hHs]
  clear hHs Hs
  by_cases hlt : f (l.getD b 0) < f (l.getD a 0)
  · rw [decide_eq_true hlt] at vc
    refine W.cond (t := true) vc ?_
    refine vc_sound _ _ _ (by rfl) ?_
    simp (config := { maxSteps := 1000000 }) only [go_sem, v1, v2, v3, ls, appendA_U]
    exact FinV.mk (by rw [upd_next]; exact Nat.le_refl _) (hK b a _ (.inr ⟨rfl, rfl⟩))
  · rw [decide_eq_false hlt] at vc
    refine W.cond (t := false) vc ?_
    refine vc_sound _ _ _ (by rfl) ?_
    simp (config := { maxSteps := 1000000 }) only [go_sem, appendA_U]
    refine vc_sound _ _ _ (by rfl) ?_
    simp (config := { maxSteps := 1000000 }) only [go_sem, v1, v2, appendA_U]
    have := hK a b s (.inl ⟨rfl, rfl⟩)
    rw [upd_self hs] at this
    exact FinV.mk (Nat.le_refl _) this
theorem SH.sup (S : SH cv f rid rb id g n l H) {si : Nat} (h1 : si ≠ id) (h2 : si ≠ rid) (b : Blk) : SH cv f rid rb id g n l (H.upd si b) :=
  ⟨S.hl, S.hn, by rw [upd_get, if_neg (fun e => h1 e.symm)]; exact S.hg, by rw [upd_get, if_neg (fun e => h2 e.symm)]; exact S.hr, S.ne, S.il, S.rl, S.cmp⟩
theorem median_spec {si c : Nat} {s : Int} (S : SH cv f rid rb id g n l H) (h1 : si ≠ id) (h2 : si ≠ rid) (hs : H.get si = some (sB s)) (ha : a < n) (hb : b < n) (hc : c < n) (K : ARes → AHeap → Prop) (hK : ∀ (x : Nat) (t : Int), (x = a ∨ x = b ∨ x = c) → K (.ret (lin x)) (H.upd si (sB t))) :
    ACall Tryd.prog G0 113 [.own id g 0 n 1, lin a, lin b, lin c, .ptr si 0 0, cv] H K := by
  have gs : ∀ (H : AHeap) (t : Int), (H.upd si (sB t)).get si = some (sB t) := fun H t => by rw [upd_get, if_pos rfl]
  refine ACall.of_bodyW (n := 41) (rs := [.tmp 12]) Tryd.func113 rfl rfl rfl (by decide) (by simp) ?_
  refine W.seq (vc_sound _ _ _ (by rfl) ?_)
  simp (config := { maxSteps := 1000000 }) only [go_sem, appendA_U]
  refine W.seq (vc_sound _ _ _ (by rfl) ?_)
  simp (config := { maxSteps := 1000000 }) only [go_sem, appendA_U]
  refine AApply.clo (order2_spec S hs ha hb _ fun x y t1 hxy => ⟨trivial, ?_⟩)
  have S1 := S.sup h1 h2 (sB t1)
  have xn : x < n := by omega
  have yn : y < n := by omega
  simp (config := { maxSteps := 1000000 }) only [go_sem, appendA_U]
  refine W.seq (vc_sound _ _ _ (by rfl) ?_)
  simp (config := { maxSteps := 1000000 }) only [go_sem, appendA_U]
  refine AApply.clo (order2_spec S1 (gs H t1) yn hc _ fun x2 y2 t2 hxy2 => ⟨trivial, ?_⟩)
  have S2 := S1.sup h1 h2 (sB t2)
  have x2n : x2 < n := by omega
  simp (config := { maxSteps := 1000000 }) only [go_sem, appendA_U]
  refine W.seq (vc_sound _ _ _ (by rfl) ?_)
  simp (config := { maxSteps := 1000000 }) only [go_sem, appendA_U]
  refine AApply.clo (order2_spec S2 (gs _ t2) xn x2n _ fun x3 y3 t3 hxy3 => ⟨trivial, ?_⟩)
  simp (config := { maxSteps := 1000000 }) only [go_sem, appendA_U]
  refine vc_sound _ _ _ (by rfl) ?_
  simp (config := { maxSteps := 1000000 }) only [go_sem, appendA_U]
  rw [upd_upd, upd_upd]
  exact FinV.mk (by rw [upd_next]; exact Nat.le_refl _) (hK y3 t3 (by omega))
theorem medAdj_spec {si : Nat} {s : Int} (S : SH cv f rid rb id g n l H) (h1 : si ≠ id) (h2 : si ≠ rid) (hs : H.get si = some (sB s)) (h0 : 1 ≤ a) (ha : a + 1 < n) (K : ARes → AHeap → Prop) (hK : ∀ (x : Nat) (t : Int), (x = a - 1 ∨ x = a ∨ x = a + 1) → K (.ret (lin x)) (H.upd si (sB t))) :
    ACall Tryd.prog G0 112 [.own id g 0 n 1, lin a, .ptr si 0 0, cv] H K := by
  have hn := S.hn
  have w1 : IntKind.i64.wrap ((a : Int) - 1) = ((a - 1 : Nat) : Int) := by rw [IntWalk.i64_in _ (by omega)]; omega
  have w2 : IntKind.i64.wrap ((a : Int) + 1) = ((a + 1 : Nat) : Int) := by rw [IntWalk.i64_in _ (by omega)]; omega
  refine ACall.of_bodyW (n := 18) (rs := [.tmp 8]) Tryd.func112 rfl rfl rfl (by decide) (by simp) ?_
  refine W.seq (vc_sound _ _ _ (by rfl) ?_)
  simp (config := { maxSteps := 1000000 }) only [go_sem, appendA_U]
  refine vc_sound _ _ _ (by rfl) ?_
  simp (config := { maxSteps := 1000000 }) only [go_sem, w1, w2, appendA_U]
  refine AApply.clo (median_spec S h1 h2 hs (by omega) (by omega) ha _ fun x t hx => ⟨trivial, ?_⟩)
  simp (config := { maxSteps := 1000000 }) only [go_sem, appendA_U]
  exact FinV.mk (by rw [upd_next]; exact Nat.le_refl _) (hK x t hx)
set_option maxHeartbeats 8000000 in
theorem choose_spec (S : SH cv f rid rb id g n l H) (hab : a + 8 ≤ b) (hb : b ≤ n) (K : ARes → AHeap → Prop) (hK : ∀ (p : Nat) (h : Int), a ≤ p → p < b → K (.ret (.tup [lin p, lin h])) H) :
    ACall Tryd.prog G0 99 [.own id g 0 n 1, lin a, lin b, cv] H K := by
  refine ACall.clo ⟨_, Tryd.func99, rfl, rfl⟩ fun hcl => ?_
  have hn := S.hn
  have hil := S.il
  have hrl := S.rl
  have w0 : IntKind.i64.wrap ((b : Int) - (a : Int)) = ((b - a : Nat) : Int) := by rw [IntWalk.i64_in _ (by omega)]; omega
  obtain ⟨L, hL⟩ : ∃ L, L = b - a := ⟨_, rfl⟩
  rw [← hL] at w0
  have g8 : (L : Int) ≥ 8 := by omega
  have q1 : ((L : Int)).tdiv 4 = ((L / 4 : Nat) : Int) := by rw [Int.tdiv_eq_ediv_of_nonneg (by omega)]; push_cast; rfl
  have q2 : IntKind.i64.wrap ((L / 4 : Nat) : Int) = ((L / 4 : Nat) : Int) := IntWalk.i64_in _ (by omega)
  have q31 : IntKind.i64.wrap (((L / 4 : Nat) : Int) * 1) = ((L / 4 : Nat) : Int) := by rw [IntWalk.i64_in _ (by omega)]; omega
  have q32 : IntKind.i64.wrap (((L / 4 : Nat) : Int) * 2) = ((L / 4 * 2 : Nat) : Int) := by rw [IntWalk.i64_in _ (by omega)]; omega
  have q33 : IntKind.i64.wrap (((L / 4 : Nat) : Int) * 3) = ((L / 4 * 3 : Nat) : Int) := by rw [IntWalk.i64_in _ (by omega)]; omega
  have q41 : IntKind.i64.wrap ((a : Int) + ((L / 4 : Nat) : Int)) = ((a + L / 4 : Nat) : Int) := by rw [IntWalk.i64_in _ (by omega)]; omega
  have q42 : IntKind.i64.wrap ((a : Int) + ((L / 4 * 2 : Nat) : Int)) = ((a + L / 4 * 2 : Nat) : Int) := by rw [IntWalk.i64_in _ (by omega)]; omega
  have q43 : IntKind.i64.wrap ((a : Int) + ((L / 4 * 3 : Nat) : Int)) = ((a + L / 4 * 3 : Nat) : Int) := by rw [IntWalk.i64_in _ (by omega)]; omega
  refine ACall.of_bodyW (n := 63) (rs := [.tmp 8, .tmp 9]) Tryd.func99 rfl rfl rfl (by decide) (by simp) ?_
  refine W.seq (vc_sound _ _ _ (by rfl) ?_)
  simp (config := { maxSteps := 1000000 }) only [go_sem, appendA_U]
  refine W.seq (vc_sound _ _ _ (by rfl) ?_)
  simp (config := { maxSteps := 1000000 }) only [go_sem, w0, appendA_U]
  refine W.seq (vc_sound _ _ _ (by rfl) ?_)
  simp (config := { maxSteps := 1000000 }) only [go_sem, appendA_U]
  obtain ⟨H1, hH1⟩ : ∃ H1, H1 = ext H [.arr 0 3 [.lit (.int .i64 0)]] := ⟨_, rfl⟩
  have o1 : Over H H1 := by rw [hH1]; exact .ext _ _
  have gs0 : H1.get H.next = some (sB 0) := by rw [hH1]; exact ext1_get_new
  rw [← hH1]
  clear hH1
  refine W.seq (vc_sound _ _ _ (by rfl) ?_)
  simp (config := { maxSteps := 1000000 }) only [go_sem, q1, q2, q31, q41, appendA_U]
  refine W.seq (vc_sound _ _ _ (by rfl) ?_)
  simp (config := { maxSteps := 1000000 }) only [go_sem, q1, q2, q32, q42, appendA_U]
  refine W.seq (vc_sound _ _ _ (by rfl) ?_)
  simp (config := { maxSteps := 1000000 }) only [go_sem, q1, q2, q33, q43, appendA_U]
  refine W.env fun E hE => ?_
  have e0 : E 0 = .own id g 0 n 1 := by rw [hE]; simp (config := { maxSteps := 1000000 }) only [go_sem, appendA_U]
  have e3 : E 3 = cv := by rw [hE]; simp (config := { maxSteps := 1000000 }) only [go_sem, appendA_U]
  have e10 : E 10 = lin L := by rw [hE]; simp (config := { maxSteps := 1000000 }) only [go_sem, w0, appendA_U]
  have e11 : E 11 = .ptr H.next 0 0 := by rw [hE]; simp (config := { maxSteps := 1000000 }) only [go_sem, appendA_U]
  have e12 : E 12 = lin ((a + L / 4 : Nat) : Int) := by rw [hE]; simp (config := { maxSteps := 1000000 }) only [go_sem, q1, q2, q31, q41, appendA_U]
  have e13 : E 13 = lin ((a + L / 4 * 2 : Nat) : Int) := by rw [hE]; simp (config := { maxSteps := 1000000 }) only [go_sem, q1, q2, q32, q42, appendA_U]
  have e14 : E 14 = lin ((a + L / 4 * 3 : Nat) : Int) := by rw [hE]; simp (config := { maxSteps := 1000000 }) only [go_sem, q1, q2, q33, q43, appendA_U]
  clear hE
  have S1 := S.over o1
  have h1 : H.next ≠ id := by omega
  have h2 : H.next ≠ rid := by omega
  have gs : ∀ (H' : AHeap) (t : Int), (H'.upd H.next (sB t)).get H.next = some (sB t) := fun H' t => by rw [upd_get, if_pos rfl]
  refine W.midN (fun s' => s'.ρ 11 = .ptr H.next 0 0 ∧ ∃ (t : Int) (p : Nat), s'.H = H1.upd H.next (sB t) ∧ s'.ρ 13 = lin p ∧ a ≤ p ∧ p < b) ?_ ?_
  · refine vc_sound _ _ _ (by rfl) ?_
    by_cases h50 : (50 : Int) ≤ L
    · simp (config := { maxSteps := 1000000 }) only [go_sem, e0, e3, e10, e11, e12, g8, h50, appendA_U]
      refine AApply.clo (medAdj_spec S1 h1 h2 gs0 (by omega) (by omega) _ fun x t hx => ⟨trivial, ?_⟩)
      simp (config := { maxSteps := 1000000 }) only [go_sem, e0, e3, e11, e13, appendA_U]
      refine AApply.clo (medAdj_spec (S1.sup h1 h2 (sB t)) h1 h2 (gs _ t) (by omega) (by omega) _ fun x2 t2 hx2 => ⟨trivial, ?_⟩)
      rw [upd_upd]
      simp (config := { maxSteps := 1000000 }) only [go_sem, e0, e3, e11, e14, appendA_U]
      refine AApply.clo (medAdj_spec (S1.sup h1 h2 (sB t2)) h1 h2 (gs _ t2) (by omega) (by omega) _ fun x3 t3 hx3 => ⟨trivial, ?_⟩)
      rw [upd_upd]
      simp (config := { maxSteps := 1000000 }) only [go_sem, e0, e3, e11, appendA_U]
      refine AApply.clo (median_spec (S1.sup h1 h2 (sB t3)) h1 h2 (gs _ t3) (by omega) (by omega) (by omega) _ fun x4 t4 hx4 => ⟨trivial, ?_⟩)
      rw [upd_upd]
      simp (config := { maxSteps := 1000000 }) only [go_sem, e11, appendA_U]
      exact ⟨t4, x4, rfl, rfl, by omega, by omega⟩
    · simp (config := { maxSteps := 1000000 }) only [go_sem, e0, e3, e10, e11, e12, e13, e14, g8, h50, appendA_U]
      refine AApply.clo (median_spec S1 h1 h2 gs0 (by omega) (by omega) (by omega) _ fun x4 t4 hx4 => ⟨trivial, ?_⟩)
      simp (config := { maxSteps := 1000000 }) only [go_sem, e11, appendA_U]
      exact ⟨t4, x4, rfl, rfl, by omega, by omega⟩
  rintro ⟨ρ3, Hs⟩ ⟨v11, t, p, hHs, v13, hp1, hp2⟩
  simp only at hHs v11 v13
  have ls : Hs.live H.next 0 = some (3, [.lit (.int .i64 t)]) := get_live (by rw [hHs]; exact gs _ t)
  have ov : Over H Hs := by rw [hHs]; exact ⟨by rw [upd_next]; exact o1.next, fun j hj => by rw [upd_get, if_neg (by omega)]; exact o1.old j hj⟩
  have fin : ∀ h : Int, FinV Tryd.prog G0 H K (.tup [lin p, lin h]) Hs := fun h => FinV.dropO G0_ok hcl ov (.tup rfl fun i hi _ => match i, hi with
    | 0, _ => .lit _
    | 1, _ => .lit _) (hK p h hp1 hp2)
  refine vc_sound _ _ _ (by rfl) ?_
  by_cases t0 : t = 0
  · simp (config := { maxSteps := 1000000 }) only [go_sem, v11, v13, ls, t0, appendA_U]
    exact fin 1
  by_cases t12 : t = 12
  · simp (config := { maxSteps := 1000000 }) only [go_sem, v11, v13, ls, t0, t12, appendA_U]
    exact fin 2
  simp (config := { maxSteps := 1000000 }) only [go_sem, v11, v13, ls, t0, t12, appendA_U]
  exact fin 0
end
end Go.Proofs
namespace Go.Hx
theorem W.midR {P : Program} {G : Nat → Option (List AVal)} {n : Nat} {rd : Option Nat} {Q : AX → St → Prop} {s : St} {x y : Code} (Φ : St → Prop) (h : W P G n rd x (thenA Φ Q) s) (h2 : ∀ s', Φ s' → W P G n rd y Q s') : W P G n rd (.seq x y) Q s :=
  W.seq (h.mono fun ax s' hx => by
    cases ax with
    | normal => exact h2 s' hx
    | _ => exact hx)
end Go.Hx
namespace Go.Proofs
open Go.Hx
theorem Bl.sub {f : Nat → Nat} {l : List Nat} {a b c : Nat} (h : Bl f l a b) (hc : c ≤ b) : Bl f l a c := h.imp id fun h i h1 h2 => h i h1 (by omega)
section
variable {cv : AVal} {f : Nat → Nat} {rid : Nat} {rb : Blk} {id g n : Nat}
set_option maxHeartbeats 32000000 in
theorem pdqR_spec : ∀ (m a b : Nat) (l : List Nat) (H : AHeap) (L : Int), b - a < m → SH cv f rid rb id g n l H → DistF f l → a ≤ b → b ≤ n → (0 ≤ L ∧ L < 256) → Bl f l a b → ∀ (K : ARes → AHeap → Prop), (∀ q, PermR a b l q → SrtR f q a b → K (.ret (.tup [])) (H.upd id (nB g q))) →
    ACall Tryd.prog G0 80 [.own id g 0 n 1, lin a, lin b, lin L, cv] H K := by
  intro m
  induction m with
  | zero =>
    intro a b l H L hm
    omega
  | succ m ih =>
    intro a b l H L hm S hD hab hb hL hB K hK
    have hn := S.hn
    refine ACall.of_bodyW (n := 148) (rs := []) Tryd.func80 rfl rfl rfl (by decide) (by simp) ?_
    refine W.seq (vc_sound _ _ _ (by rfl) ?_)
    simp (config := { maxSteps := 1000000 }) only [go_sem, appendA_U]
    refine W.seq (vc_sound _ _ _ (by rfl) ?_)
    simp (config := { maxSteps := 1000000 }) only [go_sem, appendA_U]
    refine W.env fun E hE => ?_
    have e0 : E 0 = .own id g 0 n 1 := by rw [hE]; simp (config := { maxSteps := 1000000 }) only [go_sem, appendA_U]
    have e1 : E 1 = lin a := by rw [hE]; simp (config := { maxSteps := 1000000 }) only [go_sem, appendA_U]
    have e2 : E 2 = lin b := by rw [hE]; simp (config := { maxSteps := 1000000 }) only [go_sem, appendA_U]
    have e3 : E 3 = lin L := by rw [hE]; simp (config := { maxSteps := 1000000 }) only [go_sem, appendA_U]
    have e4 : E 4 = cv := by rw [hE]; simp (config := { maxSteps := 1000000 }) only [go_sem, appendA_U]
    have e10 : E 10 = .lit (.bool true) := by rw [hE]; simp (config := { maxSteps := 1000000 }) only [go_sem, appendA_U]
    have e11 : E 11 = .lit (.bool true) := by rw [hE]; simp (config := { maxSteps := 1000000 }) only [go_sem, appendA_U]
    clear hE
    refine W.block ?_
    refine W.loop0 356811923176489970264571492362373784095685646 (by kernel_rfl) (fun ρ Hx => ∃ (c d : Nat) (M : Int) (wb wp : Bool) (q : List Nat), ρ 1 = lin c ∧ ρ 2 = lin d ∧ ρ 3 = lin M ∧ ρ 10 = .lit (.bool wb) ∧ ρ 11 = .lit (.bool wp) ∧ a ≤ c ∧ c ≤ d ∧ d ≤ b ∧ (0 ≤ M ∧ M < 256) ∧ PermR a b l q ∧ Out f q a b c d ∧ Hx = H.upd id (nB g q)) (fun ρ Hx => (iv (ρ 2) - iv (ρ 1)).toNat) ?_ ?_
    · exact ⟨a, b, L, true, true, l, e1, e2, e3, e10, e11, Nat.le_refl _, hab, Nat.le_refl _, hL, .refl _ _ _, .start, S.self.symm⟩
    rintro ρ Hx ⟨c, d, M, wb, wp, q, h1, h2, h3, h10, h11, hac, hcd, hdb, hM, hp, hO, hHx⟩
    refine W.env fun F hF => ?_
    have d0 : F 0 = .own id g 0 n 1 := by rw [hF]; simp (config := { maxSteps := 1000000 }) only [go_sem, e0, appendA_U]
    have d1 : F 1 = lin c := by rw [hF]; simp (config := { maxSteps := 1000000 }) only [go_sem, h1, appendA_U]
    have d2 : F 2 = lin d := by rw [hF]; simp (config := { maxSteps := 1000000 }) only [go_sem, h2, appendA_U]
    have d3 : F 3 = lin M := by rw [hF]; simp (config := { maxSteps := 1000000 }) only [go_sem, h3, appendA_U]
    have d4 : F 4 = cv := by rw [hF]; simp (config := { maxSteps := 1000000 }) only [go_sem, e4, appendA_U]
    have d10 : F 10 = .lit (.bool wb) := by rw [hF]; simp (config := { maxSteps := 1000000 }) only [go_sem, h10, appendA_U]
    have d11 : F 11 = .lit (.bool wp) := by rw [hF]; simp (config := { maxSteps := 1000000 }) only [go_sem, h11, appendA_U]
    clear hF
    have pl := hp.len
    rw [S.hl] at pl
    have T := S.upd hp.1
    rw [← hHx] at T
    have hDq := hD.perm hp.1
    have hBq := (hO.bl (hB.perm hp (by rw [S.hl]; exact hb)) hDq hac hdb (by rw [pl]; exact hb))
    have back : ∀ q', PermR c d q q' → SrtR f q' c d → FinV Tryd.prog G0 H K (.tup []) (Hx.upd id (nB g q')) := fun q' h1 h2 => by
      rw [hHx, nB_upd]
      exact FinV.mk (Nat.le_refl _) (hK q' (hp.trans (h1.mono hac hdb)) ((hO.perm h1 hac hdb (by rw [pl]; exact hb)).done h2))
    have wl : IntKind.i64.wrap ((d : Int) - (c : Int)) = ((d - c : Nat) : Int) := by rw [IntWalk.i64_in _ (by omega)]; omega
    obtain ⟨N, hN⟩ : ∃ N, N = d - c := ⟨_, rfl⟩
    rw [← hN] at wl
    refine W.block ?_
    refine W.seq (vc_sound _ _ _ (by rfl) ?_)
    simp (config := { maxSteps := 1000000 }) only [go_sem, d1, d2, wl, appendA_U]
    by_cases h12 : (N : Int) ≤ 12
    · refine W.seq (vc_sound _ _ _ (by rfl) ?_)
      simp (config := { maxSteps := 1000000 }) only [go_sem, d0, d1, d2, d4, wl, h12, appendA_U]
      refine AApply.clo (insR_spec T hcd (by omega) _ fun q' hq' hs' => ⟨trivial, ?_⟩)
      simp (config := { maxSteps := 1000000 }) only [go_sem, appendA_U]
      exact back q' hq' hs'
    refine W.seq (vc_sound _ _ _ (by rfl) ?_)
    simp (config := { maxSteps := 1000000 }) only [go_sem, d1, d2, wl, h12, appendA_U]
    by_cases hM0 : M = 0
    · refine W.seq (vc_sound _ _ _ (by rfl) ?_)
      simp (config := { maxSteps := 1000000 }) only [go_sem, d0, d1, d2, d3, d4, hM0, appendA_U]
      refine AApply.clo (heapSort_spec T (by omega) (by omega) _ fun q' hq' hs' => ⟨trivial, ?_⟩)
      simp (config := { maxSteps := 1000000 }) only [go_sem, appendA_U]
      exact back q' hq' hs'
    refine W.seq (vc_sound _ _ _ (by rfl) ?_)
    simp (config := { maxSteps := 1000000 }) only [go_sem, d3, hM0, appendA_U]
    refine W.env fun J hJ => ?_
    have j0 : J 0 = .own id g 0 n 1 := by rw [hJ]; simp (config := { maxSteps := 1000000 }) only [go_sem, d0, appendA_U]
    have j1 : J 1 = lin c := by rw [hJ]; simp (config := { maxSteps := 1000000 }) only [go_sem, d1, appendA_U]
    have j2 : J 2 = lin d := by rw [hJ]; simp (config := { maxSteps := 1000000 }) only [go_sem, d2, appendA_U]
    have j3 : J 3 = lin M := by rw [hJ]; simp (config := { maxSteps := 1000000 }) only [go_sem, d3, appendA_U]
    have j4 : J 4 = cv := by rw [hJ]; simp (config := { maxSteps := 1000000 }) only [go_sem, d4, appendA_U]
    have j10 : J 10 = .lit (.bool wb) := by rw [hJ]; simp (config := { maxSteps := 1000000 }) only [go_sem, d10, appendA_U]
    have j11 : J 11 = .lit (.bool wp) := by rw [hJ]; simp (config := { maxSteps := 1000000 }) only [go_sem, d11, appendA_U]
    have j12 : J 12 = lin N := by rw [hJ]; simp (config := { maxSteps := 1000000 }) only [go_sem, d1, d2, wl, appendA_U]
    clear hJ
    refine W.midN (fun s' => s'.ρ 0 = .own id g 0 n 1 ∧ s'.ρ 1 = lin c ∧ s'.ρ 2 = lin d ∧ s'.ρ 4 = cv ∧ s'.ρ 10 = .lit (.bool wb) ∧ s'.ρ 11 = .lit (.bool wp) ∧ s'.ρ 12 = lin N ∧ ∃ (M1 : Int) (q1 : List Nat), s'.ρ 3 = lin M1 ∧ (0 ≤ M1 ∧ M1 < 256) ∧ PermR c d q q1 ∧ s'.H = Hx.upd id (nB g q1)) ?_ ?_
    · cases wb with
      | true =>
        refine vc_sound _ _ _ (by rfl) ?_
        simp (config := { maxSteps := 1000000 }) only [go_sem, j0, j1, j2, j3, j4, j10, j11, j12, appendA_U]
        exact ⟨M, q, rfl, hM, .refl _ _ _, T.self.symm⟩
      | false =>
        have wM := IntWalk.i64_in (M - 1) (by omega)
        refine vc_sound _ _ _ (by rfl) ?_
        simp (config := { maxSteps := 1000000 }) only [go_sem, j0, j1, j2, j3, j4, j10, appendA_U]
        refine AApply.clo (break_spec T (by omega) (by omega) _ fun q' hq' => ⟨trivial, ?_⟩)
        simp (config := { maxSteps := 1000000 }) only [go_sem, j0, j1, j2, j3, j4, j10, j11, j12, wM, appendA_U]
        exact ⟨M - 1, q', rfl, by omega, hq', rfl⟩
    rintro ⟨ρa, Ha⟩ ⟨a0, a1, a2, a4, a10, a11, a12, M1, q1, a3, hM1, hp1, hHa⟩
    simp only at a0 a1 a2 a4 a10 a11 a12 a3 hHa
    have Ta := T.upd hp1.1
    rw [← hHa] at Ta
    refine W.seq (vc_sound _ _ _ (by rfl) ?_)
    simp (config := { maxSteps := 1000000 }) only [go_sem, a0, a1, a2, a4, appendA_U]
    refine AApply.clo (choose_spec Ta (by omega) (by omega) _ fun p0 h0 hp01 hp02 => ⟨trivial, ?_⟩)
    simp (config := { maxSteps := 1000000 }) only [go_sem, appendA_U]
    refine W.env fun R hR => ?_
    have r0 : R 0 = .own id g 0 n 1 := by rw [hR]; simp (config := { maxSteps := 1000000 }) only [go_sem, a0, appendA_U]
    have r1 : R 1 = lin c := by rw [hR]; simp (config := { maxSteps := 1000000 }) only [go_sem, a1, appendA_U]
    have r2 : R 2 = lin d := by rw [hR]; simp (config := { maxSteps := 1000000 }) only [go_sem, a2, appendA_U]
    have r3 : R 3 = lin M1 := by rw [hR]; simp (config := { maxSteps := 1000000 }) only [go_sem, a3, appendA_U]
    have r4 : R 4 = cv := by rw [hR]; simp (config := { maxSteps := 1000000 }) only [go_sem, a4, appendA_U]
    have r10 : R 10 = .lit (.bool wb) := by rw [hR]; simp (config := { maxSteps := 1000000 }) only [go_sem, a10, appendA_U]
    have r11 : R 11 = .lit (.bool wp) := by rw [hR]; simp (config := { maxSteps := 1000000 }) only [go_sem, a11, appendA_U]
    have r12 : R 12 = lin N := by rw [hR]; simp (config := { maxSteps := 1000000 }) only [go_sem, a12, appendA_U]
    have r13 : R 13 = lin p0 := by rw [hR]; simp (config := { maxSteps := 1000000 }) only [go_sem, appendA_U]
    have r14 : R 14 = lin h0 := by rw [hR]; simp (config := { maxSteps := 1000000 }) only [go_sem, appendA_U]
    clear hR
    refine W.midN (fun s' => s'.ρ 0 = .own id g 0 n 1 ∧ s'.ρ 1 = lin c ∧ s'.ρ 2 = lin d ∧ s'.ρ 3 = lin M1 ∧ s'.ρ 4 = cv ∧ s'.ρ 10 = .lit (.bool wb) ∧ s'.ρ 11 = .lit (.bool wp) ∧ s'.ρ 12 = lin N ∧ ∃ (p : Nat) (h : Int) (q2 : List Nat), s'.ρ 13 = lin p ∧ s'.ρ 14 = lin h ∧ c ≤ p ∧ p < d ∧ PermR c d q q2 ∧ s'.H = Hx.upd id (nB g q2)) ?_ ?_
    · by_cases hh : h0 = 2
      · have w1 : IntKind.i64.wrap ((d : Int) - 1) = ((d - 1 : Nat) : Int) := by rw [IntWalk.i64_in _ (by omega)]; omega
        have w2 : IntKind.i64.wrap ((p0 : Int) - (c : Int)) = ((p0 - c : Nat) : Int) := by rw [IntWalk.i64_in _ (by omega)]; omega
        have w3 : IntKind.i64.wrap (((d - 1 : Nat) : Int) - ((p0 - c : Nat) : Int)) = ((d - 1 - (p0 - c) : Nat) : Int) := by rw [IntWalk.i64_in _ (by omega)]; omega
        refine vc_sound _ _ _ (by rfl) ?_
        simp (config := { maxSteps := 1000000 }) only [go_sem, r0, r1, r2, r4, r14, hh, appendA_U]
        refine AApply.clo (revRange_spec Ta (by omega) (by omega) _ fun q' hq' => ⟨trivial, ?_⟩)
        simp (config := { maxSteps := 1000000 }) only [go_sem, r0, r1, r2, r3, r4, r10, r11, r12, r13, w1, w2, w3, appendA_U]
        exact ⟨d - 1 - (p0 - c), 1, q', rfl, rfl, by omega, by omega, hp1.trans hq', by rw [hHa, nB_upd]⟩
      · refine vc_sound _ _ _ (by rfl) ?_
        simp (config := { maxSteps := 1000000 }) only [go_sem, r0, r1, r2, r3, r4, r10, r11, r12, r13, r14, hh, appendA_U]
        exact ⟨p0, h0, q1, rfl, rfl, hp01, hp02, hp1, hHa⟩
    rintro ⟨ρb, Hb⟩ ⟨b0, b1, b2, b3, b4, b10, b11, b12, p, h, q2, b13, b14, hcp, hpd, hp2, hHb⟩
    simp only at b0 b1 b2 b3 b4 b10 b11 b12 b13 b14 hHb
    have Tb := T.upd hp2.1
    rw [← hHb] at Tb
    have pq := hp2.len
    rw [pl] at pq
    have bl2 := hBq.perm hp2 (by rw [pl]; omega)
    refine W.midR (fun s' => s'.ρ 0 = .own id g 0 n 1 ∧ s'.ρ 1 = lin c ∧ s'.ρ 2 = lin d ∧ s'.ρ 3 = lin M1 ∧ s'.ρ 4 = cv ∧ s'.ρ 12 = lin N ∧ s'.ρ 13 = lin p ∧ ∃ (q3 : List Nat), PermR c d q q3 ∧ s'.H = Hx.upd id (nB g q3)) ?_ ?_
    · refine W.midN (fun s' => s'.ρ 0 = .own id g 0 n 1 ∧ s'.ρ 1 = lin c ∧ s'.ρ 2 = lin d ∧ s'.ρ 3 = lin M1 ∧ s'.ρ 4 = cv ∧ s'.ρ 12 = lin N ∧ s'.ρ 13 = lin p ∧ s'.ρ 75 = .lit (.bool (wb && wp && decide (h = 1))) ∧ s'.H = Hb) ?_ ?_
      · refine vc_sound _ _ _ (by rfl) ?_
        by_cases hh : h = 1
        · cases wb <;> cases wp <;> simp (config := { maxSteps := 1000000 }) only [go_sem, b0, b1, b2, b3, b4, b10, b11, b12, b13, b14, hh, guardA_undef, appendA_U] <;> rfl
        · cases wb <;> cases wp <;> simp (config := { maxSteps := 1000000 }) only [go_sem, b0, b1, b2, b3, b4, b10, b11, b12, b13, b14, hh, guardA_undef, appendA_U] <;> rfl
      rintro ⟨ρc, Hc⟩ ⟨c0, c1, c2, c3, c4, c12, c13, c75, hHc⟩
      simp only at c0 c1 c2 c3 c4 c12 c13 c75 hHc
      rw [hHc]
      clear hHc Hc
      cases hfl : (wb && wp && decide (h = 1)) with
      | false =>
        rw [hfl] at c75
        refine W.cond (t := false) c75 ?_
        refine vc_sound _ _ _ (by rfl) ?_
        simp (config := { maxSteps := 1000000 }) only [go_sem, appendA_U]
        exact ⟨c0, c1, c2, c3, c4, c12, c13, q2, hp2, hHb⟩
      | true =>
        rw [hfl] at c75
        refine W.cond (t := true) c75 ?_
        refine vc_sound _ _ _ (by rfl) ?_
        simp (config := { maxSteps := 1000000 }) only [go_sem, c0, c1, c2, c4, appendA_U]
        refine AApply.clo (partIns_spec Tb (by omega) (by omega) bl2 _ fun q' fl hq' hs' => ⟨trivial, ?_⟩)
        cases fl with
        | true =>
          simp (config := { maxSteps := 1000000 }) only [go_sem, appendA_U]
          have := back q' (hp2.trans hq') (hs' rfl)
          rw [hHb, nB_upd]
          exact this
        | false =>
          simp (config := { maxSteps := 1000000 }) only [go_sem, appendA_U]
          exact ⟨c0, c1, c2, c3, c4, c12, c13, q', hp2.trans hq', by rw [hHb, nB_upd]⟩
    clear b0 b1 b2 b3 b4 b10 b11 b12 b13 b14 Tb bl2 pq hp2 hHb
    clear q2 Hb
    rintro ⟨ρd, Hd⟩ ⟨b0, b1, b2, b3, b4, b12, b13, q2, hp2, hHb⟩
    simp only at b0 b1 b2 b3 b4 b12 b13 hHb
    have Tb := T.upd hp2.1
    rw [← hHb] at Tb
    have pq := hp2.len
    rw [pl] at pq
    have bl2 := hBq.perm hp2 (by rw [pl]; omega)
    have hO2 := hO.perm hp2 hac hdb (by rw [pl]; exact hb)
    have hDq2 := hDq.perm hp2.1
    refine W.midR (fun s' => s'.ρ 0 = .own id g 0 n 1 ∧ s'.ρ 1 = lin c ∧ s'.ρ 2 = lin d ∧ s'.ρ 3 = lin M1 ∧ s'.ρ 4 = cv ∧ s'.ρ 12 = lin N ∧ s'.ρ 13 = lin p ∧ s'.H = Hd) ?_ ?_
    · refine W.midN (fun s' => s'.ρ 0 = .own id g 0 n 1 ∧ s'.ρ 1 = lin c ∧ s'.ρ 2 = lin d ∧ s'.ρ 3 = lin M1 ∧ s'.ρ 4 = cv ∧ s'.ρ 12 = lin N ∧ s'.ρ 13 = lin p ∧ s'.H = Hd ∧ s'.ρ 97 = .lit (.bool false)) ?_ ?_
      · refine W.draw 13 [0, 1, 3, 7, 7, 7, 39, 119, 247, 7, 7, 1543, 3591] Tryd.mixed (by kernel_rfl) (by kernel_rfl) ?_
        by_cases hc0 : (c : Int) > 0
        · have w1 : IntKind.i64.wrap ((c : Int) - 1) = ((c - 1 : Nat) : Int) := by rw [IntWalk.i64_in _ (by omega)]; omega
          have c1n : c - 1 < n := by omega
          have pn : p < n := by omega
          have x1 : ((c - 1 : Nat) : Int) < n := by omega
          have x2 : (p : Int) < n := by omega
          simp (config := { maxSteps := 1000000 }) only [go_sem, b0, b1, b2, b3, b4, b12, b13, hc0, w1, Tb.live, Tb.len, Tb.cell c1n, Tb.cell pn, x1, x2, guardA_undef, appendA_U]
          obtain ⟨z, hz, hcc⟩ := Tb.ask c1n pn
          refine hcc _ ⟨trivial, ?_⟩
          have hlt : f (q2.getD (c - 1) 0) < f (q2.getD p 0) := by
            rcases bl2 with h3 | h3
            · omega
            · exact h3 p hcp hpd
          have hlt' := hz.2 hlt
          simp (config := { maxSteps := 1000000 }) only [go_sem, b0, b1, b2, b3, b4, b12, b13, hlt', appendA_U]
          try rfl
        · simp (config := { maxSteps := 1000000 }) only [go_sem, b0, b1, b2, b3, b4, b12, b13, hc0, guardA_undef, appendA_U]
          try rfl
      rintro ⟨ρc, Hc⟩ ⟨c0, c1, c2, c3, c4, c12, c13, hHc, c97⟩
      simp only at c0 c1 c2 c3 c4 c12 c13 c97 hHc
      refine W.cond (t := false) c97 ?_
      refine vc_sound _ _ _ (by rfl) ?_
      simp (config := { maxSteps := 1000000 }) only [go_sem, appendA_U]
      exact ⟨c0, c1, c2, c3, c4, c12, c13, hHc⟩
    rintro ⟨ρc, Hc⟩ ⟨c0, c1, c2, c3, c4, c12, c13, hHc⟩
    simp only at c0 c1 c2 c3 c4 c12 c13 hHc
    rw [hHc]
    clear hHc Hc
    refine W.seq (vc_sound _ _ _ (by rfl) ?_)
    simp (config := { maxSteps := 1000000 }) only [go_sem, c0, c1, c2, c4, c13, appendA_U]
    refine AApply.clo (partition_spec Tb hcp hpd (by omega) _ fun q3 k al hp3 hpar hck hkd => ⟨trivial, ?_⟩)
    have Tc := Tb.upd hp3.1
    have hp23 := hp2.trans hp3
    have hO3 := hO2.perm hp3 hac hdb (by rw [pq]; exact hb)
    have hDq3 := hDq2.perm hp3.1
    have bl3 := bl2.perm hp3 (by rw [pq]; omega)
    have pq3 := hp3.len
    rw [pq] at pq3
    have wk1 : IntKind.i64.wrap ((k : Int) - (c : Int)) = ((k - c : Nat) : Int) := by rw [IntWalk.i64_in _ (by omega)]; omega
    have wk2 : IntKind.i64.wrap ((d : Int) - (k : Int)) = ((d - k : Nat) : Int) := by rw [IntWalk.i64_in _ (by omega)]; omega
    have wk3 : IntKind.i64.wrap ((k : Int) + 1) = ((k + 1 : Nat) : Int) := by rw [IntWalk.i64_in _ (by omega)]; omega
    have t8 : ((N : Int)).tdiv 8 = ((N / 8 : Nat) : Int) := by rw [Int.tdiv_eq_ediv_of_nonneg (by omega)]; push_cast; rfl
    have t8w : IntKind.i64.wrap ((N / 8 : Nat) : Int) = ((N / 8 : Nat) : Int) := IntWalk.i64_in _ (by omega)
    obtain ⟨Hp, hHp⟩ : ∃ Hp, Hp = Hd.upd id (nB g q3) := ⟨_, rfl⟩
    rw [← hHp] at Tc ⊢
    simp (config := { maxSteps := 1000000 }) only [go_sem, appendA_U]
    refine W.seq (vc_sound _ _ _ (by rfl) ?_)
    simp (config := { maxSteps := 1000000 }) only [go_sem, appendA_U]
    refine W.seq (vc_sound _ _ _ (by rfl) ?_)
    simp (config := { maxSteps := 1000000 }) only [go_sem, c1, c2, wk1, wk2, appendA_U]
    refine W.seq (vc_sound _ _ _ (by rfl) ?_)
    simp (config := { maxSteps := 1000000 }) only [go_sem, c12, t8, t8w, appendA_U]
    by_cases hlr : ((k - c : Nat) : Int) < ((d - k : Nat) : Int)
    · refine W.seq (vc_sound _ _ _ (by rfl) ?_)
      simp (config := { maxSteps := 1000000 }) only [go_sem, wk1, wk2, hlr, appendA_U]
      refine vc_sound _ _ _ (by rfl) ?_
      simp (config := { maxSteps := 1000000 }) only [go_sem, c0, c1, c3, c4, appendA_U]
      refine AApply.clo (ih c k q3 Hp M1 (by omega) Tc hDq3 hck (by omega) hM1 (bl3.sub (by omega)) _ fun q4 hq4 hs4 => ⟨trivial, ?_⟩)
      simp (config := { maxSteps := 1000000 }) only [go_sem, c2, c3, wk3, appendA_U]
      refine ⟨by rw [hHp, hHb, hHx]; exact Nat.le_refl _, ⟨k + 1, d, M1, _, _, q4, rfl, rfl, rfl, rfl, rfl, by omega, by omega, hdb, hM1, hp.trans ((hp23.trans (hq4.mono (Nat.le_refl _) (by omega))).mono hac hdb), hO3.left hpar hck hkd hac hdb (by rw [pq3]; exact hb) hq4 hs4, by rw [hHp, hHb, hHx, nB_upd, nB_upd, nB_upd]⟩, by rw [h1, h2]; simp only [lin, iv_int]; omega⟩
    refine W.seq (vc_sound _ _ _ (by rfl) ?_)
    simp (config := { maxSteps := 1000000 }) only [go_sem, wk1, wk2, hlr, appendA_U]
    refine vc_sound _ _ _ (by rfl) ?_
    simp (config := { maxSteps := 1000000 }) only [go_sem, c0, c1, c2, c3, c4, wk3, appendA_U]
    refine AApply.clo (ih (k + 1) d q3 Hp M1 (by omega) Tc hDq3 (by omega) (by omega) hM1 (.inr fun i i1 i2 => ?_) _ fun q4 hq4 hs4 => ⟨trivial, ?_⟩)
    · have i3 := hpar.2 i (by omega) i2
      have i4 := hDq3.ne (i := k) (j := i) (by omega) (by omega) (by omega)
      rw [Nat.add_sub_cancel]
      omega
    simp (config := { maxSteps := 1000000 }) only [go_sem, c1, c2, c3, wk3, appendA_U]
    refine ⟨by rw [hHp, hHb, hHx]; exact Nat.le_refl _, ⟨c, k, M1, _, _, q4, rfl, rfl, rfl, rfl, rfl, hac, hck, by omega, hM1, hp.trans ((hp23.trans (hq4.mono (by omega) (Nat.le_refl _))).mono hac hdb), hO3.right hpar hck hkd hac hdb (by rw [pq3]; exact hb) hq4 hs4, by rw [hHp, hHb, hHx, nB_upd, nB_upd, nB_upd]⟩, by rw [h1, h2]; simp only [lin, iv_int]; omega⟩
end
end Go.Proofs
set_option linter.unusedVariables false
namespace Go.Proofs
theorem mem_take_succ {l : List Nat} {m i : Nat} (hi : l[m]? = some i) (a : Nat) : a ∈ l.take (m + 1) ↔ a ∈ l.take m ∨ a = i := by
  rw [List.take_add_one, hi]
  simp
theorem not_mem_take {l : List Nat} (hnd : l.Nodup) {m i : Nat} (hi : l[m]? = some i) : i ∉ l.take m := fun h => by
  obtain ⟨j, hj⟩ := List.mem_iff_getElem?.1 h
  have hjm : j < m := by
    have := get_lt hj
    rw [List.length_take] at this
    omega
  rw [List.getElem?_take_of_lt hjm] at hj
  have := (List.getElem?_inj (get_lt hj) hnd).1 (hj.trans hi.symm)
  omega
theorem shares_none (least sp : Int) (c : List Int) (l : List Nat) : sharesM least sp c (fun a => decide (a ∈ l.take 0)) = (List.range c.length).map fun i => least + partAt sp c i := by
  unfold sharesM
  refine List.map_congr_left fun i _ => ?_
  simp
theorem shares_at {least sp : Int} {c : List Int} {l : List Nat} (hnd : l.Nodup) {m i : Nat} (hi : l[m]? = some i) (hic : i < c.length) : (sharesM least sp c fun a => decide (a ∈ l.take m))[i]? = some (least + partAt sp c i) := by
  rw [shares_get hic, decide_eq_false (not_mem_take hnd hi)]
  simp
theorem shares_step {least sp : Int} {c : List Int} {l : List Nat} (hnd : l.Nodup) {m i : Nat} (hi : l[m]? = some i) (hic : i < c.length) : (sharesM least sp c fun a => decide (a ∈ l.take m)).set i (least + partAt sp c i + 1) = sharesM least sp c fun a => decide (a ∈ l.take (m + 1)) := by
  apply List.ext_getElem?
  intro a
  rw [List.getElem?_set]
  by_cases h : i = a
  · subst h
    rw [if_pos rfl, if_pos (by rw [shares_len]; exact hic), shares_get hic, decide_eq_true ((mem_take_succ hi i).2 (.inr rfl))]
    simp
  · rw [if_neg h]
    rcases Nat.lt_or_ge a c.length with ha | ha
    · rw [shares_get ha, shares_get ha]
      congr 2
      have : (a ∈ l.take (m + 1)) ↔ a ∈ l.take m := by rw [mem_take_succ hi]; exact ⟨fun h' => h'.elim id fun e => absurd e.symm h, .inl⟩
      simp only [this]
    · rw [List.getElem?_eq_none (by rw [shares_len]; exact ha), List.getElem?_eq_none (by rw [shares_len]; exact ha)]
theorem part_pos {sp : Int} {c : List Int} (h : 0 < c.sum) {i : Nat} {x : Int} (hx : c[i]? = some x) : partAt sp c i = sp * x / c.sum ∧ restAt sp c i = sp * x % c.sum := by
  unfold partAt restAt effC effT
  rw [if_pos h, if_pos h, List.getD_eq_getElem?_getD, hx]
  exact ⟨rfl, rfl⟩
theorem part_zero {sp : Int} {c : List Int} (h : ¬ 0 < c.sum) {i : Nat} (hi : i < c.length) : partAt sp c i = sp / c.length ∧ restAt sp c i = sp % c.length := by
  unfold partAt restAt effC effT
  rw [if_neg h, if_neg h, List.getD_eq_getElem?_getD, List.getElem?_replicate, if_pos hi]
  simp
def leftK (sp : Int) (c : List Int) (k : Nat) : Int := sp - ((List.range k).map (partAt sp c)).sum
theorem leftK_succ (sp : Int) (c : List Int) (k : Nat) : leftK sp c (k + 1) = leftK sp c k - partAt sp c k := by
  unfold leftK
  rw [List.range_succ, List.map_append, List.sum_append]
  simp
  omega
theorem part_le {sp : Int} {c : List Int} (hc : ∀ x ∈ c, 0 ≤ x) (h0 : 0 < c.length) (hs : 0 ≤ sp) (i : Nat) : partAt sp c i ≤ sp := by
  have hT := effT_pos h0
  refine Int.ediv_le_of_le_mul hT ?_
  have : (effC c).getD i 0 ≤ effT c := by
    rw [List.getD_eq_getElem?_getD]
    cases e : (effC c)[i]? with
    | none => exact Int.le_of_lt hT
    | some a =>
      have := sum_ge_mem (effC_nonneg hc) a (List.mem_of_getElem? e)
      rw [effC_sum] at this
      exact this
  exact Int.mul_le_mul_of_nonneg_left this hs
theorem leftK_rng {sp : Int} {c : List Int} (hc : ∀ x ∈ c, 0 ≤ x) (h0 : 0 < c.length) (hs : 0 ≤ sp) (k : Nat) : leftK sp c k ≤ sp ∧ sp - sp * k ≤ leftK sp c k := by
  induction k with
  | zero => simp [leftK]
  | succ k ih =>
    rw [leftK_succ]
    have h1 := part_nn hc h0 hs k
    have h2 := part_le hc h0 hs k
    have h3 : sp * ((k + 1 : Nat) : Int) = sp * k + sp := by push_cast; rw [Int.mul_add, Int.mul_one]
    omega
end Go.Proofs
