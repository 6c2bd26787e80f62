/- Own work: contracts. -/
import Derived.Test.YtikgmgmphkalkaaDoorConC
import Derived.Test.YtikgmgmphkalkaaDoorConB
set_option linter.all false
set_option maxRecDepth 100000
namespace Go.Proofs
open Go.Hx
def tailAt (k : Nat) : Code → Option Code
  | .seq a b => match tailAt k a with
    | some a' => some (.seq a' b)
    | none => tailAt k b
  | .region j x m => if j == k then some (.region j x m) else none
  | _ => none
def bodyOf (f : Func) : Code := f.body.getD .skip

set_option maxHeartbeats 8000000 in
theorem nearest_tail {c s : List Int} {grain least : Int} {n cid cg sid sg : Nat} (hn : c.length = n) (h1n : 1 ≤ n) (hn4 : n ≤ 4) (hcr : ∀ x ∈ c, 0 ≤ x ∧ x ≤ 8) (hle2 : 0 ≤ least ∧ least ≤ 2) (hgr2 : 1 ≤ grain ∧ grain ≤ 14) (hsl : s.length = n) (hss0 : ∀ x ∈ s, least ≤ x ∧ x ≤ grain)
    (hsn : ∀ w : List Int, w.length = n → w.sum = grain → distL (effC c) s grain least ≤ distL (effC c) w grain least) (H H3 : AHeap) (gc3 : H3.get cid = some (.arr cg 3 (ints (effC c)))) (gs3 : H3.get sid = some (.arr sg 3 (ints s))) (hcn : cid < H3.next) (hsdn : sid < H3.next) (hHn : H.next ≤ H3.next)
    (K : ARes → AHeap → Prop) (hK : ∀ H', H.next ≤ H'.next → K (.ret (.lit (.bool true))) H') {E5 : Nat → AVal} (p7 : E5 7 = .own cid cg 0 n 1) (p10 : E5 10 = lin least) (p11 : E5 11 = lin grain) (p12 : E5 12 = .own sid sg 0 n 1) (p15 : E5 15 = lin grain)
    (code : Code) (hcode : tailAt 34 (bodyOf Tryd.f7) = some code) : W Tryd.prog G0 197 none code (bodyQ Tryd.prog G0 [.tmp 6] H K) ⟨E5, H3⟩ := by
  simp only [tailAt, bodyOf, Tryd.f7, Option.getD_some, Nat.reduceBEq, Bool.false_eq_true, if_false, if_true, reduceIte] at hcode
  obtain rfl := Option.some.inj hcode
  clear hcode
  have cel := effC_len c
  rw [hn] at cel
  have lc3 := get_live gc3
  have ls3 := get_live gs3
  have iel := ints_length (effC c)
  rw [cel] at iel
  have isl := ints_length s
  rw [hsl] at isl
  refine W.seq (vc_sound _ _ _ (by rfl) ?_)
  simp (config := { maxSteps := 1000000 }) only [go_sem, p7, p10, p11, p12, appendA_U]
  have hec : ∀ x ∈ effC c, 0 ≤ x ∧ x ≤ 1000 := fun x h => by
    unfold effC at h
    split at h
    · have := hcr x h; omega
    · rw [List.mem_replicate] at h; omega
  have hn12 : n ≤ 12 := by omega
  obtain ⟨D, hD⟩ : ∃ D, D = distL (effC c) s grain least := ⟨_, rfl⟩
  rw [← hD] at hsn
  refine AApply.clo (distance_own cel hsl hn12 hec (fun x h => by have := hss0 x h; omega) (by omega) (by omega) (lo := 0) (lo2 := 0) H3 (.inr ⟨cid, cg, Nat.zero_le _, by omega, by rw [iel], gc3⟩) (.inr ⟨sid, sg, Nat.zero_le _, by omega, by rw [isl], gs3⟩) _ ⟨trivial, ?_⟩)
  rw [← hD]
  simp (config := { maxSteps := 1000000 }) only [go_sem, appendA_U]
  refine W.seq (vc_sound _ _ _ (by rfl) ?_)
  simp (config := { maxSteps := 1000000 }) only [go_sem, p7, lc3, iel, appendA_U]
  refine ⟨⟨by omega, by omega⟩, ?_⟩
  refine W.seq (vc_sound _ _ _ (by rfl) ?_)
  simp (config := { maxSteps := 1000000 }) only [go_sem, appendA_U]
  have hz : List.replicate n (AVal.lit (.int .i64 0)) = ints (List.replicate n 0) := by simp only [ints, List.map_replicate]; rfl
  rw [hz]
  obtain ⟨H5, hH5⟩ : ∃ H5, H5 = ext H3 [.arr 0 3 (ints (List.replicate n 0))] := ⟨_, rfl⟩
  have gw5 : H5.get H3.next = some (.arr 0 3 (ints (List.replicate n 0))) := by rw [hH5]; exact get_ext H3 _ 0 (by simp)
  have n5 : H5.next = H3.next + 1 := by rw [hH5]; rfl
  have o5 : Over H3 H5 := by rw [hH5]; exact .ext _ _
  rw [← hH5]
  refine W.env fun E7 hE7 => ?_
  have s7 : E7 7 = .own cid cg 0 n 1 := by rw [hE7]; simp (config := { maxSteps := 1000000 }) only [go_sem, p7, appendA_U]
  have s10 : E7 10 = lin least := by rw [hE7]; simp (config := { maxSteps := 1000000 }) only [go_sem, p10, appendA_U]
  have s11 : E7 11 = lin grain := by rw [hE7]; simp (config := { maxSteps := 1000000 }) only [go_sem, p11, appendA_U]
  have s15 : E7 15 = lin grain := by rw [hE7]; simp (config := { maxSteps := 1000000 }) only [go_sem, p15, appendA_U]
  have s20 : E7 20 = lin D := by rw [hE7]; simp (config := { maxSteps := 1000000 }) only [go_sem, appendA_U]
  have s21 : E7 21 = .own H3.next 0 0 n 1 := by rw [hE7]; simp (config := { maxSteps := 1000000 }) only [go_sem, appendA_U]
  have s22 : E7 22 = lin 0 := by rw [hE7]; simp (config := { maxSteps := 1000000 }) only [go_sem, appendA_U]
  clear hE7 hH5
  refine W.loop0 25108406941546700754597959162207524128691149129494694985792 (by kernel_rfl) (fun ρ Hx => ∃ (m : Nat) (wl : List Int), ρ 22 = lin m ∧ m ≤ 4096 ∧ Hx.next = H5.next ∧ (∀ j, j < H3.next → Hx.get j = H3.get j) ∧ Hx.get H3.next = some (.arr 0 3 (ints wl)) ∧ wl.length = n) (fun ρ Hx => 4096 - (iv (ρ 22)).toNat) ?_ ?_
  · exact ⟨0, _, s22, by omega, rfl, fun j h => o5.old j h, gw5, by simp⟩
  rintro ρ7 Hx7 ⟨m, wl, h22, hm, nx7, old7, gw7, lW⟩
  refine W.env fun E8 hE8 => ?_
  have t7 : E8 7 = .own cid cg 0 n 1 := by rw [hE8]; simp (config := { maxSteps := 1000000 }) only [go_sem, s7, appendA_U]
  have t10 : E8 10 = lin least := by rw [hE8]; simp (config := { maxSteps := 1000000 }) only [go_sem, s10, appendA_U]
  have t11 : E8 11 = lin grain := by rw [hE8]; simp (config := { maxSteps := 1000000 }) only [go_sem, s11, appendA_U]
  have t15 : E8 15 = lin grain := by rw [hE8]; simp (config := { maxSteps := 1000000 }) only [go_sem, s15, appendA_U]
  have t20 : E8 20 = lin D := by rw [hE8]; simp (config := { maxSteps := 1000000 }) only [go_sem, s20, appendA_U]
  have t21 : E8 21 = .own H3.next 0 0 n 1 := by rw [hE8]; simp (config := { maxSteps := 1000000 }) only [go_sem, s21, appendA_U]
  have t22 : E8 22 = lin m := by rw [hE8]; simp (config := { maxSteps := 1000000 }) only [go_sem, h22, appendA_U]
  clear hE8
  by_cases hb8 : (m : Int) < 4096
  rotate_left
  · refine vc_sound _ _ _ (by rfl) ?_
    simp (config := { maxSteps := 1000000 }) only [go_sem, t22, hb8, appendA_U]
    refine vc_sound _ _ _ (by rfl) ?_
    simp (config := { maxSteps := 1000000 }) only [go_sem, t15, t11, appendA_U]
    exact FinV.mk (by omega) (hK _ (by omega))
  have wm1 := IntWalk.i64_in ((m : Int) + 1) (by omega)
  have lw7 := get_live gw7
  have iW := ints_length wl
  rw [lW] at iW
  have one1 : (1 : Int) ≤ n := by omega
  refine W.seq (vc_sound _ _ _ (by rfl) ?_)
  simp (config := { maxSteps := 1000000 }) only [go_sem, t22, hb8, appendA_U]
  refine W.seq (W.block ?_)
  refine W.seq (vc_sound _ _ _ (by rfl) ?_)
  simp (config := { maxSteps := 1000000 }) only [go_sem, t11, t22, appendA_U]
  refine W.seq (vc_sound _ _ _ (by rfl) ?_)
  simp (config := { maxSteps := 1000000 }) only [go_sem, t21, lw7, iW, one1, appendA_U]
  obtain ⟨p, hp⟩ : ∃ p : Nat, p = n - 1 := ⟨_, rfl⟩
  have hpi : (n : Int) - 1 = p := by omega
  refine W.env fun E9 hE9 => ?_
  have y7 : E9 7 = .own cid cg 0 n 1 := by rw [hE9]; simp (config := { maxSteps := 1000000 }) only [go_sem, t7, appendA_U]
  have y10 : E9 10 = lin least := by rw [hE9]; simp (config := { maxSteps := 1000000 }) only [go_sem, t10, appendA_U]
  have y11 : E9 11 = lin grain := by rw [hE9]; simp (config := { maxSteps := 1000000 }) only [go_sem, t11, appendA_U]
  have y20 : E9 20 = lin D := by rw [hE9]; simp (config := { maxSteps := 1000000 }) only [go_sem, t20, appendA_U]
  have y21 : E9 21 = .own H3.next 0 0 n 1 := by rw [hE9]; simp (config := { maxSteps := 1000000 }) only [go_sem, t21, appendA_U]
  have y22 : E9 22 = lin m := by rw [hE9]; simp (config := { maxSteps := 1000000 }) only [go_sem, t22, appendA_U]
  have y23 : E9 23 = lin grain := by rw [hE9]; simp (config := { maxSteps := 1000000 }) only [go_sem, t11, appendA_U]
  have y24 : E9 24 = lin m := by rw [hE9]; simp (config := { maxSteps := 1000000 }) only [go_sem, t22, appendA_U]
  have y152 : E9 152 = lin p := by
    rw [hE9]
    simp (config := { maxSteps := 1000000 }) only [go_sem, t21, lw7, iW, one1, appendA_U]
    rw [hp]
  have y153 : E9 153 = lin 0 := by rw [hE9]; simp (config := { maxSteps := 1000000 }) only [go_sem, appendA_U]
  clear hE9
  refine W.loop0 5986299288525836705283244608518139652549608692776960 (by kernel_rfl) (fun ρ Hx => ∃ (i : Nat) (q : List Int) (left rest : Int), ρ 153 = lin i ∧ i ≤ p ∧ ρ 23 = lin left ∧ ρ 24 = lin rest ∧ (0 ≤ rest ∧ rest ≤ 4096) ∧ (-17 * (i : Int) ≤ left ∧ left ≤ 14) ∧ left = grain - (q.take i).sum ∧ (∀ x ∈ q.take i, 0 ≤ x ∧ x ≤ 17) ∧ q.length = n ∧ Hx.next = H5.next ∧ (∀ j, j < H3.next → Hx.get j = H3.get j) ∧ Hx.get H3.next = some (.arr 0 3 (ints q))) (fun ρ Hx => n - (iv (ρ 153)).toNat) ?_ ?_
  · exact ⟨0, wl, grain, m, y153, by omega, y23, y24, by omega, by omega, by simp, by simp, lW, nx7, old7, gw7⟩
  rintro ρ8 Hx8 ⟨i, q, left, rest, h153, hi, h23, h24, hrr, hlr, hle3, hqr, lq, nx8, old8, gw8⟩
  refine W.env fun EA hEA => ?_
  have z7 : EA 7 = .own cid cg 0 n 1 := by rw [hEA]; simp (config := { maxSteps := 1000000 }) only [go_sem, y7, appendA_U]
  have z10 : EA 10 = lin least := by rw [hEA]; simp (config := { maxSteps := 1000000 }) only [go_sem, y10, appendA_U]
  have z11 : EA 11 = lin grain := by rw [hEA]; simp (config := { maxSteps := 1000000 }) only [go_sem, y11, appendA_U]
  have z20 : EA 20 = lin D := by rw [hEA]; simp (config := { maxSteps := 1000000 }) only [go_sem, y20, appendA_U]
  have z21 : EA 21 = .own H3.next 0 0 n 1 := by rw [hEA]; simp (config := { maxSteps := 1000000 }) only [go_sem, y21, appendA_U]
  have z22 : EA 22 = lin m := by rw [hEA]; simp (config := { maxSteps := 1000000 }) only [go_sem, y22, appendA_U]
  have z23 : EA 23 = lin left := by rw [hEA]; simp (config := { maxSteps := 1000000 }) only [go_sem, h23, appendA_U]
  have z24 : EA 24 = lin rest := by rw [hEA]; simp (config := { maxSteps := 1000000 }) only [go_sem, h24, appendA_U]
  have z152 : EA 152 = lin p := by rw [hEA]; simp (config := { maxSteps := 1000000 }) only [go_sem, y152, appendA_U]
  have z153 : EA 153 = lin i := by rw [hEA]; simp (config := { maxSteps := 1000000 }) only [go_sem, h153, appendA_U]
  clear hEA
  have lq8 := get_live gw8
  have iq := ints_length q
  rw [lq] at iq
  by_cases hb9 : (i : Int) < p
  · have hin : (i : Int) < n := by omega
    have tm : rest.tmod 16 = rest % 16 := Int.tmod_eq_emod_of_nonneg hrr.1
    have td : rest.tdiv 16 = rest / 16 := Int.tdiv_eq_ediv_of_nonneg hrr.1
    have w1 := IntWalk.i64_in (rest % 16) (by omega)
    have w2 := IntWalk.i64_in (rest / 16) (by omega)
    have w3 := IntWalk.i64_in (least + rest % 16) (by omega)
    obtain ⟨x, hx⟩ : ∃ x, x = least + rest % 16 := ⟨_, rfl⟩
    rw [← hx] at w3
    have w4 := IntWalk.i64_in (left - x) (by omega)
    have w5 := IntWalk.i64_in ((i : Int) + 1) (by omega)
    have sq : setAt (ints q) i [.lit (.int .i64 x)] = ints (q.set i x) := setAt_ints (by omega)
    have gx : (ints (q.set i x))[i]? = some (lin x) := by rw [ints_get, List.getElem?_set_self (by omega)]; rfl
    have gxn := ne_of_get gx
    have iq2 : (ints (q.set i x)).length = n := by rw [ints_length, List.length_set, lq]
    obtain ⟨Ha, hHa⟩ : ∃ Ha, Ha = Hx8.upd H3.next (.arr 0 3 (ints (q.set i x))) := ⟨_, rfl⟩
    have ga : Ha.get H3.next = some (.arr 0 3 (ints (q.set i x))) := by rw [hHa, upd_get, if_pos rfl]
    have la := get_live ga
    have na : Ha.next = Hx8.next := by rw [hHa, upd_next]
    refine W.seq (vc_sound _ _ _ (by rfl) ?_)
    simp (config := { maxSteps := 1000000 }) only [go_sem, z152, z153, hb9, appendA_U]
    refine vc_sound _ _ _ (by rfl) ?_
    simp (config := { maxSteps := 1000000 }) only [go_sem, z10, z21, z23, z24, z153, lq8, iq, tm, td, w1, w2, ← hx, w3, w4, w5, hin, sq, ← hHa, la, gx, gxn, iq2, appendA_U]
    have htk : (q.set i x).take (i + 1) = q.take i ++ [x] := by
      rw [take_succ_get (List.getElem?_set_self (by omega)), List.take_set_of_le (Nat.le_refl _)]
    refine ⟨by omega, by omega, ⟨i + 1, q.set i x, left - x, rest / 16, rfl, by omega, rfl, rfl, by omega, by omega, ?_, ?_, by rw [List.length_set, lq], by omega, fun j h => ?_, ga⟩, by rw [h153]; simp only [lin, iv_int]; omega⟩
    · rw [htk, List.sum_append]; simp; omega
    · rw [htk]
      intro y hy
      rcases List.mem_append.1 hy with h | h
      · exact hqr y h
      · rw [List.mem_singleton.1 h]; omega
    · rw [hHa, upd_get, if_neg (by omega)]; exact old8 j h
  have hip : i = p := by omega
  have hp1 : (p : Int) < n := by omega
  have nn : (n : Int) - 1 = p := by omega
  have wp := IntWalk.i64_in (p : Int) (by omega)
  have sq : setAt (ints q) p [.lit (.int .i64 left)] = ints (q.set p left) := setAt_ints (by omega)
  obtain ⟨Hw, hHw⟩ : ∃ Hw, Hw = Hx8.upd H3.next (.arr 0 3 (ints (q.set p left))) := ⟨_, rfl⟩
  have gw : Hw.get H3.next = some (.arr 0 3 (ints (q.set p left))) := by rw [hHw, upd_get, if_pos rfl]
  have nw : Hw.next = Hx8.next := by rw [hHw, upd_next]
  have oldw : ∀ j, j < H3.next → Hw.get j = H3.get j := fun j h => by rw [hHw, upd_get, if_neg (by omega)]; exact old8 j h
  have lqw : (q.set p left).length = n := by rw [List.length_set, lq]
  have qtk : q.set p left = q.take p ++ [left] := by
    have h1 : (q.set p left).take (p + 1) = q.take p ++ [left] := by
      rw [take_succ_get (List.getElem?_set_self (by omega)), List.take_set_of_le (Nat.le_refl _)]
    rw [List.take_of_length_le (by omega)] at h1
    exact h1
  rw [hip] at hle3 hqr
  have qsum : (q.set p left).sum = grain := by rw [qtk, List.sum_append]; simp; omega
  have qrng : ∀ x ∈ q.set p left, -1000 ≤ x ∧ x ≤ 1000 := fun x h => by
    rw [qtk] at h
    rcases List.mem_append.1 h with h | h
    · have := hqr x h; omega
    · rw [List.mem_singleton.1 h]; omega
  have hnear := hsn _ lqw qsum
  have gcw := (oldw cid hcn).trans gc3
  refine W.seq (vc_sound _ _ _ (by rfl) ?_)
  simp (config := { maxSteps := 1000000 }) only [go_sem, z152, z153, hb9, appendA_U]
  refine vc_sound _ _ _ (by rfl) ?_
  simp (config := { maxSteps := 1000000 }) only [go_sem, appendA_U]
  refine W.seq (vc_sound _ _ _ (by rfl) ?_)
  simp (config := { maxSteps := 1000000 }) only [go_sem, z21, z23, lq8, iq, nn, wp, hp1, sq, ← hHw, appendA_U]
  refine ⟨by omega, ?_⟩
  refine W.env fun EB hEB => ?_
  have b7 : EB 7 = .own cid cg 0 n 1 := by rw [hEB]; simp (config := { maxSteps := 1000000 }) only [go_sem, z7, appendA_U]
  have b10 : EB 10 = lin least := by rw [hEB]; simp (config := { maxSteps := 1000000 }) only [go_sem, z10, appendA_U]
  have b11 : EB 11 = lin grain := by rw [hEB]; simp (config := { maxSteps := 1000000 }) only [go_sem, z11, appendA_U]
  have b20 : EB 20 = lin D := by rw [hEB]; simp (config := { maxSteps := 1000000 }) only [go_sem, z20, appendA_U]
  have b21 : EB 21 = .own H3.next 0 0 n 1 := by rw [hEB]; simp (config := { maxSteps := 1000000 }) only [go_sem, z21, appendA_U]
  have b22 : EB 22 = lin m := by rw [hEB]; simp (config := { maxSteps := 1000000 }) only [go_sem, z22, appendA_U]
  have b23 : EB 23 = lin left := by rw [hEB]; simp (config := { maxSteps := 1000000 }) only [go_sem, z23, appendA_U]
  have b24 : EB 24 = lin rest := by rw [hEB]; simp (config := { maxSteps := 1000000 }) only [go_sem, z24, appendA_U]
  clear hEB
  refine W.midN (fun s' => s'.H = Hw ∧ s'.ρ 22 = lin m ∧ s'.ρ 193 = .lit (.bool false)) ?_ ?_
  · refine vc_sound _ _ _ (by rfl) ?_
    by_cases hl1 : left ≥ least
    · by_cases hl2 : rest = 0
      · simp (config := { maxSteps := 1000000 }) only [go_sem, b7, b10, b11, b20, b21, b22, b23, b24, hl1, hl2, appendA_U]
        refine AApply.clo (distance_own cel lqw hn12 hec qrng (by omega) (by omega) (lo := 0) (lo2 := 0) Hw (.inr ⟨cid, cg, Nat.zero_le _, by omega, by rw [iel], gcw⟩) (.inr ⟨H3.next, 0, Nat.zero_le _, by omega, by rw [ints_length, lqw], gw⟩) _ ⟨trivial, ?_⟩)
        have hD2 : ¬ distL (effC c) (q.set p left) grain least < D := by omega
        simp (config := { maxSteps := 1000000 }) only [go_sem, b20, b22, hD2, appendA_U]
      · simp (config := { maxSteps := 1000000 }) only [go_sem, b10, b22, b23, b24, hl1, hl2, appendA_U]
    · simp (config := { maxSteps := 1000000 }) only [go_sem, b10, b22, b23, b24, hl1, appendA_U]
  rintro ⟨ρ9, H9⟩ ⟨hH9, c22, c193⟩
  simp only at hH9 c22 c193
  rw [hH9]
  refine W.cond (t := false) c193 ?_
  refine vc_sound _ _ _ (by rfl) ?_
  simp (config := { maxSteps := 1000000 }) only [go_sem, appendA_U]
  refine vc_sound _ _ _ (by rfl) ?_
  simp (config := { maxSteps := 1000000 }) only [go_sem, c22, wm1, appendA_U]
  exact ⟨by omega, ⟨m + 1, _, rfl, by omega, by omega, oldw, gw, lqw⟩, by rw [h22]; simp only [lin, iv_int]; omega⟩

set_option maxHeartbeats 16000000 in
theorem nearest_mid {c s : List Int} {grain least : Int} {n cid cg sid sg : Nat} (hn : n = c.length) (hz : 0 < n) (hn4' : n ≤ 4) (hcr : ∀ x ∈ c, 0 ≤ x ∧ x ≤ 8) (hle2 : 0 ≤ least ∧ least ≤ 2) (hgr2 : 1 ≤ grain ∧ grain ≤ 14) (hsl : s.length = n) (hss : s.sum = grain) (hss0 : ∀ x ∈ s, least ≤ x ∧ x ≤ grain)
    (hsm : ∀ i j : Nat, i < n → j < n → (effC c).getD j 0 < (effC c).getD i 0 → s.getD j 0 ≤ s.getD i 0) (hsn : ∀ w : List Int, w.length = n → w.sum = grain → distL (effC c) s grain least ≤ distL (effC c) w grain least) (H H3 : AHeap)
    (gc3 : H3.get cid = some (.arr cg 3 (ints (effC c)))) (gs3 : H3.get sid = some (.arr sg 3 (ints s))) (hcn : cid < H3.next) (hsdn : sid < H3.next) (hHn : H.next ≤ H3.next)
    (K : ARes → AHeap → Prop) (hK : ∀ H', H.next ≤ H'.next → K (.ret (.lit (.bool true))) H') {E : Nat → AVal} (k7 : E 7 = .own cid cg 0 n 1) (k10 : E 10 = lin least) (k11 : E 11 = lin grain) (k12 : E 12 = .own sid sg 0 n 1)
    (code : Code) (hcode : tailAt 22 (bodyOf Tryd.f7) = some code) : W Tryd.prog G0 197 none code (bodyQ Tryd.prog G0 [.tmp 6] H K) ⟨E, H3⟩ := by
  simp only [tailAt, bodyOf, Tryd.f7, Option.getD_some, Nat.reduceBEq, Bool.false_eq_true, if_false, if_true, reduceIte] at hcode
  obtain rfl := Option.some.inj hcode
  clear hcode
  have isl := ints_length s
  rw [hsl] at isl
  have cel := effC_len c
  rw [← hn] at cel
  have lc3 := get_live gc3
  have ls3 := get_live gs3
  have iel := ints_length (effC c)
  rw [cel] at iel
  refine W.seq (vc_sound _ _ _ (by rfl) ?_)
  simp (config := { maxSteps := 1000000 }) only [go_sem, appendA_U]
  refine W.seq (vc_sound _ _ _ (by rfl) ?_)
  simp (config := { maxSteps := 1000000 }) only [go_sem, k12, ls3, isl, appendA_U]
  refine W.env fun E4 hE4 => ?_
  have m7 : E4 7 = .own cid cg 0 n 1 := by rw [hE4]; simp (config := { maxSteps := 1000000 }) only [go_sem, k7, appendA_U]
  have m10 : E4 10 = lin least := by rw [hE4]; simp (config := { maxSteps := 1000000 }) only [go_sem, k10, appendA_U]
  have m11 : E4 11 = lin grain := by rw [hE4]; simp (config := { maxSteps := 1000000 }) only [go_sem, k11, appendA_U]
  have m12 : E4 12 = .own sid sg 0 n 1 := by rw [hE4]; simp (config := { maxSteps := 1000000 }) only [go_sem, k12, appendA_U]
  have m15 : E4 15 = lin 0 := by rw [hE4]; simp (config := { maxSteps := 1000000 }) only [go_sem, appendA_U]
  have m93 : E4 93 = .own sid sg 0 n 1 := by rw [hE4]; simp (config := { maxSteps := 1000000 }) only [go_sem, k12, appendA_U]
  have m94 : E4 94 = lin n := by rw [hE4]; simp (config := { maxSteps := 1000000 }) only [go_sem, k12, ls3, isl, appendA_U]
  have m95 : E4 95 = lin 0 := by rw [hE4]; simp (config := { maxSteps := 1000000 }) only [go_sem, appendA_U]
  clear hE4
  have hst := fun i => sum_take_rng (c := s) (fun x h => by have := hss0 x h; omega) i
  have hstl : ∀ i, ((s.take i).length : Int) ≤ 4 := fun i => by rw [List.length_take]; omega
  refine W.loop0 87112285931720632565366767333735891173440 (by kernel_rfl) (fun ρ Hx => Hx = H3 ∧ ∃ i : Nat, ρ 95 = lin i ∧ i ≤ n ∧ ρ 15 = lin (s.take i).sum) (fun ρ Hx => n - (iv (ρ 95)).toNat) ?_ ?_
  · exact ⟨rfl, 0, m95, by omega, m15⟩
  rintro ρ4 Hx4 ⟨hHx4, i, h95, hi4, h15⟩
  rw [hHx4]
  clear hHx4 Hx4
  refine W.env fun E5 hE5 => ?_
  have p7 : E5 7 = .own cid cg 0 n 1 := by rw [hE5]; simp (config := { maxSteps := 1000000 }) only [go_sem, m7, appendA_U]
  have p10 : E5 10 = lin least := by rw [hE5]; simp (config := { maxSteps := 1000000 }) only [go_sem, m10, appendA_U]
  have p11 : E5 11 = lin grain := by rw [hE5]; simp (config := { maxSteps := 1000000 }) only [go_sem, m11, appendA_U]
  have p12 : E5 12 = .own sid sg 0 n 1 := by rw [hE5]; simp (config := { maxSteps := 1000000 }) only [go_sem, m12, appendA_U]
  have p15 : E5 15 = lin (s.take i).sum := by rw [hE5]; simp (config := { maxSteps := 1000000 }) only [go_sem, h15, appendA_U]
  have p93 : E5 93 = .own sid sg 0 n 1 := by rw [hE5]; simp (config := { maxSteps := 1000000 }) only [go_sem, m93, appendA_U]
  have p94 : E5 94 = lin n := by rw [hE5]; simp (config := { maxSteps := 1000000 }) only [go_sem, m94, appendA_U]
  have p95 : E5 95 = lin i := by rw [hE5]; simp (config := { maxSteps := 1000000 }) only [go_sem, h95, appendA_U]
  clear hE5
  have hs1 := hst i
  have hs2 := hstl i
  by_cases hb4 : (i : Int) < n
  · obtain ⟨x, hx⟩ := get_of_lt (l := s) (i := i) (by omega)
    obtain ⟨ci, hci⟩ := get_of_lt (l := effC c) (i := i) (by omega)
    have hxr := hss0 x (List.mem_of_getElem? hx)
    have hxn := ne_of_get hx
    have hcin := ne_of_get hci
    have wx := IntWalk.i64_in ((s.take i).sum + x) (by omega)
    have wi := IntWalk.i64_in ((i : Int) + 1) (by omega)
    have x1 : ¬ x < least := by omega
    have x2 : ¬ x > grain := by omega
    refine W.seq (vc_sound _ _ _ (by rfl) ?_)
    simp (config := { maxSteps := 1000000 }) only [go_sem, p94, p95, hb4, appendA_U]
    refine W.seq (vc_sound _ _ _ (by rfl) ?_)
    simp (config := { maxSteps := 1000000 }) only [go_sem, appendA_U]
    refine W.seq (W.block ?_)
    refine W.seq (vc_sound _ _ _ (by rfl) ?_)
    simp (config := { maxSteps := 1000000 }) only [go_sem, p93, p95, ls3, isl, hx, hxn, hb4, appendA_U]
    refine W.seq (vc_sound _ _ _ (by rfl) ?_)
    simp (config := { maxSteps := 1000000 }) only [go_sem, p15, wx, appendA_U]
    refine W.seq (vc_sound _ _ _ (by rfl) ?_)
    simp (config := { maxSteps := 1000000 }) only [go_sem, p12, ls3, isl, appendA_U]
    refine W.env fun E6 hE6 => ?_
    have q7 : E6 7 = .own cid cg 0 n 1 := by rw [hE6]; simp (config := { maxSteps := 1000000 }) only [go_sem, p7, appendA_U]
    have q10 : E6 10 = lin least := by rw [hE6]; simp (config := { maxSteps := 1000000 }) only [go_sem, p10, appendA_U]
    have q11 : E6 11 = lin grain := by rw [hE6]; simp (config := { maxSteps := 1000000 }) only [go_sem, p11, appendA_U]
    have q15 : E6 15 = lin (s.take (i + 1)).sum := by rw [hE6, sum_take_succ hx]; simp (config := { maxSteps := 1000000 }) only [go_sem, p15, wx, appendA_U]
    have q16 : E6 16 = lin i := by rw [hE6]; simp (config := { maxSteps := 1000000 }) only [go_sem, p95, appendA_U]
    have q17 : E6 17 = lin x := by rw [hE6]; simp (config := { maxSteps := 1000000 }) only [go_sem, p93, p95, ls3, isl, hx, hxn, hb4, appendA_U]
    have q95 : E6 95 = lin i := by rw [hE6]; simp (config := { maxSteps := 1000000 }) only [go_sem, p95, appendA_U]
    have q103 : E6 103 = .own sid sg 0 n 1 := by rw [hE6]; simp (config := { maxSteps := 1000000 }) only [go_sem, p12, appendA_U]
    have q104 : E6 104 = lin n := by rw [hE6]; simp (config := { maxSteps := 1000000 }) only [go_sem, p12, ls3, isl, appendA_U]
    have q105 : E6 105 = lin 0 := by rw [hE6]; simp (config := { maxSteps := 1000000 }) only [go_sem, appendA_U]
    clear hE6
    refine W.block ?_
    refine W.loop0 43556142925315304116008608903371829280832 (by kernel_rfl) (fun ρ Hx => Hx = H3 ∧ ∃ j : Nat, ρ 105 = lin j ∧ j ≤ n) (fun ρ Hx => n - (iv (ρ 105)).toNat) ?_ ?_
    · exact ⟨rfl, 0, q105, by omega⟩
    rintro ρ5 Hx5 ⟨hHx5, j, h105, hj⟩
    rw [hHx5]
    clear hHx5 Hx5
    refine W.env fun E7 hE7 => ?_
    have r7 : E7 7 = .own cid cg 0 n 1 := by rw [hE7]; simp (config := { maxSteps := 1000000 }) only [go_sem, q7, appendA_U]
    have r10 : E7 10 = lin least := by rw [hE7]; simp (config := { maxSteps := 1000000 }) only [go_sem, q10, appendA_U]
    have r11 : E7 11 = lin grain := by rw [hE7]; simp (config := { maxSteps := 1000000 }) only [go_sem, q11, appendA_U]
    have r15 : E7 15 = lin (s.take (i + 1)).sum := by rw [hE7]; simp (config := { maxSteps := 1000000 }) only [go_sem, q15, appendA_U]
    have r16 : E7 16 = lin i := by rw [hE7]; simp (config := { maxSteps := 1000000 }) only [go_sem, q16, appendA_U]
    have r17 : E7 17 = lin x := by rw [hE7]; simp (config := { maxSteps := 1000000 }) only [go_sem, q17, appendA_U]
    have r95 : E7 95 = lin i := by rw [hE7]; simp (config := { maxSteps := 1000000 }) only [go_sem, q95, appendA_U]
    have r103 : E7 103 = .own sid sg 0 n 1 := by rw [hE7]; simp (config := { maxSteps := 1000000 }) only [go_sem, q103, appendA_U]
    have r104 : E7 104 = lin n := by rw [hE7]; simp (config := { maxSteps := 1000000 }) only [go_sem, q104, appendA_U]
    have r105 : E7 105 = lin j := by rw [hE7]; simp (config := { maxSteps := 1000000 }) only [go_sem, h105, appendA_U]
    clear hE7
    by_cases hb5 : (j : Int) < n
    · obtain ⟨y, hy⟩ := get_of_lt (l := s) (i := j) (by omega)
      obtain ⟨cj, hcj⟩ := get_of_lt (l := effC c) (i := j) (by omega)
      have hyn := ne_of_get hy
      have hcjn := ne_of_get hcj
      have wj := IntWalk.i64_in ((j : Int) + 1) (by omega)
      have hmono : cj < ci → ¬ x < y := fun h => by
        have := hsm i j (by omega) (by omega) (by rw [List.getD_eq_getElem?_getD, List.getD_eq_getElem?_getD, hci, hcj]; exact h)
        rw [List.getD_eq_getElem?_getD, List.getD_eq_getElem?_getD, hx, hy] at this
        simp only [Option.getD_some] at this
        omega
      refine W.seq (vc_sound _ _ _ (by rfl) ?_)
      simp (config := { maxSteps := 1000000 }) only [go_sem, r104, r105, hb5, appendA_U]
      refine W.seq (vc_sound _ _ _ (by rfl) ?_)
      simp (config := { maxSteps := 1000000 }) only [go_sem, appendA_U]
      refine W.seq (W.block ?_)
      refine W.seq (vc_sound _ _ _ (by rfl) ?_)
      simp (config := { maxSteps := 1000000 }) only [go_sem, r103, r105, ls3, isl, hy, hyn, hb5, appendA_U]
      refine W.midN (fun s' => s'.H = H3 ∧ s'.ρ 105 = lin j ∧ s'.ρ 15 = lin (s.take (i + 1)).sum ∧ s'.ρ 95 = lin i ∧ s'.ρ 133 = .lit (.bool false)) ?_ ?_
      · refine W.draw 21 [0, 0, 3, 7, 15, 15, 63, 127, 255, 511, 511, 2047, 4095, 511, 511, 25087, 57855, 131071, 262143, 524287, 524287] Tryd.mixed (by kernel_rfl) (by kernel_rfl) ?_
        by_cases hcc : ci > cj
        · have hxy := hmono hcc
          simp (config := { maxSteps := 1000000 }) only [go_sem, r7, r10, r11, r15, r16, r17, r95, r105, x1, x2, lc3, iel, hci, hcin, hcj, hcjn, hb4, hb5, hcc, hxy, appendA_U]
        · simp (config := { maxSteps := 1000000 }) only [go_sem, r7, r10, r11, r15, r16, r17, r95, r105, x1, x2, lc3, iel, hci, hcin, hcj, hcjn, hb4, hb5, hcc, appendA_U]
      rintro ⟨ρ6, H6⟩ ⟨hH6, z105, z15, z95, z133⟩
      simp only at hH6 z105 z15 z95 z133
      rw [hH6]
      refine W.cond (t := false) z133 ?_
      refine vc_sound _ _ _ (by rfl) ?_
      simp (config := { maxSteps := 1000000 }) only [go_sem, appendA_U]
      refine vc_sound _ _ _ (by rfl) ?_
      simp (config := { maxSteps := 1000000 }) only [go_sem, z105, wj, appendA_U]
      exact ⟨⟨j + 1, rfl, by omega⟩, by rw [h105]; simp only [lin, iv_int]; omega⟩
    · refine vc_sound _ _ _ (by rfl) ?_
      simp (config := { maxSteps := 1000000 }) only [go_sem, r15, r95, r104, r105, hb5, appendA_U]
      refine vc_sound _ _ _ (by rfl) ?_
      simp (config := { maxSteps := 1000000 }) only [go_sem, r15, r95, wi, appendA_U]
      exact ⟨⟨i + 1, rfl, by omega, rfl⟩, by rw [h95]; simp only [lin, iv_int]; omega⟩
  have hin4 : i = n := by omega
  rw [hin4, ← hsl, List.take_length, hss] at p15
  clear h15 h95 hin4
  refine vc_sound _ _ _ (by rfl) ?_
  simp (config := { maxSteps := 1000000 }) only [go_sem, p94, p95, hb4, appendA_U]
  exact nearest_tail hn.symm (by omega) (by omega) hcr hle2 hgr2 hsl hss0 hsn H H3 gc3 gs3 (by omega) (by omega) (by omega) K hK (by simp (config := { maxSteps := 1000000 }) only [go_sem, p7, appendA_U]) (by simp (config := { maxSteps := 1000000 }) only [go_sem, p10, appendA_U]) (by simp (config := { maxSteps := 1000000 }) only [go_sem, p11, appendA_U]) (by simp (config := { maxSteps := 1000000 }) only [go_sem, p12, appendA_U]) (by simp (config := { maxSteps := 1000000 }) only [go_sem, p15, appendA_U]) _ (by kernel_rfl)
end Go.Proofs
namespace Go.Hx
theorem OwnG.neF {lo : Nat} {H : AHeap} {e : TypeId} {v : AVal} {cs : List AVal} (h : OwnG lo H e v cs) {k : Nat} (hk : k < lo) : ∀ g n, v ≠ .own k g 0 n 1 := fun g n he => by
  rcases h with ⟨h, _⟩ | ⟨id, g', a, _, h, _⟩
  · rw [h] at he; cases he
  · rw [h] at he; have := (AVal.own.inj he).1; omega
end Go.Hx
namespace Go.Proofs
open Go.Hx
theorem round_nil (grain least : Int) (H : AHeap) (K : ARes → AHeap → Prop) (hK : K (.ret (.tup [.lit (.slice none 0 0), lin 2])) H) : ACall Tryd.prog G0 10 [.lit (.slice none 0 0), lin grain, lin least] H K := by
  refine ACall.of_bodyW (n := 144) (rs := [.tmp 6, .tmp 7]) Tryd.func10 rfl rfl rfl (by decide) (by simp) ?_
  refine W.seq (vc_sound _ _ _ (by rfl) ?_)
  simp (config := { maxSteps := 1000000 }) only [go_sem, appendA_U]
  refine W.seq (vc_sound _ _ _ (by rfl) ?_)
  simp (config := { maxSteps := 1000000 }) only [go_sem, appendA_U]
  exact FinV.mk (Nat.le_refl _) hK
def cntL (bs : List Int) : List Int := (bs.take 4).map (· % 9)
theorem max_zero {c : List Int} (hc : ∀ x ∈ c, 0 ≤ x) (h0 : c ≠ []) : (maxL c = 0 → ¬ 0 < c.sum) ∧ (maxL c ≠ 0 → 0 < c.sum) := by
  constructor
  · intro h hs
    have hz : ∀ x ∈ c, x = 0 := fun x hx => by have h1 := maxL_ge hx; have h2 := hc x hx; omega
    have : ∀ l : List Int, (∀ x ∈ l, x = 0) → l.sum = 0 := by
      intro l
      induction l with
      | nil => intro _; rfl
      | cons a l ih => intro h; rw [List.sum_cons, h a (by simp), ih fun x hx => h x (by simp [hx])]; rfl
    rw [this c hz] at hs
    omega
  · intro h
    have h1 := maxL_mem h0
    have h2 := sum_ge_mem hc _ h1
    have h3 := hc _ h1
    omega
set_option maxHeartbeats 8000000 in
theorem nearest_spec (bs : List Int) (hbl : (bs.length : Int) < 2 ^ 63) (hb8 : ∀ x ∈ bs, 0 ≤ x ∧ x ≤ 255) (g k : Int) (hg : 0 ≤ g ∧ g ≤ 255) (hk : 0 ≤ k ∧ k ≤ 255) (H : AHeap) (K : ARes → AHeap → Prop) (hK : ∀ H', H.next ≤ H'.next → K (.ret (.lit (.bool true))) H') :
    ACall Tryd.prog G0 7 [.vec bs.length (bytesL bs), .lit (.int .u8 g), .lit (.int .u8 k)] H K := by
  obtain ⟨n, hn⟩ : ∃ n, n = (cntL bs).length := ⟨_, rfl⟩
  have hn4 : (n : Int) = min (bs.length : Int) 4 := by rw [hn]; unfold cntL; rw [List.length_map, List.length_take]; omega
  have hmn : (if 4 < (bs.length : Int) then 4 else (bs.length : Int)) = n := by split <;> omega
  refine ACall.of_bodyW (n := 197) (rs := [.tmp 6]) Tryd.func7 rfl rfl rfl (by decide) (by simp) ?_
  refine W.seq (vc_sound _ _ _ (by rfl) ?_)
  simp (config := { maxSteps := 1000000 }) only [go_sem, appendA_U]
  refine W.seq (vc_sound _ _ _ (by rfl) ?_)
  simp (config := { maxSteps := 1000000 }) only [go_sem, appendA_U]
  refine AApply.clo (works_ok _ _ ⟨trivial, ?_⟩)
  simp (config := { maxSteps := 1000000 }) only [go_sem, appendA_U]
  refine W.seq (vc_sound _ _ _ (by rfl) ?_)
  simp (config := { maxSteps := 1000000 }) only [go_sem, appendA_U]
  refine W.seq (vc_sound _ _ _ (by rfl) ?_)
  simp (config := { maxSteps := 1000000 }) only [go_sem, builtin_min, hmn, appendA_U]
  refine ⟨bytesL_len bs, by omega, ?_⟩
  refine W.env fun E hE => ?_
  have e1 : E 1 = .lit (.int .u8 g) := by rw [hE]; simp (config := { maxSteps := 1000000 }) only [go_sem, appendA_U]
  have e2 : E 2 = .lit (.int .u8 k) := by rw [hE]; simp (config := { maxSteps := 1000000 }) only [go_sem, appendA_U]
  have e7 : E 7 = .lit (.slice none 0 0) := by rw [hE]; simp (config := { maxSteps := 1000000 }) only [go_sem, appendA_U]
  have e32 : E 32 = .vec n (List.take n (bytesL bs)) := by rw [hE]; simp (config := { maxSteps := 1000000 }) only [go_sem, hmn, appendA_U]
  have e33 : E 33 = lin n := by rw [hE]; simp (config := { maxSteps := 1000000 }) only [go_sem, hmn, appendA_U]
  have e34 : E 34 = lin 0 := by rw [hE]; simp (config := { maxSteps := 1000000 }) only [go_sem, appendA_U]
  clear hE
  have get32 : ∀ i, i < n → ∃ b, (List.take n (bytesL bs))[i]? = some (.lit (.int .u8 b)) ∧ (cntL bs)[i]? = some (b % 9) ∧ 0 ≤ b ∧ b ≤ 255 := fun i hi => by
    obtain ⟨b, hb⟩ := get_of_lt (l := bs) (i := i) (by omega)
    refine ⟨b, by rw [List.getElem?_take_of_lt hi, bytesL_get hb], ?_, hb8 b (List.mem_of_getElem? hb)⟩
    unfold cntL
    rw [List.getElem?_map, List.getElem?_take_of_lt (by omega), hb]
    rfl
  refine W.loop0 35167192220288 (by kernel_rfl) (fun ρ Hx => ∃ (i : Nat) (v : AVal), ρ 34 = lin i ∧ i ≤ n ∧ ρ 7 = v ∧ Over H Hx ∧ OwnG H.next Hx 3 v (ints ((cntL bs).take i)) ∧ (i = 0 → v = .lit (.slice none 0 0))) (fun ρ Hx => n - (iv (ρ 34)).toNat) ?_ ?_
  · exact ⟨0, _, e34, by omega, e7, .refl _, .nil, fun _ => rfl⟩
  rintro ρ Hx ⟨i, v, h34, hi, h7, ov, hO, hv0⟩
  refine W.env fun E1 hE1 => ?_
  have f1 : E1 1 = .lit (.int .u8 g) := by rw [hE1]; simp (config := { maxSteps := 1000000 }) only [go_sem, e1, appendA_U]
  have f2 : E1 2 = .lit (.int .u8 k) := by rw [hE1]; simp (config := { maxSteps := 1000000 }) only [go_sem, e2, appendA_U]
  have f7 : E1 7 = v := by rw [hE1]; simp (config := { maxSteps := 1000000 }) only [go_sem, h7, appendA_U]
  have f32 : E1 32 = .vec n (List.take n (bytesL bs)) := by rw [hE1]; simp (config := { maxSteps := 1000000 }) only [go_sem, e32, appendA_U]
  have f33 : E1 33 = lin n := by rw [hE1]; simp (config := { maxSteps := 1000000 }) only [go_sem, e33, appendA_U]
  have f34 : E1 34 = lin i := by rw [hE1]; simp (config := { maxSteps := 1000000 }) only [go_sem, h34, appendA_U]
  clear hE1
  by_cases hb : (i : Int) < n
  · obtain ⟨b, hbg, hcg, hbr⟩ := get32 i (by omega)
    have hbn := ne_of_get hbg
    have t9 : b.tmod 9 = b % 9 := Int.tmod_eq_emod_of_nonneg hbr.1
    have wb := IntWalk.i64_in (b % 9) (by omega)
    have wi := IntWalk.i64_in ((i : Int) + 1) (by omega)
    have hon := ov.next
    obtain ⟨v', H2, hA, hO2, hn2, hp2⟩ := app_oneG (P := Tryd.prog) (H := Hx) (t := 22) (x := lin (b % 9)) (n := Hx.next + 1) Tryd.underlying22 Tryd.cells3 Tryd.zero3 rfl (by rw [Tryd.bytes3, ints_length, List.length_take]; omega) hO (by omega) rfl
    simp only [lin] at hA
    have hvc := hO2.cells
    have hvo := hO2.one
    refine vc_sound _ _ _ (by rfl) ?_
    simp (config := { maxSteps := 1000000 }) only [go_sem, f7, f32, f33, f34, hb, hbg, hbn, t9, wb, wi, hA, hvc, hvo]
    refine ⟨by omega, ⟨i + 1, v', rfl, by omega, rfl, ⟨by omega, fun j h => (hp2 j (by omega) (hO.neF h)).trans (ov.old j h)⟩, ?_, fun h => absurd h (Nat.succ_ne_zero i)⟩, by rw [h34]; simp only [lin, iv_int]; omega⟩
    rw [take_succ_get hcg]
    simpa [ints, lin] using hO2
  have hin : i = n := by omega
  rw [hin, hn, List.take_length] at hO
  obtain ⟨c, hc⟩ : ∃ c, c = cntL bs := ⟨_, rfl⟩
  rw [← hc] at hO hn
  have hcr : ∀ x ∈ c, 0 ≤ x ∧ x ≤ 8 := fun x hx => by
    rw [hc] at hx
    unfold cntL at hx
    obtain ⟨b, _, rfl⟩ := List.mem_map.1 hx
    omega
  have t3 : k.tmod 3 = k % 3 := Int.tmod_eq_emod_of_nonneg hk.1
  have w3 := IntWalk.i64_in (k % 3) (by omega)
  have wg := IntWalk.i64_in g (by omega)
  have t14 : g.tmod 14 = g % 14 := Int.tmod_eq_emod_of_nonneg hg.1
  have w14 := IntWalk.i64_in (g % 14) (by omega)
  have w15 := IntWalk.i64_in (1 + g % 14) (by omega)
  obtain ⟨least, hle⟩ : ∃ least, least = k % 3 := ⟨_, rfl⟩
  obtain ⟨grain, hgr⟩ : ∃ grain, grain = 1 + g % 14 := ⟨_, rfl⟩
  rw [← hle] at w3 t3
  rw [← hgr] at w15
  have hle2 : 0 ≤ least ∧ least ≤ 2 := by omega
  have hgr2 : 1 ≤ grain ∧ grain ≤ 14 := by omega
  refine vc_sound _ _ _ (by rfl) ?_
  simp (config := { maxSteps := 1000000 }) only [go_sem, f33, f34, hb, appendA_U]
  refine W.seq (vc_sound _ _ _ (by rfl) ?_)
  simp (config := { maxSteps := 1000000 }) only [go_sem, f2, t3, w3, appendA_U]
  refine W.seq (vc_sound _ _ _ (by rfl) ?_)
  simp (config := { maxSteps := 1000000 }) only [go_sem, f1, wg, t14, w14, ← hgr, w15, appendA_U]
  have hvc := hO.cells
  have hvo := hO.one
  rcases Nat.eq_zero_or_pos n with hz | hz
  · rw [hv0 (by omega)] at f7
    refine W.seq (vc_sound _ _ _ (by rfl) ?_)
    simp (config := { maxSteps := 1000000 }) only [go_sem, f2, f7, t3, w3, f1, wg, t14, w14, ← hgr, w15, appendA_U]
    refine AApply.clo (round_nil grain least _ _ ⟨trivial, ?_⟩)
    simp (config := { maxSteps := 1000000 }) only [go_sem, appendA_U]
    refine W.seq (vc_sound _ _ _ (by rfl) ?_)
    simp (config := { maxSteps := 1000000 }) only [go_sem, f7, appendA_U]
    have := ov.next
    exact FinV.mk (by omega) (hK _ (by omega))
  obtain ⟨cid, cg, q1, q2, hve, hcg⟩ : ∃ id g, H.next ≤ id ∧ id < Hx.next ∧ v = .own id g 0 n 1 ∧ Hx.get id = some (.arr g 3 (ints c)) := by
    rcases hO with ⟨_, h2⟩ | ⟨id, g, a, b, h, h'⟩
    · have := congrArg List.length h2
      rw [ints_length, List.length_nil] at this
      omega
    · rw [ints_length, ← hn] at h
      exact ⟨id, g, a, b, h, h'⟩
  rw [hve] at f7
  have lc := get_live hcg
  have hil := ints_length c
  rw [← hn] at hil
  have m0 : 0 ≤ least * n ∧ least * n ≤ 2 * 4 := ⟨Int.mul_nonneg hle2.1 (by omega), Int.mul_le_mul hle2.2 (by omega) (by omega) (by omega)⟩
  have wm := IntWalk.i64_in (least * (n : Int)) (by omega)
  have nz : ¬ (n : Int) = 0 := by omega
  refine W.seq (vc_sound _ _ _ (by rfl) ?_)
  simp (config := { maxSteps := 1000000 }) only [go_sem, f2, f7, t3, w3, f1, wg, t14, w14, ← hgr, w15, appendA_U]
  refine AApply.clo (round_own hn.symm (by omega) (by omega) (fun x h => by have := hcr x h; omega) (by omega) (by omega) Hx hcg q2 _ (fun hbad => ⟨trivial, ?_⟩) fun s sv H2 hfit hS o2 hsO => ⟨trivial, ?_⟩)
  · simp (config := { maxSteps := 1000000 }) only [go_sem, appendA_U]
    refine W.seq (vc_sound _ _ _ (by rfl) ?_)
    simp (config := { maxSteps := 1000000 }) only [go_sem, f2, f7, t3, w3, f1, wg, t14, w14, ← hgr, w15, lc, hil, nz, wm, hbad, appendA_U]
    have := ov.next
    exact FinV.mk (by omega) (hK _ (by omega))
  simp (config := { maxSteps := 1000000 }) only [go_sem, appendA_U]
  have ovn := ov.next
  have o2n := o2.next
  obtain ⟨hsl, hss⟩ := share_sum (by omega) hS
  have hsp : 0 ≤ spareOf grain least c := by unfold spareOf; rw [← hn]; omega
  have hsg := share_ge (fun x h => (hcr x h).1) (by omega) hsp hS
  have hsm := fun i j hi hj => share_mono (i := i) (j := j) (by omega) hsp hS hi hj
  have hsn := fun w => share_near (w := w) (by omega) hS
  rw [← hn] at hsl hsm hsn
  obtain ⟨sid, sg, r1, r2, hse, hsgt⟩ : ∃ id g, Hx.next ≤ id ∧ id < H2.next ∧ sv = .own id g 0 n 1 ∧ H2.get id = some (.arr g 3 (ints s)) := by
    rcases hsO with ⟨_, h2⟩ | ⟨id, g, a, b, h, h'⟩
    · have := congrArg List.length h2
      rw [ints_length, List.length_nil] at this
      omega
    · rw [ints_length, hsl] at h
      exact ⟨id, g, a, b, h, h'⟩
  have gc2 := (o2.old cid q2).trans hcg
  have lc2 := get_live gc2
  have ls2 := get_live hsgt
  have isl := ints_length s
  rw [hsl] at isl
  refine W.env fun E2 hE2 => ?_
  have a7 : E2 7 = .own cid cg 0 n 1 := by rw [hE2]; simp (config := { maxSteps := 1000000 }) only [go_sem, f7, appendA_U]
  have a10 : E2 10 = lin least := by rw [hE2]; simp (config := { maxSteps := 1000000 }) only [go_sem, f2, t3, w3, appendA_U]
  have a11 : E2 11 = lin grain := by rw [hE2]; simp (config := { maxSteps := 1000000 }) only [go_sem, f1, wg, t14, w14, ← hgr, w15, appendA_U]
  have a12 : E2 12 = .own sid sg 0 n 1 := by rw [hE2, ← hse]; simp (config := { maxSteps := 1000000 }) only [go_sem, appendA_U]
  have a13 : E2 13 = lin 0 := by rw [hE2]; simp (config := { maxSteps := 1000000 }) only [go_sem, appendA_U]
  clear hE2
  have hnf : ¬ grain < least * n := by omega
  refine W.seq (vc_sound _ _ _ (by rfl) ?_)
  simp (config := { maxSteps := 1000000 }) only [go_sem, a7, a10, a11, lc2, hil, nz, wm, hnf, appendA_U]
  refine W.seq (vc_sound _ _ _ (by rfl) ?_)
  simp (config := { maxSteps := 1000000 }) only [go_sem, a7, a12, a13, lc2, hil, ls2, isl, appendA_U]
  have hc0 : c ≠ [] := fun e => by rw [e] at hn; simp at hn; omega
  obtain ⟨mz1, mz2⟩ := max_zero (fun x h => (hcr x h).1) hc0
  refine W.midN (fun s' => s'.H.next = H2.next ∧ (∀ j, j ≠ cid → s'.H.get j = H2.get j) ∧ s'.H.get cid = some (.arr cg 3 (ints (effC c))) ∧ s'.ρ 7 = .own cid cg 0 n 1 ∧ s'.ρ 10 = lin least ∧ s'.ρ 11 = lin grain ∧ s'.ρ 12 = .own sid sg 0 n 1) ?_ ?_
  · refine vc_sound _ _ _ (by rfl) ?_
    simp (config := { maxSteps := 1000000 }) only [go_sem, a7, appendA_U]
    refine AApply.clo (max_own (l := c) (lo := 0) hc0 (by omega) H2 (.inr ⟨cid, cg, Nat.zero_le _, by omega, by rw [ints_length, ← hn], gc2⟩) _ ⟨trivial, ?_⟩)
    by_cases hm : maxL c = 0
    rotate_left
    · have he : effC c = c := if_pos (mz2 hm)
      simp (config := { maxSteps := 1000000 }) only [go_sem, hm, a7, a10, a11, a12, appendA_U]
      rw [he]
      exact gc2
    simp (config := { maxSteps := 1000000 }) only [go_sem, hm, a7, a10, a11, a12, lc2, hil, appendA_U]
    refine W.env fun E hE => ?_
    have k7 : E 7 = .own cid cg 0 n 1 := by rw [hE]; simp (config := { maxSteps := 1000000 }) only [go_sem, a7, appendA_U]
    have k10 : E 10 = lin least := by rw [hE]; simp (config := { maxSteps := 1000000 }) only [go_sem, a10, appendA_U]
    have k11 : E 11 = lin grain := by rw [hE]; simp (config := { maxSteps := 1000000 }) only [go_sem, a11, appendA_U]
    have k12 : E 12 = .own sid sg 0 n 1 := by rw [hE]; simp (config := { maxSteps := 1000000 }) only [go_sem, a12, appendA_U]
    have k85 : E 85 = lin n := by rw [hE]; simp (config := { maxSteps := 1000000 }) only [go_sem, a7, lc2, hil, appendA_U]
    have k86 : E 86 = lin 0 := by rw [hE]; simp (config := { maxSteps := 1000000 }) only [go_sem, appendA_U]
    clear hE
    have he : effC c = List.replicate n 1 := by unfold effC; rw [if_neg (mz1 hm), hn]
    refine W.loop0 9826149061827705932011814912 (by kernel_rfl) (fun ρ Hy => ∃ (i : Nat) (C : List Int), ρ 86 = lin i ∧ i ≤ n ∧ Hy.next = H2.next ∧ (∀ j, j ≠ cid → Hy.get j = H2.get j) ∧ Hy.get cid = some (.arr cg 3 (ints C)) ∧ C.length = n ∧ ∀ j, j < i → C[j]? = some 1) (fun ρ Hy => n - (iv (ρ 86)).toNat) ?_ ?_
    · exact ⟨0, c, k86, by omega, rfl, fun j _ => rfl, gc2, hn.symm, fun j h => absurd h (Nat.not_lt_zero _)⟩
    rintro ρ Hy ⟨i, C, h86, hi, nx, hold, hC, lC, hall⟩
    refine W.env fun E1 hE1 => ?_
    have u7 : E1 7 = .own cid cg 0 n 1 := by rw [hE1]; simp (config := { maxSteps := 1000000 }) only [go_sem, k7, appendA_U]
    have u10 : E1 10 = lin least := by rw [hE1]; simp (config := { maxSteps := 1000000 }) only [go_sem, k10, appendA_U]
    have u11 : E1 11 = lin grain := by rw [hE1]; simp (config := { maxSteps := 1000000 }) only [go_sem, k11, appendA_U]
    have u12 : E1 12 = .own sid sg 0 n 1 := by rw [hE1]; simp (config := { maxSteps := 1000000 }) only [go_sem, k12, appendA_U]
    have u85 : E1 85 = lin n := by rw [hE1]; simp (config := { maxSteps := 1000000 }) only [go_sem, k85, appendA_U]
    have u86 : E1 86 = lin i := by rw [hE1]; simp (config := { maxSteps := 1000000 }) only [go_sem, h86, appendA_U]
    clear hE1
    have lz := get_live hC
    have iC := ints_length C
    rw [lC] at iC
    by_cases hb : (i : Int) < n
    · have wi := IntWalk.i64_in ((i : Int) + 1) (by omega)
      have sC : setAt (ints C) i [.lit (.int .i64 1)] = ints (C.set i 1) := setAt_ints (by omega)
      refine vc_sound _ _ _ (by rfl) ?_
      simp (config := { maxSteps := 1000000 }) only [go_sem, u7, u85, u86, hb, lz, iC, wi, sC, appendA_U]
      refine ⟨by omega, by rw [upd_next]; omega, ⟨i + 1, C.set i 1, rfl, by omega, by rw [upd_next]; exact nx, fun j h => by rw [upd_get, if_neg h]; exact hold j h, by rw [upd_get, if_pos rfl], by rw [List.length_set]; exact lC, fun j hj => ?_⟩, by rw [h86]; simp only [lin, iv_int]; omega⟩
      by_cases e : j = i
      · subst e; rw [List.getElem?_set_self (by omega)]
      · rw [List.getElem?_set_ne fun h => e h.symm]; exact hall j (by omega)
    · have hin : i = n := by omega
      have hCe : C = effC c := by
        rw [he]
        apply List.ext_getElem?
        intro j
        rw [List.getElem?_replicate]
        split
        · exact hall j (by omega)
        · exact List.getElem?_eq_none (by omega)
      rw [hCe] at hC
      refine vc_sound _ _ _ (by rfl) ?_
      simp (config := { maxSteps := 1000000 }) only [go_sem, u7, u10, u11, u12, u85, u86, hb, appendA_U]
      exact ⟨nx, hold, hC⟩
  rintro ⟨ρ3, H3⟩ ⟨nx3, old3, gc3, v7, v10, v11, v12⟩
  simp only at nx3 old3 gc3 v7 v10 v11 v12
  have hsd : sid ≠ cid := by omega
  have gs3 := (old3 sid hsd).trans hsgt
  have hss0 : ∀ x ∈ s, least ≤ x ∧ x ≤ grain := fun x hx => ⟨hsg x hx, by have := sum_ge_mem (fun y hy => Int.le_trans hle2.1 (hsg y hy)) x hx; omega⟩
  exact nearest_mid hn hz (by omega) hcr hle2 hgr2 hsl hss hss0 (fun i j hi hj h => hsm i j hi hj h) hsn H H3 gc3 gs3 (by omega) (by omega) (by omega) K hK (by simp (config := { maxSteps := 1000000 }) only [go_sem, v7, appendA_U]) (by simp (config := { maxSteps := 1000000 }) only [go_sem, v10, appendA_U]) (by simp (config := { maxSteps := 1000000 }) only [go_sem, v11, appendA_U]) (by simp (config := { maxSteps := 1000000 }) only [go_sem, v12, appendA_U]) _ (by kernel_rfl)
end Go.Proofs
