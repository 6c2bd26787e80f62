/- Own work: contracts. -/
import Derived.Test.YtikgmgmphkalkaaDoorConF
import Derived.Test.YtikgmgmphkalkaaDoorConD
import Derived.Test.YtikgmgmphkalkaaDoorConC
set_option linter.all false
set_option maxRecDepth 100000
namespace Go.Proofs
open Go.Hx
set_option maxHeartbeats 4000000 in
theorem count25_spec {cs P : List Int} {xs : List (List Int)} (h : ParIn cs P) (hd : DataOk cs xs) (H : AHeap) (K : ARes → AHeap → Prop) (hK : ∀ W : List Int, (W.length : Int) = prodL (atL cs P) → K (.ret (.agg [vecI P, vecI (atL cs P), vecI W])) H) :
    ACall Tryd.prog G0 58 [dataV cs xs, vecI P] H K := by
  refine ACall.clo ⟨_, Tryd.func58, rfl, rfl⟩ fun hcl => ?_
  have c6 := hd.c1
  have x40 := hd.x1
  have plen := h.len
  have pl : (atL cs P).length = P.length := atL_len _ _
  refine ACall.of_bodyW (n := 80) (rs := [.cell 4 124]) Tryd.func58 rfl rfl rfl (by decide) (by simp) ?_
  refine W.seq (vc_sound _ _ _ (by rfl) ?_)
  simp (config := { maxSteps := 1000000 }) only [go_sem, dataV, vecV, appendA_U]
  refine W.seq (vc_sound _ _ _ (by rfl) ?_)
  simp (config := { maxSteps := 1000000 }) only [go_sem, appendA_U]
  refine W.seq (vc_sound _ _ _ (by rfl) ?_)
  simp (config := { maxSteps := 1000000 }) only [go_sem, appendA_U]
  obtain ⟨H1, hH1⟩ : ∃ H1, H1 = ext H [.arr 0 50 [vecI cs, vecV xs], .arr 0 124 [.lit (.slice none 0 0), .lit (.slice none 0 0), .lit (.slice none 0 0)], .arr 0 124 [.lit (.slice none 0 0), .lit (.slice none 0 0), .lit (.slice none 0 0)]] := ⟨_, rfl⟩
  have b0 : H1.get H.next = some (.arr 0 50 [vecI cs, vecV xs]) := by rw [hH1]; exact get_ext0 ..
  have b1 : H1.get (H.next + 1) = some (.arr 0 124 [.lit (.slice none 0 0), .lit (.slice none 0 0), .lit (.slice none 0 0)]) := by rw [hH1]; exact get_ext H _ 1 (by simp)
  have b2 : H1.get (H.next + 2) = some (.arr 0 124 [.lit (.slice none 0 0), .lit (.slice none 0 0), .lit (.slice none 0 0)]) := by rw [hH1]; exact get_ext H _ 2 (by simp)
  have n1 : H1.next = H.next + 3 := by rw [hH1]; rfl
  have o1 : Over H H1 := by rw [hH1]; exact .ext _ _
  refine W.env fun E hE => ?_
  have e1 : E 1 = vecI P := by rw [hE]; simp (config := { maxSteps := 1000000 }) only [go_sem, appendA_U]
  have e2 : E 2 = .ptr H.next 0 0 := by rw [hE]; simp (config := { maxSteps := 1000000 }) only [go_sem, appendA_U]
  have e4 : E 4 = .ptr (H.next + 1) 0 0 := by rw [hE]; simp (config := { maxSteps := 1000000 }) only [go_sem, appendA_U]
  have e5 : E 5 = lin 1 := by rw [hE]; simp (config := { maxSteps := 1000000 }) only [go_sem, appendA_U]
  have e6 : E 6 = .ptr (H.next + 2) 0 0 := by rw [hE]; simp (config := { maxSteps := 1000000 }) only [go_sem, appendA_U]
  clear hE
  show W _ _ _ _ _ _ ⟨E, ext H [.arr 0 50 [vecI cs, vecV xs], .arr 0 124 [.lit (.slice none 0 0), .lit (.slice none 0 0), .lit (.slice none 0 0)], .arr 0 124 [.lit (.slice none 0 0), .lit (.slice none 0 0), .lit (.slice none 0 0)]]⟩
  rw [← hH1]
  clear hH1
  refine W.midN (fun s' => s'.ρ 1 = vecI P ∧ s'.ρ 2 = .ptr H.next 0 0 ∧ s'.ρ 4 = .ptr (H.next + 1) 0 0 ∧ s'.ρ 5 = lin (prodL (atL cs P)) ∧ s'.ρ 6 = .ptr (H.next + 2) 0 0 ∧ H1.next ≤ s'.H.next ∧ (∀ id, id < H.next + 2 → s'.H.get id = H1.get id) ∧ ∃ vv vc, s'.H.get (H.next + 2) = some (.arr 0 124 [vv, vc, .lit (.slice none 0 0)]) ∧ Own2 (H.next + 3) s'.H 3 vv (ints P) vc (ints (atL cs P))) ?_ ?_
  · refine W.seq (vc_sound _ _ _ (by rfl) ?_)
    simp (config := { maxSteps := 1000000 }) only [go_sem, appendA_U]
    refine W.block ?_
    refine W.loop0 281474976709792 (by rfl) (fun ρ Hx => ∃ (k : Nat) (vv vc : AVal), ρ 7 = lin k ∧ k ≤ P.length ∧ ρ 5 = lin (prodL ((atL cs P).take k)) ∧ H1.next ≤ Hx.next ∧ (∀ id, id < H.next + 2 → Hx.get id = H1.get id) ∧ Hx.get (H.next + 2) = some (.arr 0 124 [vv, vc, .lit (.slice none 0 0)]) ∧ Own2 (H.next + 3) Hx 3 vv (ints (P.take k)) vc (ints ((atL cs P).take k))) (fun ρ H => P.length - (iv (ρ 7)).toNat) ?_ ?_
    · simp (config := { maxSteps := 1000000 }) only [go_sem, e5, appendA_U]
      exact ⟨0, _, _, rfl, by omega, by simp [prodL_nil], b2, .nil⟩
    rintro ρ Hx ⟨k, vv, vc, h7, hk, h5, hnx, hold, gx, hO⟩
    refine W.env fun E1 hE1 => ?_
    have f1 : E1 1 = vecI P := by rw [hE1]; simp (config := { maxSteps := 1000000 }) only [go_sem, e1, appendA_U]
    have f2 : E1 2 = .ptr H.next 0 0 := by rw [hE1]; simp (config := { maxSteps := 1000000 }) only [go_sem, e2, appendA_U]
    have f4 : E1 4 = .ptr (H.next + 1) 0 0 := by rw [hE1]; simp (config := { maxSteps := 1000000 }) only [go_sem, e4, appendA_U]
    have f5 : E1 5 = lin (prodL ((atL cs P).take k)) := by rw [hE1]; simp (config := { maxSteps := 1000000 }) only [go_sem, h5, appendA_U]
    have f6 : E1 6 = .ptr (H.next + 2) 0 0 := by rw [hE1]; simp (config := { maxSteps := 1000000 }) only [go_sem, e6, appendA_U]
    have f7 : E1 7 = lin k := by rw [hE1]; simp (config := { maxSteps := 1000000 }) only [go_sem, h7, appendA_U]
    clear hE1
    refine vc_sound _ _ _ (by rfl) ?_
    by_cases hb : (k : Int) < P.length
    rotate_left
    · simp (config := { maxSteps := 1000000 }) only [go_sem, f1, f2, f4, f5, f6, f7, hb, appendA_U]
      obtain rfl : k = P.length := by omega
      rw [List.take_of_length_le (Nat.le_refl _), List.take_of_length_le (by omega)] at hO
      rw [List.take_of_length_le (by omega)]
      exact ⟨rfl, hnx, hold, vv, vc, gx, hO⟩
    obtain ⟨q, hq⟩ := get_of_lt (l := P) (i := k) (by omega)
    obtain ⟨j, rfl, c, hcj⟩ := get_of_int (l := cs) (h.rng q (List.mem_of_getElem? hq)).1 (h.rng q (List.mem_of_getElem? hq)).2
    have pk : (atL cs P)[k]? = some c := by rw [atL_get hq, Int.toNat_natCast, getD_of_get hcj]
    have hqn := ne_of_get hq
    have hcn := ne_of_get hcj
    have hjl : (j : Int) < cs.length := by have := get_lt hcj; omega
    have w1 := IntWalk.i64_in ((k : Int) + 1) (by omega)
    have pr := h.prod (k + 1)
    rw [take_succ_get pk, prodL_snoc] at pr
    have w2 := IntWalk.i64_in (prodL ((atL cs P).take k) * c) (by omega)
    have tk1 : (ints (P.take k)).length ≤ 6 := by rw [ints_length, List.length_take]; omega
    have tk2 : (ints ((atL cs P).take k)).length ≤ 6 := by rw [ints_length, List.length_take]; omega
    have ld := get_live ((hold _ (by omega)).trans b0)
    have lx := get_live gx
    obtain ⟨vv', Ha, hA1, hOa, hna, hpa⟩ := Own2.app (P := Tryd.prog) (t := 22) (x := lin j) (n := Hx.next + 1) Tryd.underlying22 Tryd.cells3 Tryd.zero3 rfl (by rw [Tryd.bytes3]; omega) hO (by omega) rfl
    simp only [lin] at hA1
    have vo1 := hOa.a.one
    have vc1 := hOa.a.cells
    have la := get_live ((hpa (H.next + 2) (by omega)).trans gx)
    obtain ⟨Hb, hHb⟩ : ∃ Hb, Hb = Ha.upd (H.next + 2) (.arr 0 124 [vv', vc, .lit (.slice none 0 0)]) := ⟨_, rfl⟩
    have nb : Hb.next = Ha.next := by rw [hHb]; rfl
    have gb : Hb.get (H.next + 2) = some (.arr 0 124 [vv', vc, .lit (.slice none 0 0)]) := by rw [hHb, upd_get, if_pos rfl]
    have ob : ∀ id, id ≠ H.next + 2 → Hb.get id = Ha.get id := fun id h => by rw [hHb, upd_get, if_neg h]
    have hOb : Own2 (H.next + 3) Hb 3 vv' (ints (P.take k) ++ [lin j]) vc (ints ((atL cs P).take k)) := hOa.keep (by omega) fun id h1 _ => ob id (by omega)
    obtain ⟨vc', Hc, hA2, hOc, hnc, hpc⟩ := Own2.app (P := Tryd.prog) (t := 22) (x := lin c) (n := Hb.next + 1) Tryd.underlying22 Tryd.cells3 Tryd.zero3 rfl (by rw [Tryd.bytes3]; omega) hOb.symm (by omega) rfl
    simp only [lin] at hA2
    have vo2 := hOc.a.one
    have vc2 := hOc.a.cells
    have lb := get_live gb
    have lbe : ∀ L, (ext Hb L).live (H.next + 2) 0 = _ := fun L => (ext_live_old (by omega)).trans lb
    have ldb := get_live ((ob H.next (by omega)).trans ((hpa _ (by omega)).trans ((hold _ (by omega)).trans b0)))
    have lc := get_live ((hpc (H.next + 2) (by omega)).trans gb)
    have ldc := get_live ((hpc H.next (by omega)).trans ((ob H.next (by omega)).trans ((hpa _ (by omega)).trans ((hold _ (by omega)).trans b0))))
    have ldc2 : ∀ b, (Hc.upd (H.next + 2) b).live H.next 0 = _ := fun b => (live_upd_other (by omega)).trans ldc
    simp (config := { maxSteps := 1000000 }) only [go_sem, f1, f2, f5, f6, f7, hb, appendA_U]
    refine W.draw 7 [0, 1, 0, 0, 12, 28, 60] Tryd.mixed (by kernel_rfl) (by kernel_rfl) ?_
    simp (config := { maxSteps := 1000000 }) only [go_sem, f1, f6, f7, hb, lx, hq, hqn, hA1, la, vo1, vc1]
    repeat (refine And.intro (by first | omega | (simp; done) | (simp; omega) | (intros; omega) | exact ⟨rfl, by omega, by omega, all_one_ints _⟩) ?_)
    rw [← hHb]
    refine W.draw 11 [0, 1, 0, 4, 0, 0, 48, 112, 252, 508, 1020] Tryd.mixed (by kernel_rfl) (by kernel_rfl) ?_
    simp (config := { maxSteps := 1000000 }) only [go_sem, f1, f2, f6, f7, hb, lb, lbe, ldb, hq, hqn, hjl, hcj, hcn, hA2, lc, vo2, vc2]
    repeat (refine And.intro (by first | omega | (simp; done) | (simp; omega) | (intros; omega) | exact ⟨rfl, by omega, by omega, all_one_ints _⟩) ?_)
    refine W.draw 9 [0, 0, 2, 0, 0, 24, 56, 126, 254] Tryd.mixed (by kernel_rfl) (by kernel_rfl) ?_
    simp (config := { maxSteps := 1000000 }) only [go_sem, f1, f2, f5, f7, hb, ldc2, hq, hqn, hjl, hcj, hcn, w2, w1, appendA_U]
    refine ⟨by rw [upd_next]; omega, ⟨k + 1, vv', vc', rfl, by omega, by rw [take_succ_get pk, prodL_snoc], by rw [upd_next]; omega, fun id hid => by rw [upd_get, if_neg (by omega), hpc id (by omega), ob id (by omega), hpa id (by omega)]; exact hold id hid, by rw [upd_get, if_pos rfl], ?_⟩, by rw [h7]; simp only [lin, iv_int]; omega⟩
    have e1 : ints (P.take (k + 1)) = ints (P.take k) ++ [lin (j : Int)] := by rw [take_succ_get hq]; simp [ints]
    have e2 : ints ((atL cs P).take (k + 1)) = ints ((atL cs P).take k) ++ [lin c] := by rw [take_succ_get pk]; simp [ints]
    rw [e1, e2]
    exact hOc.symm.keep (by rw [upd_next]; omega) fun id h1 _ => by rw [upd_get, if_neg (by omega)]
  rintro ⟨ρ1, Hx⟩ ⟨p1, p2, p4, p5, p6, hnx, hold, vv, vc, gx, hO⟩
  simp only at p1 p2 p4 p5 p6 hnx hold gx hO
  obtain ⟨R, hR⟩ : ∃ R : Nat, (R : Int) = prodL (atL cs P) := ⟨(prodL (atL cs P)).toNat, by have := h.prod (atL cs P).length; rw [List.take_of_length_le (Nat.le_refl _)] at this; omega⟩
  have hRb : 1 ≤ R ∧ R ≤ 4096 := by have := h.prod (atL cs P).length; rw [List.take_of_length_le (Nat.le_refl _)] at this; omega
  have vo1 := hO.a.one
  have vc1 := hO.a.cells
  have vo2 := hO.b.one
  have vc2 := hO.b.cells
  have lx := get_live gx
  have lxe : ∀ L, (ext Hx L).live (H.next + 2) 0 = _ := fun L => (ext_live_old (by omega)).trans lx
  refine W.seq (vc_sound _ _ _ (by rfl) ?_)
  simp (config := { maxSteps := 1000000 }) only [go_sem, p5, p6, lxe, ← hR, vo1, vc1, vo2, vc2, appendA_U]
  refine ⟨⟨by omega, by omega⟩, ?_⟩
  obtain ⟨Hs, hHs⟩ : ∃ Hs, Hs = (ext Hx [.arr 0 3 (List.replicate R (AVal.lit (.int .i64 0)))]).upd (H.next + 2) (.arr 0 124 [vv, vc, .own Hx.next 0 0 R 1]) := ⟨_, rfl⟩
  have ns : Hs.next = Hx.next + 1 := by rw [hHs]; rfl
  have gw : Hs.get Hx.next = some (.arr 0 3 (ints (List.replicate R 0))) := by rw [hHs, upd_get, if_neg (by omega), show ints (List.replicate R 0) = List.replicate R (AVal.lit (.int .i64 0)) by simp [ints, lin]]; exact ext1_get_new
  have gs2 : Hs.get (H.next + 2) = some (.arr 0 124 [vv, vc, .own Hx.next 0 0 R 1]) := by rw [hHs, upd_get, if_pos rfl]
  have os : ∀ id, id < Hx.next → id ≠ H.next + 2 → Hs.get id = Hx.get id := fun id h1 h2 => by rw [hHs, upd_get, if_neg h2, get_ext_old _ _ _ h1]
  refine W.env fun E1 hE1 => ?_
  have f1 : E1 1 = vecI P := by rw [hE1]; simp (config := { maxSteps := 1000000 }) only [go_sem, p1, appendA_U]
  have f2 : E1 2 = .ptr H.next 0 0 := by rw [hE1]; simp (config := { maxSteps := 1000000 }) only [go_sem, p2, appendA_U]
  have f4 : E1 4 = .ptr (H.next + 1) 0 0 := by rw [hE1]; simp (config := { maxSteps := 1000000 }) only [go_sem, p4, appendA_U]
  have f6 : E1 6 = .ptr (H.next + 2) 0 0 := by rw [hE1]; simp (config := { maxSteps := 1000000 }) only [go_sem, p6, appendA_U]
  clear hE1
  rw [← hHs]
  clear hHs
  refine W.seq (vc_sound _ _ _ (by rfl) ?_)
  simp (config := { maxSteps := 1000000 }) only [go_sem, appendA_U]
  refine W.loop0 604462907555514773668608 (by rfl) (fun ρ Hy => ∃ (i : Nat) (Wt : List Int), ρ 8 = lin i ∧ i ≤ xs.length ∧ Hy.next = Hs.next ∧ (∀ id, id ≠ Hx.next → Hy.get id = Hs.get id) ∧ Hy.get Hx.next = some (.arr 0 3 (ints Wt)) ∧ Wt.length = R ∧ ∀ w ∈ Wt, 0 ≤ w ∧ w ≤ i) (fun ρ H => xs.length - (iv (ρ 8)).toNat) ?_ ?_
  · simp (config := { maxSteps := 1000000 }) only [go_sem, appendA_U]
    exact ⟨0, _, rfl, by omega, gw, by simp, fun w hw => by rw [List.eq_of_mem_replicate hw]; exact ⟨Int.le_refl _, Int.le_refl _⟩⟩
  rintro ρ2 Hy ⟨i, Wt, h8, hi, hny, holdy, gy, hWl, hWr⟩
  refine vc_sound _ _ _ (by rfl) ?_
  have ly0 := get_live ((holdy H.next (by omega)).trans ((os _ (by omega) (by omega)).trans ((hold _ (by omega)).trans b0)))
  have ly1 := get_live ((holdy (H.next + 1) (by omega)).trans ((os _ (by omega) (by omega)).trans ((hold _ (by omega)).trans b1)))
  have ly2 := get_live ((holdy (H.next + 2) (by omega)).trans gs2)
  have lyw := get_live gy
  by_cases hb : (i : Int) < xs.length
  rotate_left
  · simp (config := { maxSteps := 1000000 }) only [go_sem, f2, h8, ly0, hb, vecV, appendA_U]
    refine vc_sound _ _ _ (by rfl) ?_
    simp (config := { maxSteps := 1000000 }) only [go_sem, f4, f6, ly1, ly2, vo1, vc1, vo2, vc2, appendA_U]
    have hOy : Own2 (H.next + 3) (Hy.upd (H.next + 1) (.arr 0 124 [vv, vc, .own Hx.next 0 0 R 1])) 3 vv (ints P) vc (ints (atL cs P)) := hO.keep (by rw [upd_next]; omega) fun id h1 h2 => by rw [upd_get, if_neg (by omega), holdy id (by omega), os id h2 (by omega)]
    refine FinV.dropO G0_ok hcl ⟨by rw [upd_next]; omega, fun id hid => by rw [upd_get, if_neg (by omega), holdy id (by omega), os id (by omega) (by omega), hold id (by omega)]; exact o1.old id hid⟩ (v' := .agg [vecI P, vecI (atL cs P), vecI Wt]) (.agg rfl fun i hi _ => ?_) (hK Wt (by omega))
    match i, hi with
    | 0, _ => exact hOy.a.fzI fun i h => by omega
    | 1, _ => exact hOy.b.fzI fun i h => by omega
    | 2, _ =>
      show Fz _ _ _ (.own Hx.next 0 0 R 1) (vecI Wt)
      rw [← hWl]
      exact OwnG.fzI (lo := H.next) (.inr ⟨Hx.next, 0, by omega, by rw [upd_next]; omega, by rw [ints_length], by rw [upd_get, if_neg (by omega)]; exact gy⟩) fun i h => h
  obtain ⟨r, hr⟩ := get_of_lt (l := xs) (i := i) (by omega)
  have hrm := List.mem_of_getElem? hr
  have hr' := vecV_get hr
  have hrn := ne_of_get hr'
  have w1 := IntWalk.i64_in ((i : Int) + 1) (by omega)
  simp (config := { maxSteps := 1000000 }) only [go_sem, f2, h8, ly0, hb, vecV, appendA_U]
  refine W.draw 8 [0, 1, 0, 0, 8, 0, 56, 120] Tryd.mixed (by kernel_rfl) (by kernel_rfl) ?_
  simp (config := { maxSteps := 1000000 }) only [go_sem, f1, f2, h8, ly0, hb, hr', hrn, vecV, appendA_U]
  refine AApply.clo (index25_spec h (hd.row r hrm) _ _ ⟨trivial, ?_⟩)
  cases hpo : parOk P r
  · have e : (if false = true then rowI cs P r else -1) = (-1 : Int) := if_neg (by decide)
    simp (config := { maxSteps := 1000000 }) only [go_sem, hpo, e, w1, h8, appendA_U]
    exact ⟨by omega, ⟨i + 1, Wt, rfl, by omega, hny, holdy, gy, hWl, fun w hw => by have := hWr w hw; omega⟩, by omega⟩
  · have hri := idxL_range (h.fits (hd.row r hrm) hpo)
    obtain ⟨a, ha⟩ := Int.eq_ofNat_of_zero_le (show 0 ≤ rowI cs P r from hri.1)
    have haR : a < R := by have : rowI cs P r < prodL (atL cs P) := hri.2; omega
    obtain ⟨w, hw⟩ := get_of_lt (l := Wt) (i := a) (by omega)
    have hwn := ne_of_get hw
    have hwr := hWr w (List.mem_of_getElem? hw)
    have e : (if true = true then rowI cs P r else -1) = (a : Int) := by rw [if_pos rfl]; exact ha
    have a0 : (a : Int) ≥ 0 := by omega
    have aR : (a : Int) < R := by omega
    have ww := IntWalk.i64_in (w + 1) (by omega)
    simp (config := { maxSteps := 1000000 }) only [go_sem, hpo, e, ha, a0, appendA_U]
    refine W.draw 9 [0, 1, 0, 0, 8, 0, 56, 120, 248] Tryd.mixed (by kernel_rfl) (by kernel_rfl) ?_
    simp (config := { maxSteps := 1000000 }) only [go_sem, f6, ly2, lyw, ha, aR, hw, hwn, ww, w1, h8, appendA_U]
    rw [setAt_ints (by omega)]
    refine ⟨by omega, by rw [upd_next]; omega, ⟨i + 1, Wt.set a (w + 1), rfl, by omega, by rw [upd_next]; exact hny, fun id hid => by rw [upd_get, if_neg hid]; exact holdy id hid, by rw [upd_get, if_pos rfl], by rw [List.length_set]; exact hWl, fun q hq => ?_⟩, by omega⟩
    rcases List.mem_or_eq_of_mem_set hq with h | h
    · have := hWr q h; omega
    · subst h; omega
set_option maxHeartbeats 4000000 in
theorem due26_spec {c : List Int} {grain least : Int} (h1 : 1 ≤ c.length) (hl : c.length ≤ 1024) (hc : ∀ x ∈ c, 0 ≤ x ∧ x ≤ 1099511627776) (hg : 1 ≤ grain ∧ grain ≤ 720) (hle : 0 ≤ least ∧ least ≤ 720) (H : AHeap) (K : ARes → AHeap → Prop)
    (hK : K (.ret (.tup [vecI (effC c), lin (effT c), lin (spareOf grain least c)])) H) :
    ACall Tryd.prog G0 50 [vecI c, lin grain, lin least] H K := by
  refine ACall.clo ⟨_, Tryd.func50, rfl, rfl⟩ fun hcl => ?_
  have m0 : 0 ≤ least * c.length := Int.mul_nonneg hle.1 (by omega)
  have m1 : least * c.length ≤ 720 * 1024 := Int.mul_le_mul hle.2 (by omega) (by omega) (by omega)
  have wm := IntWalk.i64_in (least * (c.length : Int)) (by omega)
  have ws := IntWalk.i64_in (grain - least * (c.length : Int)) (by omega)
  have hsp : spareOf grain least c = grain - least * c.length := rfl
  refine ACall.of_bodyW (n := 53) (rs := [.tmp 6, .tmp 7, .tmp 8]) Tryd.func50 rfl rfl rfl (by decide) (by simp) ?_
  refine W.seq (vc_sound _ _ _ (by rfl) ?_)
  simp (config := { maxSteps := 1000000 }) only [go_sem, appendA_U]
  refine W.seq (vc_sound _ _ _ (by rfl) ?_)
  simp (config := { maxSteps := 1000000 }) only [go_sem, appendA_U]
  refine W.seq (vc_sound _ _ _ (by rfl) ?_)
  simp (config := { maxSteps := 1000000 }) only [go_sem, appendA_U]
  refine W.env fun E hE => ?_
  have e0 : E 0 = vecI c := by rw [hE]; simp (config := { maxSteps := 1000000 }) only [go_sem, appendA_U]
  have e1 : E 1 = lin grain := by rw [hE]; simp (config := { maxSteps := 1000000 }) only [go_sem, appendA_U]
  have e2 : E 2 = lin least := by rw [hE]; simp (config := { maxSteps := 1000000 }) only [go_sem, appendA_U]
  have e9 : E 9 = lin 0 := by rw [hE]; simp (config := { maxSteps := 1000000 }) only [go_sem, appendA_U]
  have e10 : E 10 = lin 0 := by rw [hE]; simp (config := { maxSteps := 1000000 }) only [go_sem, appendA_U]
  clear hE
  refine W.loop0 33547776 (by rfl) (fun ρ Hx => Hx = H ∧ ∃ i : Nat, ρ 10 = lin i ∧ i ≤ c.length ∧ ρ 9 = lin (c.take i).sum) (fun ρ Hx => c.length - (iv (ρ 10)).toNat) ?_ ?_
  · exact ⟨rfl, 0, e10, by omega, e9⟩
  rintro ρ Hx ⟨hHx, i, h10, hi, h9⟩
  rw [hHx]
  refine W.env fun E1 hE1 => ?_
  have f0 : E1 0 = vecI c := by rw [hE1]; simp (config := { maxSteps := 1000000 }) only [go_sem, e0, appendA_U]
  have f1 : E1 1 = lin grain := by rw [hE1]; simp (config := { maxSteps := 1000000 }) only [go_sem, e1, appendA_U]
  have f2 : E1 2 = lin least := by rw [hE1]; simp (config := { maxSteps := 1000000 }) only [go_sem, e2, appendA_U]
  have f9 : E1 9 = lin (c.take i).sum := by rw [hE1]; simp (config := { maxSteps := 1000000 }) only [go_sem, h9, appendA_U]
  have f10 : E1 10 = lin i := by rw [hE1]; simp (config := { maxSteps := 1000000 }) only [go_sem, h10, appendA_U]
  clear hE1
  have hsr := sum_take_rng hc i
  have htl : ((c.take i).length : Int) ≤ 1024 := by rw [List.length_take]; omega
  by_cases hb : (i : Int) < c.length
  · obtain ⟨x, hx⟩ := get_of_lt (l := c) (i := i) (by omega)
    have hxr := hc x (List.mem_of_getElem? hx)
    have hxn := ne_of_get hx
    have w1 := IntWalk.i64_in ((c.take i).sum + x) (by omega)
    have w2 := IntWalk.i64_in ((i : Int) + 1) (by omega)
    refine vc_sound _ _ _ (by rfl) ?_
    simp (config := { maxSteps := 1000000 }) only [go_sem, f0, f9, f10, hb, hx, hxn, w1, w2, appendA_U]
    exact ⟨⟨i + 1, rfl, by omega, by rw [sum_take_succ hx]⟩, by rw [h10]; simp only [lin, iv_int]; omega⟩
  refine vc_sound _ _ _ (by rfl) ?_
  simp (config := { maxSteps := 1000000 }) only [go_sem, f0, f9, f10, hb, appendA_U]
  rw [List.take_of_length_le (by omega)] at f9
  by_cases hs : c.sum > 0
  · refine W.seq (vc_sound _ _ _ (by rfl) ?_)
    simp (config := { maxSteps := 1000000 }) only [go_sem, f0, f1, f2, f9, hs, wm, ws, appendA_U]
    refine FinV.mk (Nat.le_refl _) ?_
    unfold effC effT at hK
    rw [if_pos hs, if_pos hs] at hK
    exact hK
  refine W.seq (vc_sound _ _ _ (by rfl) ?_)
  simp (config := { maxSteps := 1000000 }) only [go_sem, f0, f9, hs, appendA_U]
  refine W.seq (vc_sound _ _ _ (by rfl) ?_)
  simp (config := { maxSteps := 1000000 }) only [go_sem, appendA_U]
  refine W.seq (vc_sound _ _ _ (by rfl) ?_)
  simp (config := { maxSteps := 1000000 }) only [go_sem, appendA_U]
  refine W.env fun E2 hE2 => ?_
  have g0 : E2 0 = vecI c := by rw [hE2]; simp (config := { maxSteps := 1000000 }) only [go_sem, f0, appendA_U]
  have g1 : E2 1 = lin grain := by rw [hE2]; simp (config := { maxSteps := 1000000 }) only [go_sem, f1, appendA_U]
  have g2 : E2 2 = lin least := by rw [hE2]; simp (config := { maxSteps := 1000000 }) only [go_sem, f2, appendA_U]
  have g11 : E2 11 = .lit (.slice none 0 0) := by rw [hE2]; simp (config := { maxSteps := 1000000 }) only [go_sem, appendA_U]
  have g12 : E2 12 = lin 0 := by rw [hE2]; simp (config := { maxSteps := 1000000 }) only [go_sem, appendA_U]
  clear hE2
  refine W.loop0 17557826312192 (by rfl) (fun ρ Hx => Over H Hx ∧ ∃ (i : Nat), ρ 12 = lin i ∧ i ≤ c.length ∧ OwnG H.next Hx 3 (ρ 11) (ints (List.replicate i 1))) (fun ρ Hx => c.length - (iv (ρ 12)).toNat) ?_ ?_
  · exact ⟨.refl _, 0, g12, by omega, by show OwnG _ _ _ (E2 11) _; rw [g11]; exact .nil⟩
  rintro ρ2 Hx2 ⟨ov, k, h12, hk, ho⟩
  obtain ⟨v, hv⟩ : ∃ v, v = ρ2 11 := ⟨_, rfl⟩
  rw [← hv] at ho
  refine W.env fun E3 hE3 => ?_
  have d0 : E3 0 = vecI c := by rw [hE3]; simp (config := { maxSteps := 1000000 }) only [go_sem, g0, appendA_U]
  have d1 : E3 1 = lin grain := by rw [hE3]; simp (config := { maxSteps := 1000000 }) only [go_sem, g1, appendA_U]
  have d2 : E3 2 = lin least := by rw [hE3]; simp (config := { maxSteps := 1000000 }) only [go_sem, g2, appendA_U]
  have d11 : E3 11 = v := by rw [hE3]; simp (config := { maxSteps := 1000000 }) only [go_sem, hv, appendA_U]
  have d12 : E3 12 = lin k := by rw [hE3]; simp (config := { maxSteps := 1000000 }) only [go_sem, h12, appendA_U]
  clear hE3
  have vo := ho.one
  have vcl := ho.cells
  by_cases hb2 : (k : Int) < c.length
  · obtain ⟨v', Ha, hA, hOa, hna, hpa⟩ := app_oneG (P := Tryd.prog) (t := 22) (x := lin 1) (n := Hx2.next + 1) Tryd.underlying22 Tryd.cells3 Tryd.zero3 rfl (by rw [Tryd.bytes3, ints_length, List.length_replicate]; omega) ho ov.next rfl
    simp only [lin] at hA
    have vo2 := hOa.one
    have vc2 := hOa.cells
    have w2 := IntWalk.i64_in ((k : Int) + 1) (by omega)
    refine vc_sound _ _ _ (by rfl) ?_
    simp (config := { maxSteps := 1000000 }) only [go_sem, d0, d11, d12, hb2, vo, vcl, hA, vo2, vc2, w2]
    have er : ints (List.replicate k 1) ++ [lin 1] = ints (List.replicate (k + 1) 1) := by rw [List.replicate_succ']; unfold ints; rw [List.map_append]; rfl
    rw [er] at hOa
    exact ⟨by have := ov.next; omega, ⟨⟨by have := ov.next; omega, fun id hid => (hpa id (by have := ov.next; omega) (OwnG.neF ho hid)).trans (ov.old id hid)⟩, k + 1, rfl, by omega, hOa⟩, by rw [h12]; simp only [lin, iv_int]; omega⟩
  refine vc_sound _ _ _ (by rfl) ?_
  simp (config := { maxSteps := 1000000 }) only [go_sem, d0, d11, d12, hb2, appendA_U]
  refine vc_sound _ _ _ (by rfl) ?_
  simp (config := { maxSteps := 1000000 }) only [go_sem, d0, d1, d2, d11, vo, vcl, wm, ws, appendA_U]
  obtain rfl : k = c.length := by omega
  unfold effC effT at hK
  rw [if_neg hs, if_neg hs] at hK
  refine FinV.dropO (v' := .tup [vecI (List.replicate c.length 1), lin c.length, lin (spareOf grain least c)]) G0_ok hcl ov (.tup rfl fun i hi _ => ?_) hK
  match i, hi with
  | 0, _ => exact ho.fzI fun i h => h
  | 1, _ => exact .lit _
  | 2, _ => exact .lit _
theorem least_ex {r : Nat → Int} {M : Nat → Bool} : ∀ m, (∃ j, j < m ∧ M j = false) → ∃ b, b < m ∧ M b = false ∧ ∀ j, j < m → M j = false → j ≠ b → before r b j
  | 0, ⟨j, h, _⟩ => absurd h (Nat.not_lt_zero _)
  | m + 1, ⟨j, hj, hM⟩ => by
    by_cases hex : ∃ j, j < m ∧ M j = false
    · obtain ⟨b, hb, hMb, hmin⟩ := least_ex m hex
      cases hm : M m with
      | true => exact ⟨b, by omega, hMb, fun j hj h1 h2 => hmin j (by have : j ≠ m := (by rintro rfl; rw [hm] at h1; cases h1); omega) h1 h2⟩
      | false =>
        by_cases hlt : r b < r m
        · refine ⟨m, by omega, hm, fun j hj h1 h2 => ?_⟩
          have hjm : j < m := by omega
          by_cases hjb : j = b
          · subst hjb; exact .inl hlt
          · have := hmin j hjm h1 hjb
            unfold before at this ⊢
            omega
        · refine ⟨b, by omega, hMb, fun j hj h1 h2 => ?_⟩
          by_cases hjm : j = m
          · subst hjm; unfold before; omega
          · exact hmin j (by omega) h1 h2
    · have : j = m := by
        refine Classical.byContradiction fun h => hex ⟨j, by omega, hM⟩
      subst this
      exact ⟨j, by omega, hM, fun i hi h1 h2 => absurd ⟨i, by omega, h1⟩ hex⟩
theorem Top.some {r : Nat → Int} {n k : Nat} {M : Nat → Bool} (h : Top r n k M) (hk : k < n) : ∃ j, j < n ∧ M j = false := by
  refine Classical.byContradiction fun hno => ?_
  have := h.count
  have e : (List.range n).countP M = (List.range n).length := List.countP_eq_length.2 fun x hx => by
    rcases Bool.eq_false_or_eq_true (M x) with e | e
    · exact e
    · exact absurd ⟨x, List.mem_range.1 hx, e⟩ hno
  rw [e, List.length_range] at this
  omega
theorem Top.ex (r : Nat → Int) (n : Nat) : ∀ k, k ≤ n → ∃ M, Top r n k M
  | 0, _ => ⟨_, .zero⟩
  | k + 1, h => by
    obtain ⟨M, hM⟩ := Top.ex r n k (by omega)
    obtain ⟨b, hb, hMb, hmin⟩ := least_ex (r := r) n (hM.some (by omega))
    exact ⟨_, hM.step hb hMb hmin⟩
theorem share_ex (least sp : Int) {c : List Int} (h : 0 < c.length) : ∃ s, ShareOk least sp c s := by
  have := left_bound (sp := sp) h
  obtain ⟨M, hM⟩ := Top.ex (restAt sp c) c.length (leftOf sp c).toNat (by omega)
  exact ⟨_, M, hM, rfl⟩
theorem effC_rng {c : List Int} (hc : ∀ x ∈ c, 0 ≤ x ∧ x ≤ 1099511627776) : ∀ x ∈ effC c, 0 ≤ x ∧ x ≤ 1099511627776 := by
  unfold effC; split
  · exact hc
  · intro x hx; rw [List.mem_replicate] at hx; omega
theorem part_at {sp : Int} {c : List Int} {i : Nat} {x : Int} (h : (effC c)[i]? = Option.some x) : partAt sp c i = sp * x / effT c ∧ restAt sp c i = sp * x % effT c := by
  unfold partAt restAt
  rw [List.getD_eq_getElem?_getD, h]
  exact ⟨rfl, rfl⟩
def restM (sp : Int) (c : List Int) (M : Nat → Bool) : List Int := (List.range c.length).map fun i => if M i then -1 else restAt sp c i
theorem restM_len (sp : Int) (c : List Int) (M : Nat → Bool) : (restM sp c M).length = c.length := by simp [restM]
theorem restM_get {sp : Int} {c : List Int} {M : Nat → Bool} {i : Nat} (h : i < c.length) : (restM sp c M)[i]? = Option.some (if M i then -1 else restAt sp c i) := by
  unfold restM; rw [List.getElem?_map, List.getElem?_range h]; rfl
theorem restM_set {sp : Int} {c : List Int} {M : Nat → Bool} {b : Nat} (h : b < c.length) : (restM sp c M).set b (-1) = restM sp c fun i => decide (i = b) || M i := by
  apply List.ext_getElem?
  intro i
  rw [List.getElem?_set]
  rcases Nat.lt_or_ge i c.length with hi | hi
  · rw [restM_get hi, restM_get hi, restM_len]
    by_cases hb : b = i
    · subst hb; simp [h]
    · have : i ≠ b := fun e => hb e.symm
      simp [hb, this]
  · rw [List.getElem?_eq_none (by rw [restM_len]; omega), List.getElem?_eq_none (by rw [restM_len]; omega), if_neg (by omega)]
theorem sharesM_set {least sp : Int} {c : List Int} {M : Nat → Bool} {b : Nat} (h : b < c.length) (hM : M b = false) {w : Int} (hw : (sharesM least sp c M)[b]? = Option.some w) : (sharesM least sp c M).set b (w + 1) = sharesM least sp c fun i => decide (i = b) || M i := by
  apply List.ext_getElem?
  intro i
  rw [List.getElem?_set]
  rcases Nat.lt_or_ge i c.length with hi | hi
  · rw [shares_get hi, shares_get hi, shares_len]
    by_cases hb : b = i
    · subst hb
      rw [shares_get hi, hM] at hw
      cases hw
      simp [h, hM]
    · have : i ≠ b := fun e => hb e.symm
      simp [hb, this]
  · rw [List.getElem?_eq_none (by rw [shares_len]; omega), List.getElem?_eq_none (by rw [shares_len]; omega), if_neg (by omega)]
theorem best_free {sp : Int} {c : List Int} {M : Nat → Bool} {k b : Nat} (hT : Top (restAt sp c) c.length k M) (hk : k < c.length) (hb : b < c.length) (hmin : ∀ j, j < c.length → j ≠ b → before (fun i => if M i then -1 else restAt sp c i) b j) :
    M b = false ∧ ∀ j, j < c.length → M j = false → j ≠ b → before (restAt sp c) b j := by
  have hMb : M b = false := by
    obtain ⟨j, hj, hMj⟩ := hT.some hk
    rcases Bool.eq_false_or_eq_true (M b) with e | e
    · have hne : j ≠ b := by rintro rfl; rw [e] at hMj; cases hMj
      have := hmin j hj hne
      unfold before at this
      simp only [hMj, e, if_true] at this
      have := (rest_bound (sp := sp) (c := c) (by omega) j).1
      simp only [Bool.false_eq_true, if_false] at *
      omega
    · exact e
  refine ⟨hMb, fun j hj h1 h2 => ?_⟩
  have := hmin j hj h2
  unfold before at this ⊢
  simp only [hMb, h1, Bool.false_eq_true, if_false] at this
  exact this

set_option maxHeartbeats 8000000 in
theorem round26_spec {c : List Int} {grain least : Int} {n : Nat} (hn : c.length = n) (h1 : 1 ≤ n) (hl : n ≤ 1024) (hc : ∀ x ∈ c, 0 ≤ x ∧ x ≤ 1099511627776) (hg : 1 ≤ grain ∧ grain ≤ 720) (hle : 0 ≤ least ∧ least ≤ 720) (hfit : least * n ≤ grain) (H : AHeap) (K : ARes → AHeap → Prop)
    (hK : ∀ s, ShareOk least (spareOf grain least c) c s → K (.ret (vecI s)) H) :
    ACall Tryd.prog G0 12 [vecI c, lin grain, lin least] H K := by
  refine ACall.clo ⟨_, Tryd.func12, rfl, rfl⟩ fun hcl => ?_
  obtain ⟨sp, hsp⟩ : ∃ sp, sp = spareOf grain least c := ⟨_, rfl⟩
  have hsp2 : sp = grain - least * n := by rw [hsp]; unfold spareOf; rw [hn]
  have m0 : 0 ≤ least * n := Int.mul_nonneg hle.1 (by omega)
  have sp0 : 0 ≤ sp ∧ sp ≤ 720 := by omega
  have hcn : ∀ x ∈ c, 0 ≤ x := fun x h => (hc x h).1
  have cel := effC_len c
  rw [hn] at cel
  have her := effC_rng hc
  have hT := effT_pos (c := c) (by omega)
  have hlb := left_bound (sp := sp) (c := c) (by omega)
  rw [← hsp] at hK
  refine ACall.of_bodyW (n := 97) (rs := [.tmp 6]) Tryd.func12 rfl rfl rfl (by decide) (by simp) ?_
  refine W.seq (vc_sound _ _ _ (by rfl) ?_)
  simp (config := { maxSteps := 1000000 }) only [go_sem, appendA_U]
  refine W.seq (vc_sound _ _ _ (by rfl) ?_)
  simp (config := { maxSteps := 1000000 }) only [go_sem, appendA_U]
  refine AApply.clo (due26_spec (by omega) (by omega) hc hg hle H _ ⟨trivial, ?_⟩)
  rw [← hsp]
  obtain ⟨ec, hec⟩ : ∃ ec, ec = effC c := ⟨_, rfl⟩
  obtain ⟨T, hTe⟩ : ∃ T, T = effT c := ⟨_, rfl⟩
  rw [← hec, ← hTe]
  rw [← hTe] at hT
  rw [← hec] at her cel
  simp (config := { maxSteps := 1000000 }) only [go_sem, appendA_U]
  refine W.seq (vc_sound _ _ _ (by rfl) ?_)
  simp (config := { maxSteps := 1000000 }) only [go_sem, appendA_U]
  refine W.seq (vc_sound _ _ _ (by rfl) ?_)
  simp (config := { maxSteps := 1000000 }) only [go_sem, appendA_U]
  refine W.seq (vc_sound _ _ _ (by rfl) ?_)
  simp (config := { maxSteps := 1000000 }) only [go_sem, appendA_U]
  refine W.env fun E hE => ?_
  have e2 : E 2 = lin least := by rw [hE]; simp (config := { maxSteps := 1000000 }) only [go_sem, appendA_U]
  have e7 : E 7 = vecI ec := by rw [hE]; simp (config := { maxSteps := 1000000 }) only [go_sem, appendA_U]
  have e8 : E 8 = lin T := by rw [hE]; simp (config := { maxSteps := 1000000 }) only [go_sem, appendA_U]
  have e9 : E 9 = lin sp := by rw [hE]; simp (config := { maxSteps := 1000000 }) only [go_sem, appendA_U]
  have e10 : E 10 = .lit (.slice none 0 0) := by rw [hE]; simp (config := { maxSteps := 1000000 }) only [go_sem, appendA_U]
  have e11 : E 11 = .lit (.slice none 0 0) := by rw [hE]; simp (config := { maxSteps := 1000000 }) only [go_sem, appendA_U]
  have e12 : E 12 = lin sp := by rw [hE]; simp (config := { maxSteps := 1000000 }) only [go_sem, appendA_U]
  have e13 : E 13 = lin 0 := by rw [hE]; simp (config := { maxSteps := 1000000 }) only [go_sem, appendA_U]
  clear hE
  refine W.loop0 36893488147385564160 (by rfl) (fun ρ Hx => Over H Hx ∧ ∃ (i : Nat), ρ 13 = lin i ∧ i ≤ n ∧ ρ 12 = lin (leftK sp c i) ∧ Own2 H.next Hx 3 (ρ 10) (ints ((List.range i).map fun j => least + partAt sp c j)) (ρ 11) (ints ((List.range i).map (restAt sp c)))) (fun ρ Hx => n - (iv (ρ 13)).toNat) ?_ ?_
  · refine ⟨.refl _, 0, e13, by omega, e12.trans (by unfold leftK; simp), ?_⟩
    show Own2 _ _ _ (E 10) _ (E 11) _
    rw [e10, e11]
    exact .nil
  rintro ρ Hx ⟨ov, i, h13, hi, h12, hO⟩
  obtain ⟨v, hv⟩ : ∃ v, v = ρ 10 := ⟨_, rfl⟩
  obtain ⟨u, hu⟩ : ∃ u, u = ρ 11 := ⟨_, rfl⟩
  rw [← hv, ← hu] at hO
  refine W.env fun E1 hE1 => ?_
  have f2 : E1 2 = lin least := by rw [hE1]; simp (config := { maxSteps := 1000000 }) only [go_sem, e2, appendA_U]
  have f7 : E1 7 = vecI ec := by rw [hE1]; simp (config := { maxSteps := 1000000 }) only [go_sem, e7, appendA_U]
  have f8 : E1 8 = lin T := by rw [hE1]; simp (config := { maxSteps := 1000000 }) only [go_sem, e8, appendA_U]
  have f9 : E1 9 = lin sp := by rw [hE1]; simp (config := { maxSteps := 1000000 }) only [go_sem, e9, appendA_U]
  have f10 : E1 10 = v := by rw [hE1]; simp (config := { maxSteps := 1000000 }) only [go_sem, hv, appendA_U]
  have f11 : E1 11 = u := by rw [hE1]; simp (config := { maxSteps := 1000000 }) only [go_sem, hu, appendA_U]
  have f12 : E1 12 = lin (leftK sp c i) := by rw [hE1]; simp (config := { maxSteps := 1000000 }) only [go_sem, h12, appendA_U]
  have f13 : E1 13 = lin i := by rw [hE1]; simp (config := { maxSteps := 1000000 }) only [go_sem, h13, appendA_U]
  clear hE1
  have vo := hO.a.one
  have vcl := hO.a.cells
  have uo := hO.b.one
  have ucl := hO.b.cells
  have hov := ov.next
  refine vc_sound _ _ _ (by rfl) ?_
  by_cases hb : (i : Int) < n
  · obtain ⟨x, hx⟩ := get_of_lt (l := ec) (i := i) (by omega)
    have hxr := her x (List.mem_of_getElem? hx)
    have hxn := ne_of_get hx
    have p0 : 0 ≤ sp * x := Int.mul_nonneg sp0.1 hxr.1
    have p1 : sp * x ≤ 720 * 1099511627776 := Int.mul_le_mul sp0.2 hxr.2 hxr.1 (by omega)
    have hpa := part_at (sp := sp) (c := c) (i := i) (x := x) (by rw [← hec]; exact hx)
    rw [← hTe] at hpa
    have q1 : (sp * x).tdiv T = partAt sp c i := by rw [hpa.1]; exact Int.tdiv_eq_ediv_of_nonneg p0
    have q2 : (sp * x).tmod T = restAt sp c i := by rw [hpa.2]; exact Int.tmod_eq_emod_of_nonneg p0
    have pn := part_nn hcn (by omega) sp0.1 i
    have pl := part_le hcn (by omega) sp0.1 i
    have rb := rest_bound (sp := sp) (c := c) (by omega) i
    have rl : restAt sp c i ≤ sp * x := by
      have h0 : 0 ≤ T * (sp * x / T) := Int.mul_nonneg (by omega) (by rw [← hpa.1]; exact pn)
      rw [hpa.2, Int.emod_def]
      omega
    have lk := leftK_rng hcn (by omega) sp0.1 i
    have lk1 : sp * (i : Int) ≤ 720 * 1024 := Int.mul_le_mul sp0.2 (by omega) (by omega) (by omega)
    have t0 : ¬ T = 0 := by omega
    have w1 := IntWalk.i64_in (sp * x) (by omega)
    have w2 := IntWalk.i64_in (partAt sp c i) (by omega)
    have w3 := IntWalk.i64_in (least + partAt sp c i) (by omega)
    have w4 := IntWalk.i64_in (restAt sp c i) (by omega)
    have w5 := IntWalk.i64_in (leftK sp c i - partAt sp c i) (by omega)
    have w6 := IntWalk.i64_in ((i : Int) + 1) (by omega)
    obtain ⟨v', Ha, hA1, hOa, hna, hpa1⟩ := Own2.app (P := Tryd.prog) (t := 22) (x := lin (least + partAt sp c i)) (n := Hx.next + 1) Tryd.underlying22 Tryd.cells3 Tryd.zero3 rfl (by rw [Tryd.bytes3, ints_length, List.length_map, List.length_range]; omega) hO hov rfl
    simp only [lin] at hA1
    have vo1 := hOa.a.one
    have vc1 := hOa.a.cells
    obtain ⟨u', Hc, hA2, hOc, hnc, hpc⟩ := Own2.app (P := Tryd.prog) (t := 22) (x := lin (restAt sp c i)) (n := Ha.next + 1) Tryd.underlying22 Tryd.cells3 Tryd.zero3 rfl (by rw [Tryd.bytes3, ints_length, List.length_map, List.length_range]; omega) hOa.symm (by omega) rfl
    simp only [lin] at hA2
    have vo2 := hOc.a.one
    have vc2 := hOc.a.cells
    simp (config := { maxSteps := 1000000 }) only [go_sem, f2, f7, f8, f9, f10, f11, f12, f13, cel, hb, hx, hxn, t0, q1, q2, w1, w2, w3, w4, w5, w6, vo, vcl, uo, ucl, hA1, vo1, vc1, hA2, vo2, vc2]
    have er1 : ints ((List.range i).map fun j => least + partAt sp c j) ++ [lin (least + partAt sp c i)] = ints ((List.range (i + 1)).map fun j => least + partAt sp c j) := by rw [List.range_succ, List.map_append]; unfold ints; rw [List.map_append]; rfl
    have er2 : ints ((List.range i).map (restAt sp c)) ++ [lin (restAt sp c i)] = ints ((List.range (i + 1)).map (restAt sp c)) := by rw [List.range_succ, List.map_append]; unfold ints; rw [List.map_append]; rfl
    rw [er1, er2] at hOc
    exact ⟨by omega, ⟨⟨by omega, fun id hid => (hpc id hid).trans ((hpa1 id hid).trans (ov.old id hid))⟩, i + 1, rfl, by omega, by rw [leftK_succ], hOc.symm⟩, by rw [h13]; simp only [lin, iv_int]; omega⟩
  simp (config := { maxSteps := 1000000 }) only [go_sem, f7, f13, cel, hb, appendA_U]
  obtain rfl : i = n := by omega
  have iA : (ints ((List.range i).map fun j => least + partAt sp c j)).length = i := by rw [ints_length, List.length_map, List.length_range]
  have iB : (ints ((List.range i).map (restAt sp c))).length = i := by rw [ints_length, List.length_map, List.length_range]
  obtain ⟨io, go, hio, hlo, gio, hve⟩ : ∃ io go, H.next ≤ io ∧ io < Hx.next ∧ Hx.get io = some (.arr go 3 (ints ((List.range i).map fun j => least + partAt sp c j))) ∧ v = .own io go 0 i 1 := by
    rcases hO.a with ⟨_, h⟩ | ⟨io, go, a, a2, b, d⟩
    · rw [h] at iA; simp at iA; omega
    · exact ⟨io, go, a, a2, d, by rw [b, iA]⟩
  obtain ⟨ir, gr, hir, hlr, gir, hue⟩ : ∃ ir gr, H.next ≤ ir ∧ ir < Hx.next ∧ Hx.get ir = some (.arr gr 3 (ints ((List.range i).map (restAt sp c)))) ∧ u = .own ir gr 0 i 1 := by
    rcases hO.b with ⟨_, h⟩ | ⟨io, go, a, a2, b, d⟩
    · rw [h] at iB; simp at iB; omega
    · exact ⟨io, go, a, a2, d, by rw [b, iB]⟩
  have hne : io ≠ ir := fun e => hO.ne io go i gr i hve (by rw [hue, e])
  rw [hve] at f10 vo vcl
  rw [hue] at f11 uo ucl
  clear hO hve hue hv hu
  refine W.env fun E2 hE2 => ?_
  have g10 : E2 10 = .own io go 0 i 1 := by rw [hE2]; simp (config := { maxSteps := 1000000 }) only [go_sem, f10, appendA_U]
  have g11 : E2 11 = .own ir gr 0 i 1 := by rw [hE2]; simp (config := { maxSteps := 1000000 }) only [go_sem, f11, appendA_U]
  have g12 : E2 12 = lin (leftOf sp c) := by rw [hE2]; simp (config := { maxSteps := 1000000 }) only [go_sem, f12, appendA_U]; unfold leftK leftOf; rw [hn]
  clear hE2
  have eA : ((List.range i).map fun j => least + partAt sp c j) = sharesM least sp c fun _ => false := by unfold sharesM; rw [hn]; simp
  have eB : ((List.range i).map (restAt sp c)) = restM sp c fun _ => false := by unfold restM; rw [hn]; simp
  rw [eA] at gio
  rw [eB] at gir
  refine W.seq (W.block ?_)
  refine W.loop0 79228162477370849446124900352 (by kernel_rfl) (fun ρ Hy => ∃ (k : Nat) (M : Nat → Bool), ρ 12 = lin (leftOf sp c - k) ∧ (k : Int) ≤ leftOf sp c ∧ Top (restAt sp c) c.length k M ∧ Hy.next = Hx.next ∧ (∀ id, id < H.next → Hy.get id = Hx.get id) ∧ Hy.get io = some (.arr go 3 (ints (sharesM least sp c M))) ∧ Hy.get ir = some (.arr gr 3 (ints (restM sp c M)))) (fun ρ Hy => (iv (ρ 12)).toNat) ?_ ?_
  · exact ⟨0, _, g12.trans (by simp), by omega, .zero, rfl, fun _ _ => rfl, gio, gir⟩
  rintro ρ2 Hy ⟨k, M, h12', hk, hM, ny, hold, gyo, gyr⟩
  refine W.env fun E3 hE3 => ?_
  have d10 : E3 10 = .own io go 0 i 1 := by rw [hE3]; simp (config := { maxSteps := 1000000 }) only [go_sem, g10, appendA_U]
  have d11 : E3 11 = .own ir gr 0 i 1 := by rw [hE3]; simp (config := { maxSteps := 1000000 }) only [go_sem, g11, appendA_U]
  have d12 : E3 12 = lin (leftOf sp c - k) := by rw [hE3]; simp (config := { maxSteps := 1000000 }) only [go_sem, h12', appendA_U]
  clear hE3
  have lo := get_live gyo
  have lr := get_live gyr
  have il1 : (ints (sharesM least sp c M)).length = i := by rw [ints_length, shares_len, hn]
  have il2 : (ints (restM sp c M)).length = i := by rw [ints_length, restM_len, hn]
  by_cases hb2 : leftOf sp c - k > 0
  rotate_left
  · refine vc_sound _ _ _ (by rfl) ?_
    simp (config := { maxSteps := 1000000 }) only [go_sem, d12, hb2, appendA_U]
    refine vc_sound _ _ _ (by rfl) ?_
    simp (config := { maxSteps := 1000000 }) only [go_sem, d10, appendA_U]
    have hkl : k = (leftOf sp c).toNat := by omega
    refine FinV.dropO G0_ok hcl ⟨by omega, fun id hid => (hold id hid).trans (ov.old id hid)⟩ (v' := vecI (sharesM least sp c M)) ?_ (hK _ ⟨M, hkl ▸ hM, rfl⟩)
    rw [← il1]
    exact OwnG.fzI (lo := H.next) (.inr ⟨io, go, hio, by omega, rfl, gyo⟩) fun i h => h
  refine W.seq (vc_sound _ _ _ (by rfl) ?_)
  simp (config := { maxSteps := 1000000 }) only [go_sem, d12, hb2, appendA_U]
  refine W.seq (W.block ?_)
  refine W.seq (vc_sound _ _ _ (by rfl) ?_)
  simp (config := { maxSteps := 1000000 }) only [go_sem, appendA_U]
  refine W.seq (vc_sound _ _ _ (by rfl) ?_)
  simp (config := { maxSteps := 1000000 }) only [go_sem, appendA_U]
  refine W.env fun E4 hE4 => ?_
  have b10 : E4 10 = .own io go 0 i 1 := by rw [hE4]; simp (config := { maxSteps := 1000000 }) only [go_sem, d10, appendA_U]
  have b11 : E4 11 = .own ir gr 0 i 1 := by rw [hE4]; simp (config := { maxSteps := 1000000 }) only [go_sem, d11, appendA_U]
  have b12 : E4 12 = lin (leftOf sp c - k) := by rw [hE4]; simp (config := { maxSteps := 1000000 }) only [go_sem, d12, appendA_U]
  have b14 : E4 14 = lin 0 := by rw [hE4]; simp (config := { maxSteps := 1000000 }) only [go_sem, appendA_U]
  have b15 : E4 15 = lin 1 := by rw [hE4]; simp (config := { maxSteps := 1000000 }) only [go_sem, appendA_U]
  clear hE4
  obtain ⟨R, hR⟩ : ∃ R : Nat → Int, R = fun i => if M i then -1 else restAt sp c i := ⟨_, rfl⟩
  have hget : ∀ j, j < i → (restM sp c M)[j]? = Option.some (R j) := fun j hj => by rw [restM_get (by omega), hR]
  refine W.loop0 38685035931857774884995072 (by kernel_rfl) (fun ρ Hz => Hz = Hy ∧ ∃ (b j : Nat), ρ 14 = lin b ∧ ρ 15 = lin j ∧ 1 ≤ j ∧ j ≤ i ∧ b < j ∧ ∀ q, q < j → q ≠ b → before R b q) (fun ρ Hz => i - (iv (ρ 15)).toNat) ?_ ?_
  · exact ⟨rfl, 0, 1, b14, b15, by omega, by omega, by omega, fun q h1 h2 => by omega⟩
  rintro ρ4 Hz ⟨hHz, b, j, h14, h15, hj1, hji, hbj, hmin⟩
  rw [hHz]
  clear hHz
  refine W.env fun E5 hE5 => ?_
  have a10 : E5 10 = .own io go 0 i 1 := by rw [hE5]; simp (config := { maxSteps := 1000000 }) only [go_sem, b10, appendA_U]
  have a11 : E5 11 = .own ir gr 0 i 1 := by rw [hE5]; simp (config := { maxSteps := 1000000 }) only [go_sem, b11, appendA_U]
  have a12 : E5 12 = lin (leftOf sp c - k) := by rw [hE5]; simp (config := { maxSteps := 1000000 }) only [go_sem, b12, appendA_U]
  have a14 : E5 14 = lin b := by rw [hE5]; simp (config := { maxSteps := 1000000 }) only [go_sem, h14, appendA_U]
  have a15 : E5 15 = lin j := by rw [hE5]; simp (config := { maxSteps := 1000000 }) only [go_sem, h15, appendA_U]
  clear hE5
  have gb := hget b (by omega)
  have gbn := ne_of_get gb
  have hbi : (b : Int) < i := by omega
  by_cases hb3 : (j : Int) < i
  · have gj := hget j (by omega)
    have gjn := ne_of_get gj
    have w6 := IntWalk.i64_in ((j : Int) + 1) (by omega)
    refine W.seq (vc_sound _ _ _ (by rfl) ?_)
    simp (config := { maxSteps := 1000000 }) only [go_sem, a11, a15, lr, il2, hb3, appendA_U]
    refine W.seq (W.block ?_)
    refine W.seq ?_
    refine W.draw 8 [0, 0, 3, 7, 0, 0, 48, 112] Tryd.mixed (by kernel_rfl) (by kernel_rfl) ?_
    simp (config := { maxSteps := 1000000 }) only [go_sem, a11, a14, a15, lr, il2, hb3, hbi, gb, gbn, gj, gjn, appendA_U]
    refine vc_sound _ _ _ (by rfl) ?_
    by_cases hlt : R j > R b
    · simp (config := { maxSteps := 1000000 }) only [go_sem, hlt, a15, appendA_U]
      refine vc_sound _ _ _ (by rfl) ?_
      simp (config := { maxSteps := 1000000 }) only [go_sem, a15, w6, appendA_U]
      exact ⟨⟨j, j + 1, rfl, rfl, by omega, by omega, by omega, fun q h1 h2 => by
        by_cases hqb : q = b
        · subst hqb; exact .inl hlt
        · have := hmin q (by omega) hqb
          unfold before at this ⊢
          omega⟩, by rw [h15]; simp only [lin, iv_int]; omega⟩
    · simp (config := { maxSteps := 1000000 }) only [go_sem, hlt, a15, appendA_U]
      refine vc_sound _ _ _ (by rfl) ?_
      simp (config := { maxSteps := 1000000 }) only [go_sem, a14, a15, w6, appendA_U]
      exact ⟨⟨b, j + 1, rfl, rfl, by omega, by omega, by omega, fun q h1 h2 => by
        by_cases hqb : q = j
        · subst hqb; unfold before; omega
        · exact hmin q (by omega) h2⟩, by rw [h15]; simp only [lin, iv_int]; omega⟩
  obtain rfl : j = i := by omega
  obtain ⟨hMb, hstep⟩ := best_free (b := b) hM (by omega) (by omega) (fun q h1 h2 => by rw [← hR]; exact hmin q (by omega) h2)
  obtain ⟨w, hw⟩ := get_of_lt (l := sharesM least sp c M) (i := b) (by rw [shares_len]; omega)
  have hwn := ne_of_get hw
  have hwr : least ≤ w ∧ w ≤ 720 + sp + 1 := by
    rw [shares_get (by omega), hMb] at hw
    cases hw
    have pn := part_nn hcn (by omega) sp0.1 b
    have pl := part_le hcn (by omega) sp0.1 b
    simp
    omega
  have w7 := IntWalk.i64_in (w + 1) (by omega)
  have w8 := IntWalk.i64_in (leftOf sp c - k - 1) (by omega)
  refine vc_sound _ _ _ (by rfl) ?_
  simp (config := { maxSteps := 1000000 }) only [go_sem, a11, a15, lr, il2, hb3, appendA_U]
  refine vc_sound _ _ _ (by rfl) ?_
  have lrU : ∀ bk, (Hy.upd io bk).live ir gr = _ := fun bk => (live_upd_other (fun e => hne e.symm)).trans lr
  simp (config := { maxSteps := 1000000 }) only [go_sem, a10, a11, a14, lo, lrU, il1, il2, hbi, hw, hwn, w7, appendA_U]
  refine ⟨by omega, by omega, ?_⟩
  refine vc_sound _ _ _ (by rfl) ?_
  simp (config := { maxSteps := 1000000 }) only [go_sem, a12, w8, appendA_U]
  rw [setAt_ints (by rw [shares_len]; omega), setAt_ints (by rw [restM_len]; omega), sharesM_set (by omega) hMb hw, restM_set (by omega)]
  refine ⟨by rw [upd_next, upd_next, ny]; exact Nat.le_refl _, ⟨k + 1, _, by rw [show leftOf sp c - ((k + 1 : Nat) : Int) = leftOf sp c - k - 1 by omega], by omega, hM.step (by omega) hMb hstep, by rw [upd_next, upd_next]; exact ny, fun id hid => by rw [upd_get, if_neg (by omega), upd_get, if_neg (by omega)]; exact hold id hid, by rw [upd_get, if_neg hne, upd_get, if_pos rfl], by rw [upd_get, if_pos rfl]⟩, by rw [h12']; simp only [lin, iv_int]; omega⟩
def blockOf (k : Nat) : Code → Option Code
  | .seq a b => match blockOf k a with
    | some c => some c
    | none => blockOf k b
  | .block j c => if j == k then some c else blockOf k c
  | .loop c => blockOf k c
  | .cond _ a b => match blockOf k a with
    | some c => some c
    | none => blockOf k b
  | _ => none
theorem divmod_eq {a b c j k : Int} (hc : 0 < c) (hb : 0 ≤ b ∧ b < c) (hk : 0 ≤ k ∧ k < c) : a * c + b = j * c + k ↔ b = k ∧ a = j := by
  constructor
  · intro h
    have e1 : (a * c + b) / c = a := by rw [Int.add_comm, Int.add_mul_ediv_right _ _ (by omega), Int.ediv_eq_zero_of_lt hb.1 hb.2]; omega
    have e2 : (j * c + k) / c = j := by rw [Int.add_comm, Int.add_mul_ediv_right _ _ (by omega), Int.ediv_eq_zero_of_lt hk.1 hk.2]; omega
    rw [h, e2] at e1
    subst e1
    exact ⟨by omega, rfl⟩
  · rintro ⟨rfl, rfl⟩; rfl
theorem key_match {cs P r : List Int} {v : Nat} {c b : Int} {j k : Nat} (hc : cs[v]? = some c) (hb : r[v]? = some b) (hbr : -1 ≤ b ∧ b < c) (hk : (k : Int) < c) :
    keyC cs P v r = some ((j : Int) * c + k) ↔ (b = k ∧ (if parOk P r = true then rowI cs P r else -1) = j) := by
  unfold keyC
  rw [getD_of_get hc, getD_of_get hb]
  by_cases hb0 : b < 0
  · rw [if_neg (by simp [hb0])]
    constructor
    · intro h; cases h
    · rintro ⟨h, _⟩; omega
  · cases hp : parOk P r with
    | false =>
      rw [if_neg (by simp), if_neg (by decide)]
      constructor
      · intro h; cases h
      · rintro ⟨_, h⟩; omega
    | true =>
      rw [if_pos ⟨hb0, rfl⟩, if_pos rfl, Option.some.injEq]
      exact divmod_eq (by omega) (by omega) (by omega)
theorem cntF_succ {cs P : List Int} {v i : Nat} {xs : List (List Int)} {r : List Int} (h : xs[i]? = some r) (q : Int) : cntF cs P v (xs.take (i + 1)) q = cntF cs P v (xs.take i) q + if keyC cs P v r = some q then 1 else 0 := by
  unfold cntF
  rw [take_succ_get h, List.countP_append, List.countP_singleton]
  by_cases hk : keyC cs P v r = some q <;> simp [hk]

set_option maxHeartbeats 8000000 in
theorem fit26_row {cs P : List Int} {xs : List (List Int)} {grain prior least c : Int} {v j D X lo : Nat} {rv : AVal} {rows : List (List Int)} {Hw : AHeap} {E : Nat → AVal} {Q : AX → St → Prop} (hpar : ParIn cs P) (hd : DataOk cs xs) (hw : WantOk cs grain prior least) (hcv : cs[v]? = some c)
    (gD : Hw.get D = some (.arr 0 50 [vecI cs, vecV xs])) (gX : Hw.get X = some (.arr 0 91 [lin c, vecI P, rv])) (hO : OwnG lo Hw 22 rv (rows.map vecI)) (hrl : rows.length < 2 ^ 39) (hDl : D < lo) (hXl : X < lo) (hlo : lo ≤ Hw.next)
    (e2 : E 2 = lin grain) (e3 : E 3 = lin prior) (e4 : E 4 = lin least) (e5 : E 5 = .ptr D 0 0) (e12 : E 12 = lin v) (e13 : E 13 = vecI P) (e14 : E 14 = .ptr X 0 0) (e16 : E 16 = lin j)
    (hQ : ∀ (ρ' : Nat → AVal) (H' : AHeap) (rv' : AVal) (s : List Int), ρ' 16 = lin j → ShareOk least (spareOf grain least (cntsL cs P v xs prior j)) (cntsL cs P v xs prior j) s → Hw.next ≤ H'.next → (∀ id, id < lo → id ≠ X → H'.get id = Hw.get id) → H'.get X = some (.arr 0 91 [lin c, vecI P, rv']) → OwnG lo H' 22 rv' ((rows ++ [s]).map vecI) → Q .normal ⟨ρ', H'⟩)
    (code : Code) (hcode : blockOf 3 (bodyOf Tryd.f23) = some code) : W Tryd.prog G0 115 none code Q ⟨E, Hw⟩ := by
  simp only [blockOf, bodyOf, Tryd.f23, Option.getD_some, Nat.reduceBEq, Bool.false_eq_true, if_false, if_true, reduceIte] at hcode
  obtain rfl := Option.some.inj hcode
  clear hcode
  obtain ⟨⟨g1, g60⟩, ⟨p0, p10⟩, ⟨l0, lg⟩, lc⟩ := hw
  have c4 := hd.card c (List.mem_of_getElem? hcv)
  have hcd := getD_of_get (d := 0) hcv
  have hcn := ne_of_get hcv
  have hvc : (v : Int) < cs.length := by have := get_lt hcv; omega
  have x40 := hd.x1
  obtain ⟨cn, hcn'⟩ : ∃ cn : Nat, (cn : Int) = c := ⟨c.toNat, by omega⟩
  obtain ⟨T, hT⟩ : ∃ T : List Int, T = cntsL cs P v xs prior j := ⟨_, rfl⟩
  have Tl : T.length = cn := by rw [hT, cntsL_len, hcd]; omega
  have Tg : ∀ k, k < cn → T[k]? = some (prior + (cntF cs P v xs ((j : Int) * c + k) : Int)) := fun k hk => by rw [hT, cntsL_get (by rw [hcd]; omega), hcd]
  have Tr : ∀ x ∈ T, 0 ≤ x ∧ x ≤ 50 := by rw [hT]; exact cntsL_rng ⟨p0, p10⟩ hd.x1
  rw [← hT] at hQ
  have lD := get_live gD
  have hXl2 : X < Hw.next := by omega
  refine W.seq (vc_sound _ _ _ (by rfl) ?_)
  simp (config := { maxSteps := 1000000 }) only [go_sem, appendA_U]
  refine W.env fun E0 hE0 => ?_
  have a2 : E0 2 = lin grain := by rw [hE0]; simp (config := { maxSteps := 1000000 }) only [go_sem, e2, appendA_U]
  have a3 : E0 3 = lin prior := by rw [hE0]; simp (config := { maxSteps := 1000000 }) only [go_sem, e3, appendA_U]
  have a4 : E0 4 = lin least := by rw [hE0]; simp (config := { maxSteps := 1000000 }) only [go_sem, e4, appendA_U]
  have a5 : E0 5 = .ptr D 0 0 := by rw [hE0]; simp (config := { maxSteps := 1000000 }) only [go_sem, e5, appendA_U]
  have a12 : E0 12 = lin v := by rw [hE0]; simp (config := { maxSteps := 1000000 }) only [go_sem, e12, appendA_U]
  have a13 : E0 13 = vecI P := by rw [hE0]; simp (config := { maxSteps := 1000000 }) only [go_sem, e13, appendA_U]
  have a14 : E0 14 = .ptr X 0 0 := by rw [hE0]; simp (config := { maxSteps := 1000000 }) only [go_sem, e14, appendA_U]
  have a16 : E0 16 = lin j := by rw [hE0]; simp (config := { maxSteps := 1000000 }) only [go_sem, e16, appendA_U]
  have a17 : E0 17 = .lit (.slice none 0 0) := by rw [hE0]; simp (config := { maxSteps := 1000000 }) only [go_sem, appendA_U]
  clear hE0
  refine W.seq (W.postWeak (Q' := fun e s2 => e = .normal ∧ s2.ρ 2 = lin grain ∧ s2.ρ 4 = lin least ∧ s2.ρ 14 = .ptr X 0 0 ∧ s2.ρ 16 = lin j ∧ Over Hw s2.H ∧ OwnG Hw.next s2.H 3 (s2.ρ 17) (ints T)) ?_ ?_)
  · refine W.seq (vc_sound _ _ _ (by rfl) ?_)
    simp (config := { maxSteps := 1000000 }) only [go_sem, appendA_U]
    refine W.env fun E1 hE1 => ?_
    have b2 : E1 2 = lin grain := by rw [hE1]; simp (config := { maxSteps := 1000000 }) only [go_sem, a2, appendA_U]
    have b3 : E1 3 = lin prior := by rw [hE1]; simp (config := { maxSteps := 1000000 }) only [go_sem, a3, appendA_U]
    have b4 : E1 4 = lin least := by rw [hE1]; simp (config := { maxSteps := 1000000 }) only [go_sem, a4, appendA_U]
    have b5 : E1 5 = .ptr D 0 0 := by rw [hE1]; simp (config := { maxSteps := 1000000 }) only [go_sem, a5, appendA_U]
    have b12 : E1 12 = lin v := by rw [hE1]; simp (config := { maxSteps := 1000000 }) only [go_sem, a12, appendA_U]
    have b13 : E1 13 = vecI P := by rw [hE1]; simp (config := { maxSteps := 1000000 }) only [go_sem, a13, appendA_U]
    have b14 : E1 14 = .ptr X 0 0 := by rw [hE1]; simp (config := { maxSteps := 1000000 }) only [go_sem, a14, appendA_U]
    have b16 : E1 16 = lin j := by rw [hE1]; simp (config := { maxSteps := 1000000 }) only [go_sem, a16, appendA_U]
    have b17 : E1 17 = .lit (.slice none 0 0) := by rw [hE1]; simp (config := { maxSteps := 1000000 }) only [go_sem, a17, appendA_U]
    have b18 : E1 18 = lin 0 := by rw [hE1]; simp (config := { maxSteps := 1000000 }) only [go_sem, appendA_U]
    clear hE1
    refine W.block ?_
    refine W.loop0 633825300114105693549098827776 (by kernel_rfl) (fun ρ Hy => Over Hw Hy ∧ ∃ k : Nat, ρ 18 = lin k ∧ k ≤ cn ∧ OwnG Hw.next Hy 3 (ρ 17) (ints (T.take k))) (fun ρ Hy => cn - (iv (ρ 18)).toNat) ?_ ?_
    · exact ⟨.refl _, 0, b18, by omega, by show OwnG _ _ _ (E1 17) _; rw [b17]; exact .nil⟩
    rintro ρ Hy ⟨ov, k, h18, hk, ho⟩
    obtain ⟨w, hw⟩ : ∃ w, w = ρ 17 := ⟨_, rfl⟩
    rw [← hw] at ho
    refine W.env fun E2 hE2 => ?_
    have d2 : E2 2 = lin grain := by rw [hE2]; simp (config := { maxSteps := 1000000 }) only [go_sem, b2, appendA_U]
    have d3 : E2 3 = lin prior := by rw [hE2]; simp (config := { maxSteps := 1000000 }) only [go_sem, b3, appendA_U]
    have d4 : E2 4 = lin least := by rw [hE2]; simp (config := { maxSteps := 1000000 }) only [go_sem, b4, appendA_U]
    have d5 : E2 5 = .ptr D 0 0 := by rw [hE2]; simp (config := { maxSteps := 1000000 }) only [go_sem, b5, appendA_U]
    have d12 : E2 12 = lin v := by rw [hE2]; simp (config := { maxSteps := 1000000 }) only [go_sem, b12, appendA_U]
    have d13 : E2 13 = vecI P := by rw [hE2]; simp (config := { maxSteps := 1000000 }) only [go_sem, b13, appendA_U]
    have d14 : E2 14 = .ptr X 0 0 := by rw [hE2]; simp (config := { maxSteps := 1000000 }) only [go_sem, b14, appendA_U]
    have d16 : E2 16 = lin j := by rw [hE2]; simp (config := { maxSteps := 1000000 }) only [go_sem, b16, appendA_U]
    have d17 : E2 17 = w := by rw [hE2]; simp (config := { maxSteps := 1000000 }) only [go_sem, hw, appendA_U]
    have d18 : E2 18 = lin k := by rw [hE2]; simp (config := { maxSteps := 1000000 }) only [go_sem, h18, appendA_U]
    clear hE2
    have ovn := ov.next
    have lDy := get_live ((ov.old D (by omega)).trans gD)
    by_cases hb : (k : Int) < c
    rotate_left
    · refine vc_sound _ _ _ (by rfl) ?_
      simp (config := { maxSteps := 1000000 }) only [go_sem, d5, d12, d18, lDy, hcv, hcn, hvc, hb, appendA_U]
      obtain rfl : k = cn := by omega
      rw [List.take_of_length_le (by omega)] at ho
      exact ⟨d2, d4, d14, d16, ov, by rw [d17]; exact ho⟩
    refine W.seq (vc_sound _ _ _ (by rfl) ?_)
    simp (config := { maxSteps := 1000000 }) only [go_sem, d5, d12, d18, lDy, hcv, hcn, hvc, hb, appendA_U]
    refine W.seq (W.block ?_)
    refine W.seq (vc_sound _ _ _ (by rfl) ?_)
    simp (config := { maxSteps := 1000000 }) only [go_sem, d3, appendA_U]
    refine W.seq (vc_sound _ _ _ (by rfl) ?_)
    simp (config := { maxSteps := 1000000 }) only [go_sem, appendA_U]
    refine W.env fun E3 hE3 => ?_
    have k2 : E3 2 = lin grain := by rw [hE3]; simp (config := { maxSteps := 1000000 }) only [go_sem, d2, appendA_U]
    have k4 : E3 4 = lin least := by rw [hE3]; simp (config := { maxSteps := 1000000 }) only [go_sem, d4, appendA_U]
    have k5 : E3 5 = .ptr D 0 0 := by rw [hE3]; simp (config := { maxSteps := 1000000 }) only [go_sem, d5, appendA_U]
    have k12 : E3 12 = lin v := by rw [hE3]; simp (config := { maxSteps := 1000000 }) only [go_sem, d12, appendA_U]
    have k13 : E3 13 = vecI P := by rw [hE3]; simp (config := { maxSteps := 1000000 }) only [go_sem, d13, appendA_U]
    have k14 : E3 14 = .ptr X 0 0 := by rw [hE3]; simp (config := { maxSteps := 1000000 }) only [go_sem, d14, appendA_U]
    have k16 : E3 16 = lin j := by rw [hE3]; simp (config := { maxSteps := 1000000 }) only [go_sem, d16, appendA_U]
    have k17 : E3 17 = w := by rw [hE3]; simp (config := { maxSteps := 1000000 }) only [go_sem, d17, appendA_U]
    have k18 : E3 18 = lin k := by rw [hE3]; simp (config := { maxSteps := 1000000 }) only [go_sem, d18, appendA_U]
    have k19 : E3 19 = lin prior := by rw [hE3]; simp (config := { maxSteps := 1000000 }) only [go_sem, d3, appendA_U]
    have k20 : E3 20 = lin 0 := by rw [hE3]; simp (config := { maxSteps := 1000000 }) only [go_sem, appendA_U]
    clear hE3
    refine W.loop0 39614081247908796759918772224 (by kernel_rfl) (fun ρ Hz => Hz = Hy ∧ ∃ i : Nat, ρ 20 = lin i ∧ i ≤ xs.length ∧ ρ 19 = lin (prior + (cntF cs P v (xs.take i) ((j : Int) * c + k) : Int))) (fun ρ Hz => xs.length - (iv (ρ 20)).toNat) ?_ ?_
    · exact ⟨rfl, 0, k20, by omega, k19.trans (by simp [cntF])⟩
    rintro ρ2 Hz ⟨hHz, i, h20, hi, h19⟩
    rw [hHz]
    clear hHz
    refine W.env fun E4 hE4 => ?_
    have m2 : E4 2 = lin grain := by rw [hE4]; simp (config := { maxSteps := 1000000 }) only [go_sem, k2, appendA_U]
    have m4 : E4 4 = lin least := by rw [hE4]; simp (config := { maxSteps := 1000000 }) only [go_sem, k4, appendA_U]
    have m5 : E4 5 = .ptr D 0 0 := by rw [hE4]; simp (config := { maxSteps := 1000000 }) only [go_sem, k5, appendA_U]
    have m12 : E4 12 = lin v := by rw [hE4]; simp (config := { maxSteps := 1000000 }) only [go_sem, k12, appendA_U]
    have m13 : E4 13 = vecI P := by rw [hE4]; simp (config := { maxSteps := 1000000 }) only [go_sem, k13, appendA_U]
    have m14 : E4 14 = .ptr X 0 0 := by rw [hE4]; simp (config := { maxSteps := 1000000 }) only [go_sem, k14, appendA_U]
    have m16 : E4 16 = lin j := by rw [hE4]; simp (config := { maxSteps := 1000000 }) only [go_sem, k16, appendA_U]
    have m17 : E4 17 = w := by rw [hE4]; simp (config := { maxSteps := 1000000 }) only [go_sem, k17, appendA_U]
    have m18 : E4 18 = lin k := by rw [hE4]; simp (config := { maxSteps := 1000000 }) only [go_sem, k18, appendA_U]
    have m19 : E4 19 = lin (prior + (cntF cs P v (xs.take i) ((j : Int) * c + k) : Int)) := by rw [hE4]; simp (config := { maxSteps := 1000000 }) only [go_sem, h19, appendA_U]
    have m20 : E4 20 = lin i := by rw [hE4]; simp (config := { maxSteps := 1000000 }) only [go_sem, h20, appendA_U]
    clear hE4
    have ct := cntF_le cs P v (xs.take i) ((j : Int) * c + k)
    rw [List.length_take] at ct
    by_cases hb2 : (i : Int) < xs.length
    rotate_left
    · refine vc_sound _ _ _ (by rfl) ?_
      simp (config := { maxSteps := 1000000 }) only [go_sem, m5, m20, lDy, vecV, hb2, appendA_U]
      obtain rfl : i = xs.length := by omega
      rw [List.take_of_length_le (Nat.le_refl _)] at m19
      have tk := Tg k (by omega)
      have wo := ho.one
      have wcl := ho.cells
      obtain ⟨w', Ha, hA, hOa, hna, hpa⟩ := app_oneG (P := Tryd.prog) (t := 22) (x := lin (prior + (cntF cs P v xs ((j : Int) * c + k) : Int))) (n := Hy.next + 1) Tryd.underlying22 Tryd.cells3 Tryd.zero3 rfl (by rw [Tryd.bytes3, ints_length, List.length_take]; omega) ho ov.next rfl
      simp only [lin] at hA
      have wo2 := hOa.one
      have wc2 := hOa.cells
      have u1 := IntWalk.i64_in ((k : Int) + 1) (by omega)
      refine vc_sound _ _ _ (by rfl) ?_
      simp (config := { maxSteps := 1000000 }) only [go_sem, m17, m19, wo, wcl, hA, wo2, wc2]
      refine vc_sound _ _ _ (by rfl) ?_
      simp (config := { maxSteps := 1000000 }) only [go_sem, m18, u1, appendA_U]
      have er : ints (T.take k) ++ [lin (prior + (cntF cs P v xs ((j : Int) * c + k) : Int))] = ints (T.take (k + 1)) := by rw [take_succ_get tk]; unfold ints; rw [List.map_append]; rfl
      rw [er] at hOa
      exact ⟨by omega, ⟨⟨by omega, fun id hid => (hpa id (by omega) (OwnG.neF ho hid)).trans (ov.old id hid)⟩, k + 1, rfl, by omega, hOa⟩, by rw [h18]; simp only [lin, iv_int]; omega⟩
    obtain ⟨r, hr⟩ := get_of_lt (l := xs) (i := i) (by omega)
    have hrm := List.mem_of_getElem? hr
    have hrow := hd.row r hrm
    have hr' := vecV_get hr
    have hrn := ne_of_get hr'
    have hvr : v < r.length := by rw [hrow.1]; omega
    obtain ⟨b, hbv⟩ := get_of_lt hvr
    have hbn := ne_of_get hbv
    have hvr' : (v : Int) < r.length := by omega
    have hbr := hrow.2 v c b hcv hbv
    have w1 := IntWalk.i64_in ((i : Int) + 1) (by omega)
    have w2 := IntWalk.i64_in (prior + (cntF cs P v (xs.take i) ((j : Int) * c + k) : Int) + 1) (by omega)
    have hkey := key_match (P := P) (r := r) (j := j) hcv hbv hbr hb
    refine W.seq (vc_sound _ _ _ (by rfl) ?_)
    simp (config := { maxSteps := 1000000 }) only [go_sem, m5, m20, lDy, vecV, hb2, appendA_U]
    refine W.seq (W.block ?_)
    refine W.seq ?_
    refine W.draw 21 [0, 1, 0, 7, 15, 0, 63, 127, 0, 511, 1023, 2047, 4095, 2047, 2047, 18431, 2047, 116735, 247807, 524287, 2047] Tryd.mixed (by kernel_rfl) (by kernel_rfl) ?_
    obtain ⟨ix, hix⟩ : ∃ ix, ix = (if parOk P r = true then rowI cs P r else -1) := ⟨_, rfl⟩
    rw [← hix] at hkey
    have skip : ¬ (b = (k : Int) ∧ ix = j) → cntF cs P v (xs.take (i + 1)) ((j : Int) * c + k) = cntF cs P v (xs.take i) ((j : Int) * c + k) := fun h => by
      rw [cntF_succ hr, if_neg (fun e => h (hkey.1 e))]; rfl
    by_cases hbk : b = (k : Int)
    · simp (config := { maxSteps := 1000000 }) only [go_sem, m5, m12, m13, m16, m18, m20, lDy, vecV, hb2, hr', hrn, hbv, hbn, hvr', hbk, appendA_U]
      refine ⟨lin ix, [], PCall.pure (fun H2 => index25_spec hpar hrow H2 _ ⟨by rw [hix], rfl⟩), ?_⟩
      by_cases hij : ix = (j : Int)
      · simp (config := { maxSteps := 1000000 }) only [go_sem, hij, appendA_U]
        refine vc_sound _ _ _ (by rfl) ?_
        simp (config := { maxSteps := 1000000 }) only [go_sem, m19, w2, appendA_U]
        refine vc_sound _ _ _ (by rfl) ?_
        simp (config := { maxSteps := 1000000 }) only [go_sem, m20, w1, appendA_U]
        exact ⟨⟨i + 1, rfl, by omega, by rw [cntF_succ hr, if_pos (hkey.2 ⟨hbk, hij⟩)]; push_cast; rw [Int.add_assoc]⟩, by rw [h20]; simp only [lin, iv_int]; omega⟩
      · simp (config := { maxSteps := 1000000 }) only [go_sem, hij, appendA_U]
        refine vc_sound _ _ _ (by rfl) ?_
        simp (config := { maxSteps := 1000000 }) only [go_sem, appendA_U]
        refine vc_sound _ _ _ (by rfl) ?_
        simp (config := { maxSteps := 1000000 }) only [go_sem, m19, m20, w1, appendA_U]
        exact ⟨⟨i + 1, rfl, by omega, by rw [skip fun h => hij h.2]⟩, by rw [h20]; simp only [lin, iv_int]; omega⟩
    · simp (config := { maxSteps := 1000000 }) only [go_sem, m5, m12, m13, m16, m18, m20, lDy, vecV, hb2, hr', hrn, hbv, hbn, hvr', hbk, appendA_U]
      refine vc_sound _ _ _ (by rfl) ?_
      simp (config := { maxSteps := 1000000 }) only [go_sem, appendA_U]
      refine vc_sound _ _ _ (by rfl) ?_
      simp (config := { maxSteps := 1000000 }) only [go_sem, m19, m20, w1, appendA_U]
      exact ⟨⟨i + 1, rfl, by omega, by rw [skip fun h => hbk h.1]⟩, by rw [h20]; simp only [lin, iv_int]; omega⟩
  · rintro e ⟨ρ2, Hb⟩ ⟨rfl, q2, q4, q14, q16, qov, qO⟩
    simp only at q2 q4 q14 q16 qov qO
    refine ⟨_, WeakS.cutE G0_ok (s := ⟨ρ2, Hb⟩) (n := Hw.next) (t0 := 17) (v' := vecI T) (qO.fzI fun i h => h), Nat.le_refl _, trivial, ?_⟩
    have gXb := (cut_get (H := Hb) hXl2).trans ((qov.old X (by omega)).trans gX)
    obtain ⟨Hd, hHd⟩ : ∃ Hd, Hd = Hb.cut Hw.next := ⟨_, rfl⟩
    have nd : Hd.next = Hb.next := by rw [hHd]; rfl
    have od : ∀ id, id < Hw.next → Hd.get id = Hw.get id := fun id h => by rw [hHd, cut_get h]; exact qov.old id h
    have qn := qov.next
    have gXd := (od X hXl2).trans gX
    have lX := get_live gXd
    have hOd : OwnG lo Hd 22 rv (rows.map vecI) := hO.keep (Nat.le_refl _) (by omega) fun id _ h1 h2 _ _ => od id h2
    obtain ⟨ρ3, hρ3⟩ : ∃ ρ3 : Nat → AVal, ρ3 = fun t => if t = 17 then vecI T else ρ2 t := ⟨_, rfl⟩
    have r2 : ρ3 2 = lin grain := by rw [hρ3]; exact q2
    have r4 : ρ3 4 = lin least := by rw [hρ3]; exact q4
    have r14 : ρ3 14 = .ptr X 0 0 := by rw [hρ3]; exact q14
    have r16 : ρ3 16 = lin j := by rw [hρ3]; exact q16
    have r17 : ρ3 17 = vecI T := by rw [hρ3]; exact if_pos rfl
    show W Tryd.prog G0 115 none _ Q ⟨fun t => if t = 17 then vecI T else ρ2 t, Hb.cut Hw.next⟩
    rw [← hρ3, ← hHd]
    clear hρ3 hHd
    have lcc := lc c (List.mem_of_getElem? hcv)
    obtain ⟨s, hs⟩ := share_ex least (spareOf grain least T) (c := T) (by omega)
    have rvo := hO.one
    have rvc := hO.cells
    obtain ⟨rv', He, hAe, hOe, hne, hpe⟩ := app_rowG (vecI s) rfl hOd (by omega) (by rw [List.length_map]; omega)
    simp only [vecI] at hAe
    have rvo2 := hOe.one
    have rvc2 := hOe.cells
    have lXe := get_live ((hpe X (by omega) (OwnG.neF hOd hXl)).trans gXd)
    have lXx : ∀ L, (ext Hd L).live X 0 = _ := fun L => (ext_live_old (by omega)).trans lX
    refine W.draw 7 [0, 1, 0, 0, 0, 28, 60] Tryd.mixed (by kernel_rfl) (by kernel_rfl) ?_
    simp (config := { maxSteps := 1000000 }) only [go_sem, r2, r4, r14, r17, lX, rvo, rvc]
    refine ⟨vecI s, [], PCall.pure (fun H2 => round26_spec Tl (by omega) (by omega) (fun x hx => by have := Tr x hx; omega) (by omega) (by omega) (by rw [hcn']; omega) H2 _ fun s' hs' => ⟨by rw [hs'.unique hs], rfl⟩), ?_⟩
    simp (config := { maxSteps := 1000000 }) only [go_sem, r14, rvo2, rvc2, hAe, lXe]
    repeat (refine And.intro (by first | omega | (simp; done) | (simp; omega) | (intros; omega) | exact ⟨rfl, by omega, by omega, all_one_ints _⟩) ?_)
    refine hQ _ _ rv' s (by simp (config := { maxSteps := 1000000 }) only [go_sem, r16, appendA_U]) hs (by rw [upd_next]; omega) (fun id h1 h2 => by rw [upd_get, if_neg h2, hpe id (by omega) (OwnG.neF hOd h1)]; exact od id (by omega)) (by rw [upd_get, if_pos rfl]; rfl) ?_
    rw [List.map_append]
    exact hOe.keep (Nat.le_refl _) (by rw [upd_next]; exact Nat.le_refl _) fun id g h1 _ _ _ => by rw [upd_get, if_neg (by omega)]
theorem field_fac (x y z : AVal) : fieldVA Tryd.prog 124 2 (.agg [x, y, z]) = some z := by
  have hp : partA Tryd.prog 22 [x, y, z] 2 = some z := by rw [partA_U, Tryd.underlying22]; rfl
  unfold fieldVA
  rw [Tryd.field124_2]
  exact hp
theorem OwnZ.fzN {S : Nat → Prop} {lo nx : Nat} {H : AHeap} {v : AVal} {ns : List NodeP} (h : OwnZ lo H 91 3 v ns.length (nodesC ns)) (hS : ∀ i, lo ≤ i → S i) : Fz S H nx v (nodesV ns) := by
  rcases h with ⟨rfl, h0, _⟩ | ⟨id, g, h1, _, rfl, h4, h5⟩
  · obtain rfl := List.length_eq_zero_iff.1 h0
    exact .nil
  · refine .frz (hS id h1) h5 (by rw [nodesC_len]) fun j hj h2 h' => ?_
    have hm : ∀ q ∈ nodesC ns, Fz S H nx q q := fun q hq => fitC_fz (n := ns.length) (ns := ns) q (by rw [fitC_all]; exact hq) S H nx
    simpa only [Nat.zero_add] using hm _ (List.getElem_mem h')

set_option maxHeartbeats 8000000 in
theorem fit26_spec (cs : List Int) (xs : List (List Int)) (hd : DataOk cs xs) (ps : List Nat) (hg : GraphOk ps cs.length) (grain prior least : Int) (hw : WantOk cs grain prior least) (H : AHeap) (K : ARes → AHeap → Prop)
    (hK : ∀ ns, FitK cs xs ps grain prior least ps.length ns → K (.ret (netV grain ns)) H) :
    ACall Tryd.prog G0 23 [dataV cs xs, vecB ps, lin grain, lin prior, lin least] H K := by
  refine ACall.clo ⟨_, Tryd.func23, rfl, rfl⟩ fun hcl => ?_
  have c6 := hd.c1
  obtain ⟨hpl, hpb, _⟩ := hg
  refine ACall.of_bodyW (n := 115) (rs := [.cell 10 61]) Tryd.func23 rfl rfl rfl (by decide) (by simp) ?_
  refine W.seq (vc_sound _ _ _ (by rfl) ?_)
  simp (config := { maxSteps := 1000000 }) only [go_sem, dataV, vecV, appendA_U]
  refine W.seq (vc_sound _ _ _ (by rfl) ?_)
  simp (config := { maxSteps := 1000000 }) only [go_sem, appendA_U]
  refine W.seq (vc_sound _ _ _ (by rfl) ?_)
  simp (config := { maxSteps := 1000000 }) only [go_sem, appendA_U]
  obtain ⟨H1, hH1⟩ : ∃ H1, H1 = ext H [.arr 0 50 [vecI cs, vecV xs], .arr 0 61 [.lit (.int .i64 0), .lit (.slice none 0 0)], .arr 0 61 [.lit (.int .i64 grain), .lit (.slice none 0 0)]] := ⟨_, rfl⟩
  have b0 : H1.get H.next = some (.arr 0 50 [vecI cs, vecV xs]) := by rw [hH1]; exact get_ext0 ..
  have b1 : H1.get (H.next + 1) = some (.arr 0 61 [.lit (.int .i64 0), .lit (.slice none 0 0)]) := by rw [hH1]; exact get_ext H _ 1 (by simp)
  have b2 : H1.get (H.next + 2) = some (.arr 0 61 [.lit (.int .i64 grain), .lit (.slice none 0 0)]) := by rw [hH1]; exact get_ext H _ 2 (by simp)
  have n1 : H1.next = H.next + 3 := by rw [hH1]; rfl
  have o1 : Over H H1 := by rw [hH1]; exact .ext _ _
  refine W.env fun E hE => ?_
  have e1 : E 1 = vecB ps := by rw [hE]; simp (config := { maxSteps := 1000000 }) only [go_sem, appendA_U]
  have e2 : E 2 = lin grain := by rw [hE]; simp (config := { maxSteps := 1000000 }) only [go_sem, appendA_U]
  have e3 : E 3 = lin prior := by rw [hE]; simp (config := { maxSteps := 1000000 }) only [go_sem, appendA_U]
  have e4 : E 4 = lin least := by rw [hE]; simp (config := { maxSteps := 1000000 }) only [go_sem, appendA_U]
  have e5 : E 5 = .ptr H.next 0 0 := by rw [hE]; simp (config := { maxSteps := 1000000 }) only [go_sem, appendA_U]
  have e10 : E 10 = .ptr (H.next + 1) 0 0 := by rw [hE]; simp (config := { maxSteps := 1000000 }) only [go_sem, appendA_U]
  have e11 : E 11 = .ptr (H.next + 2) 0 0 := by rw [hE]; simp (config := { maxSteps := 1000000 }) only [go_sem, appendA_U]
  have e12 : E 12 = lin 0 := by rw [hE]; simp (config := { maxSteps := 1000000 }) only [go_sem, appendA_U]
  clear hE
  show W _ _ _ _ _ _ ⟨E, ext H [.arr 0 50 [vecI cs, vecV xs], .arr 0 61 [.lit (.int .i64 0), .lit (.slice none 0 0)], .arr 0 61 [.lit (.int .i64 grain), .lit (.slice none 0 0)]]⟩
  rw [← hH1]
  clear hH1
  refine W.loop0 20769187434139310514121985310584832 (by kernel_rfl) (fun ρ Hx => ∃ (v : Nat) (nh : AVal) (ns : List NodeP), ρ 12 = lin v ∧ v ≤ ps.length ∧ FitK cs xs ps grain prior least v ns ∧ H1.next ≤ Hx.next ∧ (∀ id, id < H.next + 2 → Hx.get id = H1.get id) ∧ Hx.get (H.next + 2) = some (.arr 0 61 [.lit (.int .i64 grain), nh]) ∧ OwnZ (H.next + 3) Hx 91 3 nh ns.length (nodesC ns)) (fun ρ Hx => ps.length - (iv (ρ 12)).toNat) ?_ ?_
  · exact ⟨0, _, [], e12, by omega, ⟨rfl, fun v s x _ h => by simp at h⟩, Nat.le_refl _, fun _ _ => rfl, b2, .nil⟩
  rintro ρ Hx ⟨v, nh, ns, h12, hv, hfk, hnx, hold, gN, hO⟩
  refine W.env fun E1 hE1 => ?_
  have f1 : E1 1 = vecB ps := by rw [hE1]; simp (config := { maxSteps := 1000000 }) only [go_sem, e1, appendA_U]
  have f2 : E1 2 = lin grain := by rw [hE1]; simp (config := { maxSteps := 1000000 }) only [go_sem, e2, appendA_U]
  have f3 : E1 3 = lin prior := by rw [hE1]; simp (config := { maxSteps := 1000000 }) only [go_sem, e3, appendA_U]
  have f4 : E1 4 = lin least := by rw [hE1]; simp (config := { maxSteps := 1000000 }) only [go_sem, e4, appendA_U]
  have f5 : E1 5 = .ptr H.next 0 0 := by rw [hE1]; simp (config := { maxSteps := 1000000 }) only [go_sem, e5, appendA_U]
  have f10 : E1 10 = .ptr (H.next + 1) 0 0 := by rw [hE1]; simp (config := { maxSteps := 1000000 }) only [go_sem, e10, appendA_U]
  have f11 : E1 11 = .ptr (H.next + 2) 0 0 := by rw [hE1]; simp (config := { maxSteps := 1000000 }) only [go_sem, e11, appendA_U]
  have f12 : E1 12 = lin v := by rw [hE1]; simp (config := { maxSteps := 1000000 }) only [go_sem, h12, appendA_U]
  clear hE1
  have nho := hO.one
  have nhc := hO.cells
  have lN := get_live gN
  have lR := get_live ((hold _ (by omega)).trans b1)
  have gD := (hold H.next (by omega)).trans b0
  have lD := get_live gD
  by_cases hb : (v : Int) < ps.length
  rotate_left
  · refine vc_sound _ _ _ (by rfl) ?_
    simp (config := { maxSteps := 1000000 }) only [go_sem, f1, f12, hb, appendA_U]
    refine vc_sound _ _ _ (by rfl) ?_
    simp (config := { maxSteps := 1000000 }) only [go_sem, f10, f11, lN, lR, nho, nhc, appendA_U]
    obtain rfl : v = ps.length := by omega
    refine FinV.dropO G0_ok hcl ⟨by rw [upd_next]; omega, fun id h => ?_⟩ (v' := netV grain ns) (.agg rfl fun i hi _ => ?_) (hK ns hfk)
    · rw [upd_get, if_neg (by omega), hold id (by omega)]
      exact o1.old id h
    · match i, hi with
      | 0, _ => exact .lit _
      | 1, _ => exact OwnZ.fzN (lo := H.next + 3) (hO.keep (by rw [upd_next]; exact Nat.le_refl _) fun id g h1 h2 h3 => by rw [upd_get, if_neg (by omega)]) fun i h => by show H.next ≤ i; omega
  obtain ⟨s, hs⟩ := get_of_lt (l := ps) (i := v) (by omega)
  have hsn := ne_of_get hs
  have hs6 := hpb s (List.mem_of_getElem? hs)
  have hs8 : s < 256 := Nat.lt_of_lt_of_le hs6 (Nat.le_trans (Nat.pow_le_pow_right (by decide) c6.2) (by decide))
  obtain ⟨P, hP⟩ : ∃ P, P = parsL ps.length s := ⟨_, rfl⟩
  have hpar : ParIn cs P := ⟨fun p hp => by rw [hP] at hp; have := parsL_rng p hp; omega, by rw [hP]; have := parsL_len ps.length s; omega, hd.card⟩
  obtain ⟨c, hcv⟩ := get_of_lt (l := cs) (i := v) (by omega)
  have hcn := ne_of_get hcv
  have hvc : (v : Int) < cs.length := by omega
  have hcd := getD_of_get (d := 0) hcv
  refine W.seq (vc_sound _ _ _ (by rfl) ?_)
  simp (config := { maxSteps := 1000000 }) only [go_sem, f1, f12, hb, appendA_U]
  refine W.seq (W.block ?_)
  refine W.seq (vc_sound _ _ _ (by rfl) ?_)
  simp (config := { maxSteps := 1000000 }) only [go_sem, f1, f12, hb, hs, hsn, appendA_U]
  refine AApply.clo (list26_spec ps.length s (by omega) hs8 _ _ ⟨trivial, ?_⟩)
  rw [← hP]
  simp (config := { maxSteps := 1000000 }) only [go_sem, appendA_U]
  refine W.seq (vc_sound _ _ _ (by rfl) ?_)
  simp (config := { maxSteps := 1000000 }) only [go_sem, f5, f12, lD, hcv, hcn, hvc, appendA_U]
  obtain ⟨H2, hH2⟩ : ∃ H2, H2 = ext Hx [.arr 0 91 [.lit (.int .i64 c), .vec P.length (ints P), .lit (.slice none 0 0)]] := ⟨_, rfl⟩
  have n2 : H2.next = Hx.next + 1 := by rw [hH2]; rfl
  have o2 : Over Hx H2 := by rw [hH2]; exact .ext _ _
  have gX : H2.get Hx.next = some (.arr 0 91 [.lit (.int .i64 c), .vec P.length (ints P), .lit (.slice none 0 0)]) := by rw [hH2]; exact ext1_get_new
  have lD2 := get_live ((o2.old H.next (by omega)).trans gD)
  rw [← hH2]
  clear hH2
  refine W.seq (vc_sound _ _ _ (by rfl) ?_)
  simp (config := { maxSteps := 1000000 }) only [go_sem, f5, lD2, appendA_U]
  refine AApply.clo (count25_spec hpar hd H2 _ fun Wt hWl => ⟨trivial, ?_⟩)
  simp (config := { maxSteps := 1000000 }) only [go_sem, field_fac, appendA_U]
  refine W.env fun E2 hE2 => ?_
  have a1 : E2 1 = vecB ps := by rw [hE2]; simp (config := { maxSteps := 1000000 }) only [go_sem, f1, appendA_U]
  have a2 : E2 2 = lin grain := by rw [hE2]; simp (config := { maxSteps := 1000000 }) only [go_sem, f2, appendA_U]
  have a3 : E2 3 = lin prior := by rw [hE2]; simp (config := { maxSteps := 1000000 }) only [go_sem, f3, appendA_U]
  have a4 : E2 4 = lin least := by rw [hE2]; simp (config := { maxSteps := 1000000 }) only [go_sem, f4, appendA_U]
  have a5 : E2 5 = .ptr H.next 0 0 := by rw [hE2]; simp (config := { maxSteps := 1000000 }) only [go_sem, f5, appendA_U]
  have a11 : E2 11 = .ptr (H.next + 2) 0 0 := by rw [hE2]; simp (config := { maxSteps := 1000000 }) only [go_sem, f11, appendA_U]
  have a12 : E2 12 = lin v := by rw [hE2]; simp (config := { maxSteps := 1000000 }) only [go_sem, f12, appendA_U]
  have a13 : E2 13 = vecI P := by rw [hE2]; simp (config := { maxSteps := 1000000 }) only [go_sem, appendA_U]
  have a14 : E2 14 = .ptr Hx.next 0 0 := by rw [hE2]; simp (config := { maxSteps := 1000000 }) only [go_sem, appendA_U]
  have a15 : E2 15 = lin Wt.length := by rw [hE2]; simp (config := { maxSteps := 1000000 }) only [go_sem, appendA_U]
  clear hE2
  have hRb := hpar.prod (atL cs P).length
  rw [List.take_of_length_le (Nat.le_refl _), ← hWl] at hRb
  obtain ⟨R, hR⟩ : ∃ R, R = Wt.length := ⟨_, rfl⟩
  rw [← hR] at a15 hRb hWl
  refine W.seq (W.postWeak (Q' := fun e s2 => e = .normal ∧ s2.ρ 11 = .ptr (H.next + 2) 0 0 ∧ s2.ρ 12 = lin v ∧ s2.ρ 14 = .ptr Hx.next 0 0 ∧ H2.next ≤ s2.H.next ∧ (∀ id, id < H2.next → id ≠ Hx.next → s2.H.get id = H2.get id) ∧ ∃ (rv : AVal) (rows : List (List Int)), s2.H.get Hx.next = some (.arr 0 91 [lin c, vecI P, rv]) ∧ OwnG H2.next s2.H 22 rv (rows.map vecI) ∧ rows.length = R ∧ ∀ (i : Nat) (r : List Int), rows[i]? = some r → ShareOk least (spareOf grain least (cntsL cs P v xs prior i)) (cntsL cs P v xs prior i) r) ?_ ?_)
  · refine W.seq (vc_sound _ _ _ (by rfl) ?_)
    simp (config := { maxSteps := 1000000 }) only [go_sem, appendA_U]
    refine W.block ?_
    refine W.loop0 324518553658426726501681045897216 (by kernel_rfl) (fun ρ Hy => ∃ (j : Nat) (rv : AVal) (rows : List (List Int)), ρ 16 = lin j ∧ j ≤ R ∧ H2.next ≤ Hy.next ∧ (∀ id, id < H2.next → id ≠ Hx.next → Hy.get id = H2.get id) ∧ Hy.get Hx.next = some (.arr 0 91 [lin c, vecI P, rv]) ∧ OwnG H2.next Hy 22 rv (rows.map vecI) ∧ rows.length = j ∧ ∀ (i : Nat) (r : List Int), rows[i]? = some r → ShareOk least (spareOf grain least (cntsL cs P v xs prior i)) (cntsL cs P v xs prior i) r) (fun ρ Hy => R - (iv (ρ 16)).toNat) ?_ ?_
    · simp (config := { maxSteps := 1000000 }) only [go_sem, appendA_U]
      exact ⟨0, _, [], rfl, by omega, gX, .nil, rfl, fun i r h => by simp at h⟩
    rintro ρ2 Hy ⟨j, rv, rows, h16, hj, hny, holdy, gy, hOy, hrl, hrow⟩
    refine W.env fun E3 hE3 => ?_
    have d2 : E3 2 = lin grain := by rw [hE3]; simp (config := { maxSteps := 1000000 }) only [go_sem, a2, appendA_U]
    have d3 : E3 3 = lin prior := by rw [hE3]; simp (config := { maxSteps := 1000000 }) only [go_sem, a3, appendA_U]
    have d4 : E3 4 = lin least := by rw [hE3]; simp (config := { maxSteps := 1000000 }) only [go_sem, a4, appendA_U]
    have d5 : E3 5 = .ptr H.next 0 0 := by rw [hE3]; simp (config := { maxSteps := 1000000 }) only [go_sem, a5, appendA_U]
    have d11 : E3 11 = .ptr (H.next + 2) 0 0 := by rw [hE3]; simp (config := { maxSteps := 1000000 }) only [go_sem, a11, appendA_U]
    have d12 : E3 12 = lin v := by rw [hE3]; simp (config := { maxSteps := 1000000 }) only [go_sem, a12, appendA_U]
    have d13 : E3 13 = vecI P := by rw [hE3]; simp (config := { maxSteps := 1000000 }) only [go_sem, a13, appendA_U]
    have d14 : E3 14 = .ptr Hx.next 0 0 := by rw [hE3]; simp (config := { maxSteps := 1000000 }) only [go_sem, a14, appendA_U]
    have d15 : E3 15 = lin R := by rw [hE3]; simp (config := { maxSteps := 1000000 }) only [go_sem, a15, appendA_U]
    have d16 : E3 16 = lin j := by rw [hE3]; simp (config := { maxSteps := 1000000 }) only [go_sem, h16, appendA_U]
    clear hE3
    by_cases hb2 : (j : Int) < R
    rotate_left
    · refine vc_sound _ _ _ (by rfl) ?_
      simp (config := { maxSteps := 1000000 }) only [go_sem, d15, d16, hb2, appendA_U]
      exact ⟨d11, d12, d14, hny, holdy, rv, rows, gy, hOy, by omega, hrow⟩
    have w1 := IntWalk.i64_in ((j : Int) + 1) (by omega)
    refine W.seq (vc_sound _ _ _ (by rfl) ?_)
    simp (config := { maxSteps := 1000000 }) only [go_sem, d15, d16, hb2, appendA_U]
    refine W.seq (W.block ?_)
    refine fit26_row (j := j) hpar hd hw hcv (D := H.next) (X := Hx.next) (lo := H2.next) ((holdy _ (by omega) (by omega)).trans ((o2.old _ (by omega)).trans gD)) gy hOy (by omega) (by omega) (by omega) hny (by simp (config := { maxSteps := 1000000 }) only [go_sem, d2, appendA_U]) (by simp (config := { maxSteps := 1000000 }) only [go_sem, d3, appendA_U]) (by simp (config := { maxSteps := 1000000 }) only [go_sem, d4, appendA_U]) (by simp (config := { maxSteps := 1000000 }) only [go_sem, d5, appendA_U]) (by simp (config := { maxSteps := 1000000 }) only [go_sem, d12, appendA_U]) (by simp (config := { maxSteps := 1000000 }) only [go_sem, d13, appendA_U]) (by simp (config := { maxSteps := 1000000 }) only [go_sem, d14, appendA_U]) (by simp (config := { maxSteps := 1000000 }) only [go_sem, d16, appendA_U]) (fun ρ' H' rv' s h16' hS hn' hold' gX' hO' => ?_) _ (by kernel_rfl)
    refine vc_sound _ _ _ (by rfl) ?_
    simp (config := { maxSteps := 1000000 }) only [go_sem, h16', w1, appendA_U]
    refine ⟨by omega, ⟨j + 1, rv', rows ++ [s], rfl, by omega, by omega, fun id h1 h2 => (hold' id h1 h2).trans (holdy id h1 h2), gX', hO', by simp [hrl], fun i r hr => ?_⟩, by rw [h16]; simp only [lin, iv_int]; omega⟩
    rcases Nat.lt_or_ge i rows.length with h | h
    · rw [List.getElem?_append_left h] at hr
      exact hrow i r hr
    · have := get_lt hr
      rw [List.length_append, List.length_singleton] at this
      obtain rfl : i = j := by omega
      rw [List.getElem?_append_right h, hrl, Nat.sub_self] at hr
      cases hr
      exact hS
  · rintro e ⟨ρ2, Hb⟩ ⟨rfl, q11, q12, q14, qn, qold, rv, rows, qX, qO, qrl, qrow⟩
    simp only at q11 q12 q14 qn qold qX qO
    refine ⟨⟨ρ2, Hb.meltN H2.next Hx.next (.arr 0 91 [lin c, vecI P, vecV rows])⟩, WeakS.meltN G0_ok qX (by omega) rfl (fun i hi _ => ?_), Nat.le_refl _, trivial, ?_⟩
    · match i, hi with
      | 0, _ => exact .lit _
      | 1, _ => exact .keepInts _
      | 2, _ => exact OwnG.fzRows qO fun i h => h
    obtain ⟨Hm, hHm⟩ : ∃ Hm, Hm = Hb.meltN H2.next Hx.next (.arr 0 91 [lin c, vecI P, vecV rows]) := ⟨_, rfl⟩
    have nm : Hm.next = Hb.next := by rw [hHm]; rfl
    have gm : Hm.get Hx.next = some (.arr 0 91 [lin c, vecI P, vecV rows]) := by rw [hHm]; exact meltN_ob (by omega)
    have om : ∀ id, id < Hx.next → Hm.get id = Hx.get id := fun id h => by rw [hHm, meltN_other (by omega) (by omega), qold id (by omega) (by omega)]; exact o2.old id h
    rw [← hHm]
    clear hHm
    show W Tryd.prog G0 115 none _ _ ⟨ρ2, Hm⟩
    have hOm : OwnZ (H.next + 3) Hm 91 3 nh ns.length (nodesC ns) := hO.keep (by omega) fun id g h1 h2 h3 => om id h2
    have hns : ns.length = v := hfk.1
    obtain ⟨nh', Hf, hA, hOf, hnf, hpf⟩ := app_oneZ (P := Tryd.prog) (H := Hm) (t := 59) (z := 3) (xs := [lin c, vecI P, vecV rows]) (m := Hm.next + 1) Tryd.underlying59 Tryd.cells91 Tryd.zero91 rfl rfl (by rw [Tryd.bytes91]; omega) hOm (by omega) rfl
    simp only [lin, vecI, vecV] at hA
    have lm := get_live gm
    have lNm := get_live ((om (H.next + 2) (by omega)).trans gN)
    have lNf := get_live ((hpf (H.next + 2) (by omega) (hOm.ne (by omega))).trans ((om (H.next + 2) (by omega)).trans gN))
    have nfo := hOf.one
    have nfc := hOf.cells
    have w1 := IntWalk.i64_in ((v : Int) + 1) (by omega)
    refine vc_sound _ _ _ (by rfl) ?_
    simp (config := { maxSteps := 1000000 }) only [go_sem, q11, q14, lNm, lm, nho, nhc, vecV, hA, lNf, nfo, nfc]
    refine vc_sound _ _ _ (by rfl) ?_
    simp (config := { maxSteps := 1000000 }) only [go_sem, q12, w1, appendA_U]
    refine ⟨by rw [upd_next]; omega, ⟨v + 1, nh', ns ++ [⟨c, P, rows⟩], rfl, by omega, hfk.snoc hs ⟨by rw [hcd], hP, by rw [← hP]; show (rows.length : Int) = _; rw [qrl, hWl], fun j r hr => by rw [← hP]; exact qrow j r hr⟩, by rw [upd_next]; omega, fun id h => by rw [upd_get, if_neg (by omega), hpf id (by omega) (hOm.ne (by omega)), om id (by omega)]; exact hold id h, by rw [upd_get, if_pos rfl], ?_⟩, by rw [h12]; simp only [lin, iv_int]; omega⟩
    have e1 : nodesC (ns ++ [⟨c, P, rows⟩]) = nodesC ns ++ [lin c, vecI P, vecV rows] := by unfold nodesC; simp [NodeP.cells]
    rw [e1, List.length_append, List.length_singleton]
    exact hOf.keep (by rw [upd_next]; exact Nat.le_refl _) fun id g h1 h2 h3 => by rw [upd_get, if_neg (by omega)]
end Go.Proofs
