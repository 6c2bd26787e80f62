/- Own work: contracts. -/
import Derived.Test.YtikgmgmphkalkaaDoorConI
import Derived.Test.YtikgmgmphkalkaaDoorConB
import Derived.Test.YtikgmgmphkalkaaDoorLibC
import Derived.Test.YtikgmgmphkalkaaDoorConG
import Derived.Test.YtikgmgmphkalkaaDoorLibE
import Derived.Test.YtikgmgmphkalkaaDoorConC
import Derived.Test.YtikgmgmphkalkaaDoorConE
set_option linter.all false
set_option maxRecDepth 100000
namespace Go.Proofs
open Go.Hx
theorem min_spec (l : List Int) (h0 : l ≠ []) (hl : (l.length : Int) < 2 ^ 62) (H : AHeap) (K : ARes → AHeap → Prop) (hK : K (.ret (lin (minL l))) H) : ACall Tryd.prog G0 42 [vecI l] H K := by
  have hpos : 0 < l.length := List.length_pos_iff.2 h0
  obtain ⟨a, ha⟩ := get_of_lt hpos
  have h1 : ¬ ((l.length : Int) < 1) := by omega
  have hp1 : (0 : Int) < l.length := by omega
  refine ACall.of_body (n := 25) (rs := [.tmp 2]) Tryd.func42 rfl rfl rfl (by decide) (by kernel_rfl) (by simp) ?_
  simp (config := { maxSteps := 1000000 }) only [go_sem, h1, ha, h0, hp1, appendA_U]
  refine W.loop0 16773144 (by rfl) (fun ρ H' => H' = H ∧ ∃ k : Nat, ρ 4 = lin (k : Int) ∧ 1 ≤ k ∧ k ≤ l.length ∧ ρ 3 = lin (minL (l.take k))) (fun ρ H => l.length - (iv (ρ 4)).toNat) ?_ ?_
  · simp (config := { maxSteps := 1000000 }) only [go_sem, appendA_U]
    refine ⟨1, rfl, Nat.le_refl _, by omega, ?_⟩
    rw [take_succ_get ha, List.take_zero]
    rfl
  rintro ρ H' ⟨rfl, k, h4, hk1, hk, h3⟩
  refine vc_sound _ _ _ (by rfl) ?_
  by_cases hb : (k : Int) < l.length
  · obtain ⟨b, hkb⟩ := get_of_lt (l := l) (i := k) (by omega)
    have hne := ne_of_get hkb
    have w1 := IntWalk.i64_in ((k : Int) + 1) (by omega)
    simp (config := { maxSteps := 1000000 }) only [go_sem, h4, h3, hb, hkb, hne, w1, builtin_min, appendA_U]
    refine ⟨⟨k + 1, by simp, by omega, by omega, ?_⟩, by omega⟩
    rw [take_succ_get hkb, minL_snoc (fun e => by have := congrArg List.length e; rw [List.length_take, Nat.min_eq_left (by omega)] at this; rw [List.length_nil] at this; omega)]
    congr 2
    split <;> omega
  · simp (config := { maxSteps := 1000000 }) only [go_sem, h4, h3, hb, appendA_U]
    rw [List.take_of_length_le (by omega)]
    exact FinV.mk (Nat.le_refl _) hK
theorem eqB_refl (x : List Nat) (hx : (x.length : Int) < 2 ^ 62) (H : AHeap) (K : ARes → AHeap → Prop) (hK : K (.ret (.lit (.bool true))) H) : ACall Tryd.prog G0 40 [vecB x, vecB x] H K := by
  refine ACall.of_body (n := 26) (rs := [.tmp 4]) Tryd.func40 rfl rfl rfl (by decide) (by kernel_rfl) (by simp) ?_
  simp (config := { maxSteps := 1000000 }) only [go_sem, appendA_U]
  refine W.loop0 67100720 (by rfl) (fun ρ H' => H' = H ∧ ∃ k : Nat, ρ 13 = lin k ∧ k ≤ x.length) (fun ρ H => x.length - (iv (ρ 13)).toNat) ?_ ?_
  · simp (config := { maxSteps := 1000000 }) only [go_sem, appendA_U]
    exact ⟨0, rfl, by omega⟩
  rintro ρ H' ⟨rfl, k, h13, hk⟩
  refine vc_sound _ _ _ (by rfl) ?_
  by_cases hb : (k : Int) < x.length
  · obtain ⟨a, ha⟩ := get_of_lt (l := x) (i := k) (by omega)
    have hab : (x.map bitV)[k]? = some (.lit (.int .u64 (a : Int))) := by rw [List.getElem?_map, ha]; rfl
    have hxn := ne_of_get ha
    have hbn := ne_of_get hab
    simp (config := { maxSteps := 1000000 }) only [go_sem, h13, hb, appendA_U]
    refine W.draw 8 [0, 0, 3, 7, 0, 0, 48, 112] Tryd.mixed (by kernel_rfl) (by kernel_rfl) ?_
    simp (config := { maxSteps := 1000000 }) only [go_sem, h13, hb, ha, hxn, hab, hbn, appendA_U]
    rw [IntWalk.i64_in ((k : Int) + 1) (by omega)]
    exact ⟨⟨k + 1, by simp, by omega⟩, by omega⟩
  · simp (config := { maxSteps := 1000000 }) only [go_sem, h13, hb, appendA_U]
    exact FinV.mk (Nat.le_refl _) hK
theorem setAt_rows {l : List (List Int)} {i : Nat} {b : List Int} (h : i < l.length) : setAt (l.map vecI) i [.vec b.length (ints b)] = (l.set i b).map vecI := by
  rw [setAt_one (by simpa using h), List.map_set]; rfl
theorem reverse_own {id g : Nat} {xs : List (List Int)} (hx : xs.length ≤ 64) (H : AHeap) (hg : H.get id = some (.arr g 22 (xs.map vecI))) (K : ARes → AHeap → Prop)
    (hK : ∀ ys : List (List Int), ys.Perm xs → K (.ret (.tup [])) (H.upd id (.arr g 22 (ys.map vecI)))) :
    ACall Tryd.prog G0 39 [.own id g 0 xs.length 1] H K := by
  have lg := get_live hg
  refine ACall.of_bodyW (n := 28) (rs := []) Tryd.func39 rfl rfl rfl (by decide) (by simp) ?_
  refine W.seq (vc_sound _ _ _ (by rfl) ?_)
  have w1 := IntWalk.i64_in ((xs.length : Int) - 1) (by omega)
  simp (config := { maxSteps := 1000000 }) only [go_sem, lg, w1, appendA_U]
  refine W.env fun E hE => ?_
  have e0 : E 0 = .own id g 0 xs.length 1 := by rw [hE]; simp (config := { maxSteps := 1000000 }) only [go_sem, appendA_U]
  have e2 : E 2 = lin 0 := by rw [hE]; simp (config := { maxSteps := 1000000 }) only [go_sem, appendA_U]
  have e3 : E 3 = lin ((xs.length : Int) - 1) := by rw [hE]; simp (config := { maxSteps := 1000000 }) only [go_sem, appendA_U]
  clear hE
  refine W.block ?_
  refine W.loop0 268435340 (by rfl) (fun ρ Hx => ∃ (i : Nat) (k : Int) (l : List (List Int)), ρ 2 = lin i ∧ ρ 3 = lin k ∧ i + k = (xs.length : Int) - 1 ∧ (i : Int) ≤ xs.length ∧ l.Perm xs ∧ Hx = H.upd id (.arr g 22 (l.map vecI))) (fun ρ Hx => (iv (ρ 3) + 1).toNat) ?_ ?_
  · exact ⟨0, _, xs, e2, e3, by omega, by omega, .refl _, (upd_self hg).symm⟩
  rintro ρ Hx ⟨i, k, l, h2, h3, hik, hi, hp, hHx⟩
  have hll := hp.length_eq
  refine W.env fun E1 hE1 => ?_
  have f0 : E1 0 = .own id g 0 xs.length 1 := by rw [hE1]; simp (config := { maxSteps := 1000000 }) only [go_sem, e0, appendA_U]
  have f2 : E1 2 = lin i := by rw [hE1]; simp (config := { maxSteps := 1000000 }) only [go_sem, h2, appendA_U]
  have f3 : E1 3 = lin k := by rw [hE1]; simp (config := { maxSteps := 1000000 }) only [go_sem, h3, appendA_U]
  clear hE1
  have gl : Hx.get id = some (.arr g 22 (l.map vecI)) := by rw [hHx, upd_get, if_pos rfl]
  have ll := get_live gl
  by_cases hb : (i : Int) < k
  rotate_left
  · refine vc_sound _ _ _ (by rfl) ?_
    simp (config := { maxSteps := 1000000 }) only [go_sem, f2, f3, hb, appendA_U]
    rw [hHx]
    exact FinV.mk (by rw [upd_next]; exact Nat.le_refl _) (hK l hp)
  obtain ⟨k, rfl⟩ := Int.eq_ofNat_of_zero_le (show 0 ≤ k by omega)
  obtain ⟨a, ha⟩ := get_of_lt (l := l) (i := i) (by omega)
  obtain ⟨b, hbk⟩ := get_of_lt (l := l) (i := k) (by omega)
  have ha' : (l.map vecI)[i]? = some (.vec a.length (ints a)) := by rw [List.getElem?_map, ha]; rfl
  have hb' : (l.map vecI)[k]? = some (.vec b.length (ints b)) := by rw [List.getElem?_map, hbk]; rfl
  have han := ne_of_get ha'
  have b1 : (i : Int) < xs.length := by omega
  have b2 : (k : Int) < xs.length := by omega
  have ml : (l.map vecI).length = xs.length := by rw [List.length_map, hll]
  have ml2 : ((l.set i b).map vecI).length = xs.length := by rw [List.length_map, List.length_set, hll]
  have w2 := IntWalk.i64_in ((i : Int) + 1) (by omega)
  have w3 := IntWalk.i64_in ((k : Int) - 1) (by omega)
  have st1 := setAt_rows (l := l) (i := i) (b := b) (by omega)
  have st2 := setAt_rows (l := l.set i b) (i := k) (b := a) (by rw [List.length_set]; omega)
  refine W.seq (vc_sound _ _ _ (by rfl) ?_)
  simp (config := { maxSteps := 1000000 }) only [go_sem, f2, f3, hb, appendA_U]
  refine W.seq (W.block ?_)
  refine W.draw 14 [0, 0, 0, 0, 0, 0, 48, 112, 0, 0, 768, 1792, 4083, 8179] Tryd.mixed (by kernel_rfl) (by kernel_rfl) ?_
  simp (config := { maxSteps := 1000000 }) only [go_sem, f0, f2, f3, ll, ml, ml2, b1, b2, ha', hb', han, st1, st2, appendA_U]
  refine ⟨by omega, by omega, ?_⟩
  refine vc_sound _ _ _ (by rfl) ?_
  simp (config := { maxSteps := 1000000 }) only [go_sem, f2, f3, w2, w3, appendA_U]
  refine ⟨by simp only [upd_next]; rw [hHx, upd_next]; exact Nat.le_refl _, ⟨i + 1, (k : Int) - 1, (l.set i b).set k a, rfl, rfl, by push_cast; omega, by push_cast; omega, (swap_perm ha hbk).trans hp, ?_⟩, by rw [h3]; simp only [lin, iv_int]; omega⟩
  rw [hHx, upd_upd, upd_upd]
theorem clone2_ext (t : List (List Int)) (ht : (t.length : Int) < 2 ^ 40) (h0 : 0 < t.length) (H : AHeap) (K : ARes → AHeap → Prop) (hK : K (.ret (.own H.next 1 0 t.length 1)) (ext H [.arr 1 22 (t.map vecI)])) : ACall Tryd.prog G0 38 [vecV t] H K := by
  refine ACall.of_body (n := 8) (rs := [.tmp 2]) Tryd.func38 rfl rfl rfl (by decide) (by kernel_rfl) (by simp) ?_
  simp (config := { maxSteps := 1000000 }) only [go_sem, vecV, appendA_U]
  intro b hlen
  cases b with
  | true => exact absurd (hlen (by simpa using h0)) (by decide)
  | false =>
    have hn : ¬ t.length = 0 := by omega
    simp (config := { maxSteps := 1000000 }) only [go_sem, hn, appendA_U]
    have hall : (t.map vecI).all AVal.one = true := by simp [vecI, AVal.one]
    refine ⟨by simp, ⟨by simp, by omega, by omega, hall⟩, FinV.mk (by simp [ext_next]) ?_⟩
    simpa using hK
theorem fz_data0 (cs : List Int) : ∀ (Hz : AHeap), Fz (fun _ => False) Hz Hz.next (.agg [.vec cs.length (ints cs), .lit (.slice none 0 0)]) (dataV cs []) := fun Hz => by
  refine .agg rfl fun i hi _ => ?_
  match i, hi with
  | 0, _ => exact .keepInts _
  | 1, _ => exact .nil

set_option maxHeartbeats 8000000 in
theorem fair_tail {cs : List Int} {xs ys : List (List Int)} {ps : List Nat} {gr pr le : Int} (hd : DataOk cs xs) (hys : ys.Perm xs) (hg : GraphOk ps cs.length) (hw : WantOk cs gr pr le) (hf : DataFit cs xs) (hfy : DataFit cs ys) {Y Z : Nat} {H Hx : AHeap} (gY : Hx.get Y = some (.arr 0 50 [vecI cs, vecV xs])) (gZ : Hx.get Z = some (.arr 0 50 [vecI cs, vecV ys])) (hY : Y < Hx.next) (hZ : Z < Hx.next) (hHn : H.next ≤ Hx.next)
    (K : ARes → AHeap → Prop) (hK : ∀ H', H.next ≤ H'.next → K (.ret (.lit (.bool true))) H') {E : Nat → AVal} (e7 : E 7 = .ptr Y 0 0) (e8 : E 8 = vecB ps) (e9 : E 9 = lin gr) (e10 : E 10 = lin pr) (e11 : E 11 = lin le) (e12 : E 12 = .ptr Z 0 0)
    (code : Code) (hcode : tailAt 9 (bodyOf Tryd.f8) = some code) : W Tryd.prog G0 168 none code (bodyQ Tryd.prog G0 [.tmp 6] H K) ⟨E, Hx⟩ := by
  simp only [tailAt, bodyOf, Tryd.f8, Option.getD_some, Nat.reduceBEq, Bool.false_eq_true, if_false, if_true, reduceIte] at hcode
  obtain rfl := Option.some.inj hcode
  clear hcode
  have c6 := hd.c1
  have hp64 : ∀ p ∈ ps, p < 2 ^ 64 := fun p hp => Nat.lt_of_lt_of_le (hg.2.1 p hp) (Nat.pow_le_pow_right (by decide) (by omega))
  have hpl : (ps.length : Int) < 2 ^ 39 := by rw [hg.1]; omega
  have lY := get_live gY
  have ef := fitE_ok (xs := xs) (dataB_true hd) ⟨hg, hw⟩
  have efy := fitE_ok (xs := ys) (dataB_true (hd.perm hys)) ⟨hg, hw⟩
  have ef0 := fitE_ok (xs := []) (dataB_true hd.none) ⟨hg, hw⟩
  refine W.seq (vc_sound _ _ _ (by rfl) ?_)
  simp (config := { maxSteps := 1000000 }) only [go_sem, e7, e8, e9, e10, e11, lY, appendA_U]
  refine AApply.clo (fit_spec cs xs hf ps hpl hp64 gr pr le Hx _ fun g1 ns hok _ => ⟨trivial, ?_⟩)
  obtain ⟨rfl, hk1⟩ := hok ef
  rw [ef]
  simp (config := { maxSteps := 1000000 }) only [go_sem, netV, nodesV, appendA_U]
  obtain ⟨B1, hB1⟩ : ∃ B1, B1 = ext Hx [.arr 0 61 [.lit (.int .i64 g1), .vec ns.length (nodesC ns)]] := ⟨_, rfl⟩
  have n1 : B1.next = Hx.next + 1 := by rw [hB1]; rfl
  have o1 : Over Hx B1 := by rw [hB1]; exact .ext _ _
  have gm : B1.get Hx.next = some (.arr 0 61 [.lit (.int .i64 g1), .vec ns.length (nodesC ns)]) := by rw [hB1]; exact ext1_get_new
  have lZ := get_live ((o1.old Z hZ).trans gZ)
  refine W.env fun E1 hE1 => ?_
  have f7 : E1 7 = .ptr Y 0 0 := by rw [hE1]; simp (config := { maxSteps := 1000000 }) only [go_sem, e7, appendA_U]
  have f8 : E1 8 = vecB ps := by rw [hE1]; simp (config := { maxSteps := 1000000 }) only [go_sem, e8, appendA_U]
  have f9 : E1 9 = lin g1 := by rw [hE1]; simp (config := { maxSteps := 1000000 }) only [go_sem, e9, appendA_U]
  have f10 : E1 10 = lin pr := by rw [hE1]; simp (config := { maxSteps := 1000000 }) only [go_sem, e10, appendA_U]
  have f11 : E1 11 = lin le := by rw [hE1]; simp (config := { maxSteps := 1000000 }) only [go_sem, e11, appendA_U]
  have f12 : E1 12 = .ptr Z 0 0 := by rw [hE1]; simp (config := { maxSteps := 1000000 }) only [go_sem, e12, appendA_U]
  have f13 : E1 13 = .ptr Hx.next 0 0 := by rw [hE1]; simp (config := { maxSteps := 1000000 }) only [go_sem, appendA_U]
  have f14 : E1 14 = lin 0 := by rw [hE1]; simp (config := { maxSteps := 1000000 }) only [go_sem, appendA_U]
  clear hE1
  show W _ _ _ _ _ _ ⟨E1, ext Hx [.arr 0 61 [.lit (.int .i64 g1), .vec ns.length (nodesC ns)]]⟩
  rw [← hB1]
  clear hB1
  refine W.seq (vc_sound _ _ _ (by rfl) ?_)
  simp (config := { maxSteps := 1000000 }) only [go_sem, f8, f9, f10, f11, f12, lZ, appendA_U]
  refine AApply.clo (fit_spec cs ys hfy ps hpl hp64 g1 pr le B1 _ fun g2 ns2 hok2 _ => ⟨trivial, ?_⟩)
  obtain ⟨rfl, hk2⟩ := hok2 efy
  obtain rfl := hk1.unique (hk2.perm hys)
  rw [efy]
  simp (config := { maxSteps := 1000000 }) only [go_sem, netV, nodesV, appendA_U]
  obtain ⟨B2, hB2⟩ : ∃ B2, B2 = ext B1 [.arr 0 61 [.lit (.int .i64 g2), .vec ns.length (nodesC ns)]] := ⟨_, rfl⟩
  have n2 : B2.next = B1.next + 1 := by rw [hB2]; rfl
  have o2 : Over B1 B2 := by rw [hB2]; exact .ext _ _
  have gm2 : B2.get B1.next = some (.arr 0 61 [.lit (.int .i64 g2), .vec ns.length (nodesC ns)]) := by rw [hB2]; exact ext1_get_new
  have lY2 := get_live ((o2.old Y (by omega)).trans ((o1.old Y hY).trans gY))
  refine W.env fun E2 hE2 => ?_
  have a7 : E2 7 = .ptr Y 0 0 := by rw [hE2]; simp (config := { maxSteps := 1000000 }) only [go_sem, f7, appendA_U]
  have a8 : E2 8 = vecB ps := by rw [hE2]; simp (config := { maxSteps := 1000000 }) only [go_sem, f8, appendA_U]
  have a9 : E2 9 = lin g2 := by rw [hE2]; simp (config := { maxSteps := 1000000 }) only [go_sem, f9, appendA_U]
  have a10 : E2 10 = lin pr := by rw [hE2]; simp (config := { maxSteps := 1000000 }) only [go_sem, f10, appendA_U]
  have a11 : E2 11 = lin le := by rw [hE2]; simp (config := { maxSteps := 1000000 }) only [go_sem, f11, appendA_U]
  have a13 : E2 13 = .ptr Hx.next 0 0 := by rw [hE2]; simp (config := { maxSteps := 1000000 }) only [go_sem, f13, appendA_U]
  have a14 : E2 14 = lin 0 := by rw [hE2]; simp (config := { maxSteps := 1000000 }) only [go_sem, f14, appendA_U]
  have a15 : E2 15 = .ptr B1.next 0 0 := by rw [hE2]; simp (config := { maxSteps := 1000000 }) only [go_sem, appendA_U]
  have a16 : E2 16 = lin 0 := by rw [hE2]; simp (config := { maxSteps := 1000000 }) only [go_sem, appendA_U]
  clear hE2
  show W _ _ _ _ _ _ ⟨E2, ext B1 [.arr 0 61 [.lit (.int .i64 g2), .vec ns.length (nodesC ns)]]⟩
  rw [← hB2]
  clear hB2
  refine W.seq (vc_sound _ _ _ (by rfl) ?_)
  simp (config := { maxSteps := 1000000 }) only [go_sem, a7, a8, a9, a10, a11, lY2, appendA_U]
  refine AApply.clo (ACall.weakArgs (args' := [dataV cs [], vecB ps, lin g2, lin pr, lin le]) G0_ok rfl (fun i hi _ => ?_) (fit_spec cs [] ⟨by omega, by simp, fun r h => by cases h⟩ ps hpl hp64 g2 pr le B2 _ fun g3 ns0 hok3 _ => ⟨trivial, ?_⟩))
  · match i, hi with
    | 0, _ => exact fz_data0 cs B2
    | 1, _ => exact .vec rfl fun i hi _ => by simp only [List.getElem_map]; exact .lit _
    | 2, _ => exact .lit _
    | 3, _ => exact .lit _
    | 4, _ => exact .lit _
  obtain ⟨rfl, hk0⟩ := hok3 ef0
  rw [ef0]
  simp (config := { maxSteps := 1000000 }) only [go_sem, netV, nodesV, appendA_U]
  obtain ⟨B3, hB3⟩ : ∃ B3, B3 = ext B2 [.arr 0 61 [.lit (.int .i64 g3), .vec ns0.length (nodesC ns0)]] := ⟨_, rfl⟩
  have n3 : B3.next = B2.next + 1 := by rw [hB3]; rfl
  have o3 : Over B2 B3 := by rw [hB3]; exact .ext _ _
  have m0 := get_live (show B3.get B2.next = some (.arr 0 61 [.lit (.int .i64 g3), .vec ns0.length (nodesC ns0)]) by rw [hB3]; exact ext1_get_new)
  have m1 := get_live ((o3.old Hx.next (by omega)).trans ((o2.old _ (by omega)).trans gm))
  have m2 := get_live ((o3.old B1.next (by omega)).trans gm2)
  refine W.env fun E3 hE3 => ?_
  have b8 : E3 8 = vecB ps := by rw [hE3]; simp (config := { maxSteps := 1000000 }) only [go_sem, a8, appendA_U]
  have b11 : E3 11 = lin le := by rw [hE3]; simp (config := { maxSteps := 1000000 }) only [go_sem, a11, appendA_U]
  have b13 : E3 13 = .ptr Hx.next 0 0 := by rw [hE3]; simp (config := { maxSteps := 1000000 }) only [go_sem, a13, appendA_U]
  have b14 : E3 14 = lin 0 := by rw [hE3]; simp (config := { maxSteps := 1000000 }) only [go_sem, a14, appendA_U]
  have b15 : E3 15 = .ptr B1.next 0 0 := by rw [hE3]; simp (config := { maxSteps := 1000000 }) only [go_sem, a15, appendA_U]
  have b16 : E3 16 = lin 0 := by rw [hE3]; simp (config := { maxSteps := 1000000 }) only [go_sem, a16, appendA_U]
  have b17 : E3 17 = .ptr B2.next 0 0 := by rw [hE3]; simp (config := { maxSteps := 1000000 }) only [go_sem, appendA_U]
  have b18 : E3 18 = lin 0 := by rw [hE3]; simp (config := { maxSteps := 1000000 }) only [go_sem, appendA_U]
  clear hE3
  show W _ _ _ _ _ _ ⟨E3, ext B2 [.arr 0 61 [.lit (.int .i64 g3), .vec ns0.length (nodesC ns0)]]⟩
  rw [← hB3]
  clear hB3
  have nf := hk1.fit hd hg
  have nf0 := hk0.fit hd.none hg
  have ok1 := netB_true (hk1.net hd hg hw)
  have ok0 := netB_true (hk0.net hd.none hg hw)
  have pp : ∀ (xs' : List (List Int)) (ms : List NodeP), FitK cs xs' ps g3 pr le ps.length ms → ∀ x ∈ ms, (x.parents.length : Int) < 2 ^ 39 ∧ ∀ q ∈ x.parents, 0 ≤ q ∧ q < 64 := fun xs' ms hk x hx => by
    obtain ⟨v, hv⟩ := List.mem_iff_getElem?.1 hx
    obtain ⟨s, hs⟩ := get_of_lt (l := ps) (i := v) (by rw [← hk.1]; exact get_lt hv)
    rw [(hk.2 v s x hs hv).par]
    have := parsL_len ps.length s
    refine ⟨by omega, fun q hq => ?_⟩
    have h1 := parsL_rng q hq
    have := hg.1
    omega
  have sl1 : (ns.length : Int) < 2 ^ 39 := by rw [hk1.1]; exact hpl
  have sl0 : (ns0.length : Int) < 2 ^ 39 := by rw [hk0.1]; exact hpl
  refine W.seq ?_
  refine vc_sound _ _ _ (by rfl) ?_
  simp (config := { maxSteps := 1000000 }) only [go_sem, b8, b13, b14, b15, b16, b17, b18, m0, m1, m2, appendA_U]
  refine AApply.clo (right05_spec g3 ns nf B3 _ ⟨trivial, ?_⟩)
  rw [ok1]
  simp (config := { maxSteps := 1000000 }) only [go_sem, b8, b13, b14, b15, b16, b17, b18, m0, m1, m2, appendA_U]
  refine AApply.clo (right05_spec g3 ns0 nf0 B3 _ ⟨trivial, ?_⟩)
  rw [ok0]
  simp (config := { maxSteps := 1000000 }) only [go_sem, b8, b13, b14, b15, b16, b17, b18, m0, m1, m2, appendA_U]
  refine AApply.clo (same05_refl g3 ns nf B3 _ ⟨trivial, ?_⟩)
  simp (config := { maxSteps := 1000000 }) only [go_sem, b8, b13, b14, b15, b16, b17, b18, m0, m1, m2, appendA_U]
  refine AApply.clo (parentSets_spec g3 ns sl1 (pp xs ns hk1) B3 _ ⟨trivial, ?_⟩)
  rw [hk1.sets hg]
  simp (config := { maxSteps := 1000000 }) only [go_sem, b8, b13, b14, b15, b16, b17, b18, m0, m1, m2, appendA_U]
  refine AApply.clo (eqB_refl ps (by omega) B3 _ ⟨trivial, ?_⟩)
  simp (config := { maxSteps := 1000000 }) only [go_sem, b8, b13, b14, b15, b16, b17, b18, m0, m1, m2, appendA_U]
  refine AApply.clo (parentSets_spec g3 ns0 sl0 (pp [] ns0 hk0) B3 _ ⟨trivial, ?_⟩)
  rw [hk0.sets hg]
  simp (config := { maxSteps := 1000000 }) only [go_sem, b8, b13, b14, b15, b16, b17, b18, m0, m1, m2, appendA_U]
  refine AApply.clo (eqB_refl ps (by omega) B3 _ ⟨trivial, ?_⟩)
  simp (config := { maxSteps := 1000000 }) only [go_sem, b8, b13, b14, b15, b16, b17, b18, m0, m1, m2, appendA_U]
  refine W.env fun E4 hE4 => ?_
  have d11 : E4 11 = lin le := by rw [hE4]; simp (config := { maxSteps := 1000000 }) only [go_sem, b11, appendA_U]
  have d13 : E4 13 = .ptr Hx.next 0 0 := by rw [hE4]; simp (config := { maxSteps := 1000000 }) only [go_sem, b13, appendA_U]
  have d17 : E4 17 = .ptr B2.next 0 0 := by rw [hE4]; simp (config := { maxSteps := 1000000 }) only [go_sem, b17, appendA_U]
  clear hE4
  refine W.seq (vc_sound _ _ _ (by rfl) ?_)
  simp (config := { maxSteps := 1000000 }) only [go_sem, d13, m1, appendA_U]
  refine W.env fun E5 hE5 => ?_
  have k11 : E5 11 = lin le := by rw [hE5]; simp (config := { maxSteps := 1000000 }) only [go_sem, d11, appendA_U]
  have k13 : E5 13 = .ptr Hx.next 0 0 := by rw [hE5]; simp (config := { maxSteps := 1000000 }) only [go_sem, d13, appendA_U]
  have k17 : E5 17 = .ptr B2.next 0 0 := by rw [hE5]; simp (config := { maxSteps := 1000000 }) only [go_sem, d17, appendA_U]
  have k129 : E5 129 = lin ns.length := by rw [hE5]; simp (config := { maxSteps := 1000000 }) only [go_sem, d13, m1, appendA_U]
  have k130 : E5 130 = lin 0 := by rw [hE5]; simp (config := { maxSteps := 1000000 }) only [go_sem, appendA_U]
  clear hE5
  refine W.loop0 374144419155350017592459563321514954602191669166144 (by kernel_rfl) (fun ρ Hy => Hy = B3 ∧ ∃ v : Nat, ρ 130 = lin v ∧ v ≤ ns.length) (fun ρ Hy => ns.length - (iv (ρ 130)).toNat) ?_ ?_
  · exact ⟨rfl, 0, k130, by omega⟩
  rintro ρ Hy ⟨rfl, v, h130, hv⟩
  refine W.env fun E6 hE6 => ?_
  have q11 : E6 11 = lin le := by rw [hE6]; simp (config := { maxSteps := 1000000 }) only [go_sem, k11, appendA_U]
  have q13 : E6 13 = .ptr Hx.next 0 0 := by rw [hE6]; simp (config := { maxSteps := 1000000 }) only [go_sem, k13, appendA_U]
  have q17 : E6 17 = .ptr B2.next 0 0 := by rw [hE6]; simp (config := { maxSteps := 1000000 }) only [go_sem, k17, appendA_U]
  have q129 : E6 129 = lin ns.length := by rw [hE6]; simp (config := { maxSteps := 1000000 }) only [go_sem, k129, appendA_U]
  have q130 : E6 130 = lin v := by rw [hE6]; simp (config := { maxSteps := 1000000 }) only [go_sem, h130, appendA_U]
  clear hE6
  by_cases hb : (v : Int) < ns.length
  rotate_left
  · refine vc_sound _ _ _ (by rfl) ?_
    simp (config := { maxSteps := 1000000 }) only [go_sem, q129, q130, hb, appendA_U]
    refine vc_sound _ _ _ (by rfl) ?_
    simp (config := { maxSteps := 1000000 }) only [go_sem, appendA_U]
    exact FinV.mk (by omega) (hK _ (by omega))
  obtain ⟨x, hx⟩ := get_of_lt (l := ns) (i := v) (by omega)
  obtain ⟨x0, hx0⟩ := get_of_lt (l := ns0) (i := v) (by rw [hk0.1, ← hk1.1]; omega)
  have c2 := nodesC_2 hx
  have c20 := nodesC_2 hx0
  have cn := nodesC_ne hx
  have cn0 := nodesC_ne hx0
  have hb0 : (v : Int) < ns0.length := by rw [hk0.1, ← hk1.1]; exact hb
  have w1 := IntWalk.i64_in ((v : Int) + 1) (by omega)
  have nl := nf.1
  have xl := (nf.2 x (List.mem_of_getElem? hx)).2.1
  have xl0 := (nf0.2 x0 (List.mem_of_getElem? hx0)).2.1
  refine W.seq (vc_sound _ _ _ (by rfl) ?_)
  simp (config := { maxSteps := 1000000 }) only [go_sem, q129, q130, hb, appendA_U]
  refine W.seq (vc_sound _ _ _ (by rfl) ?_)
  simp (config := { maxSteps := 1000000 }) only [go_sem, appendA_U]
  refine W.seq (W.block ?_)
  refine W.seq (vc_sound _ _ _ (by rfl) ?_)
  simp (config := { maxSteps := 1000000 }) only [go_sem, q130, appendA_U]
  refine W.seq (vc_sound _ _ _ (by rfl) ?_)
  simp (config := { maxSteps := 1000000 }) only [go_sem, q13, q130, m1, c2, cn, hb, vecV, appendA_U]
  refine W.env fun E7 hE7 => ?_
  have r11 : E7 11 = lin le := by rw [hE7]; simp (config := { maxSteps := 1000000 }) only [go_sem, q11, appendA_U]
  have r17 : E7 17 = .ptr B2.next 0 0 := by rw [hE7]; simp (config := { maxSteps := 1000000 }) only [go_sem, q17, appendA_U]
  have r19 : E7 19 = lin v := by rw [hE7]; simp (config := { maxSteps := 1000000 }) only [go_sem, q130, appendA_U]
  have r130 : E7 130 = lin v := by rw [hE7]; simp (config := { maxSteps := 1000000 }) only [go_sem, q130, appendA_U]
  have r138 : E7 138 = .vec x.rows.length (x.rows.map vecI) := by rw [hE7]; simp (config := { maxSteps := 1000000 }) only [go_sem, appendA_U]
  have r139 : E7 139 = lin x.rows.length := by rw [hE7]; simp (config := { maxSteps := 1000000 }) only [go_sem, appendA_U]
  have r140 : E7 140 = lin 0 := by rw [hE7]; simp (config := { maxSteps := 1000000 }) only [go_sem, appendA_U]
  clear hE7
  refine W.loop0 712230049778071776582797002332707045599346752 (by kernel_rfl) (fun ρ Hz => Hz = Hy ∧ ∃ j : Nat, ρ 140 = lin j ∧ j ≤ x.rows.length) (fun ρ Hz => x.rows.length - (iv (ρ 140)).toNat) ?_ ?_
  · exact ⟨rfl, 0, r140, by omega⟩
  rintro ρ2 Hz ⟨rfl, j, h140, hj⟩
  refine W.env fun E8 hE8 => ?_
  have s11 : E8 11 = lin le := by rw [hE8]; simp (config := { maxSteps := 1000000 }) only [go_sem, r11, appendA_U]
  have s17 : E8 17 = .ptr B2.next 0 0 := by rw [hE8]; simp (config := { maxSteps := 1000000 }) only [go_sem, r17, appendA_U]
  have s19 : E8 19 = lin v := by rw [hE8]; simp (config := { maxSteps := 1000000 }) only [go_sem, r19, appendA_U]
  have s130 : E8 130 = lin v := by rw [hE8]; simp (config := { maxSteps := 1000000 }) only [go_sem, r130, appendA_U]
  have s138 : E8 138 = .vec x.rows.length (x.rows.map vecI) := by rw [hE8]; simp (config := { maxSteps := 1000000 }) only [go_sem, r138, appendA_U]
  have s139 : E8 139 = lin x.rows.length := by rw [hE8]; simp (config := { maxSteps := 1000000 }) only [go_sem, r139, appendA_U]
  have s140 : E8 140 = lin j := by rw [hE8]; simp (config := { maxSteps := 1000000 }) only [go_sem, h140, appendA_U]
  clear hE8
  by_cases hb2 : (j : Int) < x.rows.length
  · obtain ⟨r, hr⟩ := get_of_lt (l := x.rows) (i := j) (by omega)
    have hrm := List.mem_of_getElem? hr
    have hr' : (x.rows.map vecI)[j]? = some (.vec r.length (ints r)) := by rw [List.getElem?_map, hr]; rfl
    have hrn := ne_of_get hr
    obtain ⟨ok, hge, hc2, _⟩ := hk1.row hd hg hw hx hrm
    have hr0 : r ≠ [] := fun e => by have := ok.1; rw [e] at this; simp at this; omega
    have hrl := (nf.2 x (List.mem_of_getElem? hx)).2.2 r hrm
    have hlt : ¬ minL r < le := by have := hge _ (minL_mem hr0); omega
    have w2 := IntWalk.i64_in ((j : Int) + 1) (by omega)
    refine W.seq (vc_sound _ _ _ (by rfl) ?_)
    simp (config := { maxSteps := 1000000 }) only [go_sem, s139, s140, hb2, appendA_U]
    refine W.seq (vc_sound _ _ _ (by rfl) ?_)
    simp (config := { maxSteps := 1000000 }) only [go_sem, appendA_U]
    refine W.seq (W.block ?_)
    refine W.seq (vc_sound _ _ _ (by rfl) ?_)
    simp (config := { maxSteps := 1000000 }) only [go_sem, s138, s140, hr', hrn, hb2, appendA_U]
    refine W.seq ?_
    refine vc_sound _ _ _ (by rfl) ?_
    simp (config := { maxSteps := 1000000 }) only [go_sem, appendA_U]
    refine AApply.clo (min_spec r hr0 (by omega) _ _ ⟨trivial, ?_⟩)
    simp (config := { maxSteps := 1000000 }) only [go_sem, s11, hlt, appendA_U]
    refine vc_sound _ _ _ (by rfl) ?_
    simp (config := { maxSteps := 1000000 }) only [go_sem, appendA_U]
    refine vc_sound _ _ _ (by rfl) ?_
    simp (config := { maxSteps := 1000000 }) only [go_sem, s140, w2, appendA_U]
    exact ⟨⟨j + 1, rfl, by omega⟩, by rw [h140]; simp only [lin, iv_int]; omega⟩
  refine vc_sound _ _ _ (by rfl) ?_
  simp (config := { maxSteps := 1000000 }) only [go_sem, s139, s140, hb2, appendA_U]
  refine W.seq (vc_sound _ _ _ (by rfl) ?_)
  simp (config := { maxSteps := 1000000 }) only [go_sem, s17, s19, m0, c20, cn0, hb0, vecV, appendA_U]
  refine W.env fun E9 hE9 => ?_
  have t130 : E9 130 = lin v := by rw [hE9]; simp (config := { maxSteps := 1000000 }) only [go_sem, s130, appendA_U]
  have t154 : E9 154 = .vec x0.rows.length (x0.rows.map vecI) := by rw [hE9]; simp (config := { maxSteps := 1000000 }) only [go_sem, appendA_U]
  have t155 : E9 155 = lin x0.rows.length := by rw [hE9]; simp (config := { maxSteps := 1000000 }) only [go_sem, appendA_U]
  have t156 : E9 156 = lin 0 := by rw [hE9]; simp (config := { maxSteps := 1000000 }) only [go_sem, appendA_U]
  clear hE9
  refine W.block ?_
  refine W.loop0 186980865726022392097683928285639458827230878105664 (by kernel_rfl) (fun ρ Hw => Hw = Hz ∧ ∃ i : Nat, ρ 156 = lin i ∧ i ≤ x0.rows.length) (fun ρ Hw => x0.rows.length - (iv (ρ 156)).toNat) ?_ ?_
  · exact ⟨rfl, 0, t156, by omega⟩
  rintro ρ3 Hw ⟨rfl, i, h156, hi⟩
  refine W.env fun EA hEA => ?_
  have u130 : EA 130 = lin v := by rw [hEA]; simp (config := { maxSteps := 1000000 }) only [go_sem, t130, appendA_U]
  have u154 : EA 154 = .vec x0.rows.length (x0.rows.map vecI) := by rw [hEA]; simp (config := { maxSteps := 1000000 }) only [go_sem, t154, appendA_U]
  have u155 : EA 155 = lin x0.rows.length := by rw [hEA]; simp (config := { maxSteps := 1000000 }) only [go_sem, t155, appendA_U]
  have u156 : EA 156 = lin i := by rw [hEA]; simp (config := { maxSteps := 1000000 }) only [go_sem, h156, appendA_U]
  clear hEA
  by_cases hb3 : (i : Int) < x0.rows.length
  rotate_left
  · refine vc_sound _ _ _ (by rfl) ?_
    simp (config := { maxSteps := 1000000 }) only [go_sem, u155, u156, hb3, appendA_U]
    refine vc_sound _ _ _ (by rfl) ?_
    simp (config := { maxSteps := 1000000 }) only [go_sem, u130, w1, appendA_U]
    exact ⟨⟨v + 1, rfl, by omega⟩, by rw [h130]; simp only [lin, iv_int]; omega⟩
  obtain ⟨r, hr⟩ := get_of_lt (l := x0.rows) (i := i) (by omega)
  have hrm := List.mem_of_getElem? hr
  have hr' : (x0.rows.map vecI)[i]? = some (.vec r.length (ints r)) := by rw [List.getElem?_map, hr]; rfl
  have hrn := ne_of_get hr
  obtain ⟨ok, _, hc2, _⟩ := hk0.row hd.none hg hw hx0 hrm
  have hr0 : r ≠ [] := fun e => by have := ok.1; rw [e] at this; simp at this; omega
  have hrl := (nf0.2 x0 (List.mem_of_getElem? hx0)).2.2 r hrm
  obtain ⟨s, q, _, hS⟩ := hk0.rowAt hx0 hrm
  rw [cntsL_nil] at hS
  have hev := share_even hS _ (maxL_mem hr0) _ (minL_mem hr0)
  have hmx := ok.2.1 _ (maxL_mem hr0)
  have hmn := ok.2.1 _ (minL_mem hr0)
  have g60 := hw.1
  have hgt : ¬ maxL r - minL r > 1 := by omega
  have w2 := IntWalk.i64_in ((i : Int) + 1) (by omega)
  have w3 := IntWalk.i64_in (maxL r - minL r) (by omega)
  refine W.seq (vc_sound _ _ _ (by rfl) ?_)
  simp (config := { maxSteps := 1000000 }) only [go_sem, u155, u156, hb3, appendA_U]
  refine W.seq (vc_sound _ _ _ (by rfl) ?_)
  simp (config := { maxSteps := 1000000 }) only [go_sem, appendA_U]
  refine W.seq (W.block ?_)
  refine W.seq (vc_sound _ _ _ (by rfl) ?_)
  simp (config := { maxSteps := 1000000 }) only [go_sem, u154, u156, hr', hrn, hb3, appendA_U]
  refine W.seq ?_
  refine vc_sound _ _ _ (by rfl) ?_
  simp (config := { maxSteps := 1000000 }) only [go_sem, appendA_U]
  refine AApply.clo (max_spec r hr0 (by omega) _ _ ⟨trivial, ?_⟩)
  simp (config := { maxSteps := 1000000 }) only [go_sem, appendA_U]
  refine AApply.clo (min_spec r hr0 (by omega) _ _ ⟨trivial, ?_⟩)
  simp (config := { maxSteps := 1000000 }) only [go_sem, w3, hgt, appendA_U]
  refine vc_sound _ _ _ (by rfl) ?_
  simp (config := { maxSteps := 1000000 }) only [go_sem, appendA_U]
  refine vc_sound _ _ _ (by rfl) ?_
  simp (config := { maxSteps := 1000000 }) only [go_sem, u156, w2, appendA_U]
  exact ⟨⟨i + 1, rfl, by omega⟩, by rw [h156]; simp only [lin, iv_int]; omega⟩
end Go.Proofs
namespace Go.Hx
variable {P : Program} {G : Nat → Option (List AVal)} {Γ Γ' : Gam} {H H' : AHeap} {w w' : World}
inductive Ids (K : Nat → Prop) : AVal → Prop
  | lit (v : Value) : Ids K (.lit v)
  | vec {n : Nat} {c : List AVal} (h : ∀ i (h : i < c.length), Ids K c[i]) : Ids K (.vec n c)
  | vptr {n : Nat} {c : List AVal} (h : ∀ i (h : i < c.length), Ids K c[i]) : Ids K (.vptr c n)
  | agg {c : List AVal} (h : ∀ i (h : i < c.length), Ids K c[i]) : Ids K (.agg c)
  | tup {c : List AVal} (h : ∀ i (h : i < c.length), Ids K c[i]) : Ids K (.tup c)
  | clo {f : FuncId} {a b : List AVal} (h1 : ∀ i (h : i < a.length), Ids K a[i]) (h2 : ∀ i (h : i < b.length), Ids K b[i]) : Ids K (.clo f a b)
  | own {id g o l z : Nat} (h : K id) : Ids K (.own id g o l z)
  | ptr {id g o : Nat} (h : K id) : Ids K (.ptr id g o)
  | yld {id : Nat} (h : K id) : Ids K (.yld id)
theorem Ids.of_rel {v : AVal} {cv : Value} (h : RelV P Γ H w v cv) : Ids (fun id => id < H.next ∧ H.get id ≠ some .rsv) v := by
  induction h with
  | lit v => exact .lit v
  | vec0 a cap => exact .vec fun i h => absurd h (Nat.not_lt_zero _)
  | vec hb hlt hlen hcs hcell hrel ih => exact .vec fun i h => ih i h (by omega)
  | own h => exact .own ⟨h.1, h.2.2.1⟩
  | ptr h => exact .ptr ⟨h.1, h.2.2.1⟩
  | vptr hb hlt hcs hcell hrel ih => exact .vptr fun i h => ih i h (by omega)
  | agg hcs hrel ih => exact .agg fun i h => ih i h (by omega)
  | tup hcs hrel ih => exact .tup fun i h => ih i h (by omega)
  | clo hfs hcs hf hc ih1 ih2 => exact .clo (fun i h => ih1 i h (by omega)) fun i h => ih2 i h (by omega)
  | yld h => exact .yld ⟨h.1, h.2.2.1⟩
theorem Ids.sound {K : Nat → Prop} {Γ₁ Γ₂ : Gam} {H₁ H₂ : AHeap} (hK : ∀ id, K id → H₂.get id = H₁.get id ∧ Γ₂ id = Γ₁ id ∧ id < H₂.next) (ho : ∀ b, Γ₂.owns b → Γ₁.owns b) {v : AVal} (h : Ids K v) :
    ∀ {cv : Value}, RelV P Γ₁ H₁ w v cv → RelV P Γ₂ H₂ w v cv := by
  induction h with
  | lit v => intro cv h; cases h; exact .lit _
  | vec _ ih =>
    intro cv h
    cases h with
    | vec0 a cap => exact .vec0 a cap
    | vec hb hlt hlen hcs hcell hrel => exact .vec (fun h => hb (ho _ h)) hlt hlen hcs hcell fun i h1 h2 => ih i h1 (hrel i h1 h2)
  | vptr _ ih => intro cv h; cases h with | vptr hb hlt hcs hcell hrel => exact .vptr (fun h => hb (ho _ h)) hlt hcs hcell fun i h1 h2 => ih i h1 (hrel i h1 h2)
  | agg _ ih => intro cv h; cases h with | agg hcs hrel => exact .agg hcs fun i h1 h2 => ih i h1 (hrel i h1 h2)
  | tup _ ih => intro cv h; cases h with | tup hcs hrel => exact .tup hcs fun i h1 h2 => ih i h1 (hrel i h1 h2)
  | clo _ _ ih1 ih2 => intro cv h; cases h with | clo hfs hcs hf hc => exact .clo hfs hcs (fun i h1 h2 => ih1 i h1 (hf i h1 h2)) fun i h1 h2 => ih2 i h1 (hc i h1 h2)
  | own h =>
    intro cv hv
    cases hv with
    | own hv =>
      obtain ⟨a, b, c, d⟩ := hv
      obtain ⟨e1, e2, e3⟩ := hK _ h
      refine .own ⟨e3, b, by rw [e1]; exact c, fun g e cells hg => ?_⟩
      rw [e1] at hg
      rw [e2]
      exact d g e cells hg
  | ptr h =>
    intro cv hv
    cases hv with
    | ptr hv =>
      obtain ⟨a, b, c, d⟩ := hv
      obtain ⟨e1, e2, e3⟩ := hK _ h
      refine .ptr ⟨e3, b, by rw [e1]; exact c, fun g e cells hg => ?_⟩
      rw [e1] at hg
      rw [e2]
      exact d g e cells hg
  | yld h =>
    intro cv hv
    cases hv with
    | yld hv =>
      obtain ⟨a, b, c, d, e⟩ := hv
      obtain ⟨e1, e2, e3⟩ := hK _ h
      refine .yld ⟨e3, b, by rw [e1]; exact c, fun st pend n env ps asg body hg => ?_, fun es hg => ?_⟩
      · rw [e1] at hg
        rw [e2]
        exact d st pend n env ps asg body hg
      · rw [e1] at hg
        rw [e2]
        exact e es hg
theorem own_ecall {f : FuncId} {args : List AVal} {g n sz : Nat} {e : TypeId} {cells : List AVal} {rs : List Nat} (hrs : ∀ r, r ∈ rs → r < H.next) (hcl : ∀ i (h : i < cells.length), Ids (fun _ => False) cells[i])
    (hcall : ∀ H2 : AHeap, (∀ r, r ∈ rs → H2.get r = H.get r) → ACall P G f args H2 fun r H' => r = .ret (.own H2.next g 0 n sz) ∧ H' = ext H2 [.arr g e cells]) :
    Ev.ECall P G (.clo f [] []) args H (.own H.next g 0 n sz) (Ev.newE H.next (H.next + 1) (fun _ => true) (ext ⟨fun _ => none, H.next⟩ [.arr g e cells]).get) 1 ⟨Ev.newL H.next (H.next + 1), rs⟩ := by
  have hnew : Ev.newE H.next (H.next + 1) (fun _ => true) (ext ⟨fun _ => none, H.next⟩ [.arr g e cells]).get H.next = some (.arr g e cells) := by
    unfold Ev.newE
    rw [if_pos ⟨Nat.le_refl _, Nat.lt_succ_self _⟩, if_pos rfl]
    exact ext1_get_new (H := ⟨fun _ => none, H.next⟩)
  have hout : ∀ r, r ≠ H.next → Ev.newE H.next (H.next + 1) (fun _ => true) (ext ⟨fun _ => none, H.next⟩ [.arr g e cells]).get r = none := fun r hr => by
    unfold Ev.newE
    rw [if_neg (by omega)]
  refine ⟨hrs, fun r hr => ?_, fun c hc => ?_, fun H2 hag hres hn2 => AApply.clo ⟨?_, fun Γ w cargs R hr => ?_⟩⟩
  · have : r = H.next := Classical.byContradiction fun h => by rw [hout r h] at hr; cases hr
    subst this
    exact ⟨Ev.mem_newL (Nat.le_refl _) (Nat.lt_succ_self _), .inr ⟨Nat.le_refl _, Nat.lt_succ_self _⟩⟩
  · obtain rfl : c = 0 := by omega
    rw [show H.next + 0 = H.next from rfl, hnew]
    rfl
  · exact (hcall H2 hag).1
  have hrid : H2.get H.next = some .rsv := hres 0 (by omega)
  rw [List.nil_append, List.append_nil] at hr
  refine ((hcall H2 hag).2 Γ w cargs R hr).mono ?_
  rintro x w' ⟨r, H', Γ', hend, ⟨rfl, rfl⟩, R', E, hn⟩
  obtain ⟨H3, hH3⟩ : ∃ H3 : AHeap, H3 = ⟨Ev.effE (Ev.newE H.next (H.next + 1) (fun _ => true) (ext ⟨fun _ => none, H.next⟩ [.arr g e cells]).get) H2.get, H2.next⟩ := ⟨_, rfl⟩
  have h3n : H3.next = H2.next := by rw [hH3]
  have h3r : H3.get H.next = some (.arr g e cells) := by rw [hH3]; show Ev.effE _ _ _ = _; unfold Ev.effE; rw [hnew]
  have h3o : ∀ r, r ≠ H.next → H3.get r = H2.get r := fun r h => by rw [hH3]; show Ev.effE _ _ _ = _; unfold Ev.effE; rw [hout r h]
  have hxo : ∀ r, r < H2.next → (ext H2 [.arr g e cells]).get r = H2.get r := fun r h => get_ext_old H2 _ r h
  have hxn : (ext H2 [.arr g e cells]).get H2.next = some (.arr g e cells) := ext1_get_new
  have hxf : ∀ r, H2.next < r → (ext H2 [.arr g e cells]).get r = none := fun r h => by
    cases hg : (ext H2 [.arr g e cells]).get r with
    | none => rfl
    | some b => have := R'.next r b hg; rw [show (ext H2 [.arr g e cells]).next = H2.next + 1 from rfl] at this; omega
  have h2f : ∀ r, H2.next ≤ r → H2.get r = none := fun r h => by
    cases hg : H2.get r with
    | none => rfl
    | some b => have := R.next r b hg; omega
  obtain ⟨Γ3, hΓ3⟩ : ∃ Γ3 : Gam, Γ3 = fun id => if id = H.next then Γ' H2.next else if id = H2.next then none else Γ' id := ⟨_, rfl⟩
  have g3r : Γ3 H.next = Γ' H2.next := by rw [hΓ3]; exact if_pos rfl
  have g3n : Γ3 H2.next = none := by rw [hΓ3]; show (if _ then _ else if _ then _ else _) = _; rw [if_neg (by omega), if_pos rfl]
  have g3o : ∀ id, id ≠ H.next → id ≠ H2.next → Γ3 id = Γ' id := fun id h1 h2 => by rw [hΓ3]; show (if _ then _ else if _ then _ else _) = _; rw [if_neg h1, if_neg h2]
  have hΓrid : Γ' H.next = none := R'.rsv _ (by rw [hxo _ (by omega)]; exact hrid)
  have back : ∀ id x, Γ3 id = some x → ∃ id', Γ' id' = some x ∧ ((id = H.next ∧ id' = H2.next) ∨ (id ≠ H.next ∧ id ≠ H2.next ∧ id' = id)) := fun id x h => by
    by_cases h1 : id = H.next
    · subst h1; rw [g3r] at h; exact ⟨_, h, .inl ⟨rfl, rfl⟩⟩
    · by_cases h2 : id = H2.next
      · subst h2; rw [g3n] at h; cases h
      · rw [g3o id h1 h2] at h; exact ⟨_, h, .inr ⟨h1, h2, rfl⟩⟩
  have ho : ∀ b, Γ3.owns b → Γ'.owns b := fun b ⟨id, base, m, h⟩ => let ⟨id', h', _⟩ := back _ _ h; ⟨id', base, m, h'⟩
  have hΓold : ∀ id, id < H2.next → id ≠ H.next → ∀ b, H2.get id = some b → b ≠ .rsv → Γ' id = Γ' id := fun _ _ _ _ _ _ => rfl
  have hKs : ∀ id, (id < H2.next ∧ H2.get id ≠ some .rsv) → H3.get id = (ext H2 [.arr g e cells]).get id ∧ Γ3 id = Γ' id ∧ id < H3.next := fun id ⟨h1, h2⟩ => by
    have hne : id ≠ H.next := fun h => h2 (h ▸ hrid)
    exact ⟨(h3o id hne).trans (hxo id h1).symm, g3o id hne (by omega), by omega⟩
  have hEE : Evo Γ H2 w Γ3 H3 w' := by
    refine ⟨E.os, E.tape, E.output, E.size, fun b hb hno => ⟨(E.keep b hb hno).1, fun h => (E.keep b hb hno).2 (ho b h)⟩, fun id h1 h2 x' hx' => ?_, E.frz⟩
    by_cases hid : id = H.next
    · subst hid; exact ⟨.rsv, hrid, trivial⟩
    · rw [h3o id hid] at hx'
      obtain ⟨x, hx, hle⟩ := E.live id h1 (by rw [show (ext H2 [.arr g e cells]).next = H2.next + 1 from rfl]; omega) x' (by rw [hxo id h1]; exact hx')
      refine ⟨x, hx, ?_⟩
      have := g3o id hid (by omega)
      cases x <;> cases x' <;> simp only [Blk.le, this] at hle ⊢ <;> exact hle
  have cellok : ∀ (cs : List AVal) (w0 : World), (∀ i (h : i < cs.length), Ids (fun id => id < H2.next ∧ H2.get id ≠ some .rsv) cs[i]) → ∀ i (h : i < cs.length) cv, RelV P Γ' (ext H2 [.arr g e cells]) w0 cs[i] cv → RelV P Γ3 H3 w0 cs[i] cv := fun cs w0 hc i h cv hv => (hc i h).sound hKs ho hv
  have oldIds : ∀ id g0 e0 c0, H2.get id = some (.arr g0 e0 c0) → ∀ i (h : i < c0.length), Ids (fun id => id < H2.next ∧ H2.get id ≠ some .rsv) c0[i] := fun id g0 e0 c0 hg i hi => by
    have h1 := R.arr id g0 e0 c0 hg
    cases hΓ : Γ id with
    | none => rw [hΓ] at h1; rw [h1] at hi; exact absurd hi (Nat.not_lt_zero _)
    | some y =>
      obtain ⟨b, base, m⟩ := y
      rw [hΓ] at h1
      obtain ⟨c, a1, a2, a3, a4⟩ := h1
      obtain ⟨cv, _, b2⟩ := a4 i hi
      exact .of_rel b2
  have arrC : ∀ id id' g0 e0 c0, Γ3 id = Γ' id' → (ext H2 [.arr g e cells]).get id' = some (.arr g0 e0 c0) → (∀ i (h : i < c0.length), Ids (fun id => id < H2.next ∧ H2.get id ≠ some .rsv) c0[i]) → (match Γ3 id with
      | some (b, base, n) => ∃ c, w'.heap[b]? = some (.cells c e0 (0, 0)) ∧ c.size = n ∧ base + c0.length ≤ n ∧ ∀ i (h : i < c0.length), ∃ cv, c[base + i]? = some cv ∧ RelV P Γ3 H3 w' c0[i] cv
      | none => c0 = []) := fun id id' g0 e0 c0 hΓ hg hc => by
    have h1 := R'.arr id' g0 e0 c0 hg
    rw [hΓ]
    cases hΓ' : Γ' id' with
    | none => rw [hΓ'] at h1; exact h1
    | some y =>
      obtain ⟨b, base, m⟩ := y
      rw [hΓ'] at h1
      obtain ⟨c, a1, a2, a3, a4⟩ := h1
      exact ⟨c, a1, a2, a3, fun i hi => let ⟨cv, b1, b2⟩ := a4 i hi; ⟨cv, b1, cellok c0 w' hc i hi cv b2⟩⟩
  have R3 : RelH P G Γ3 H3 w' := by
    refine ⟨fun id g0 e0 c0 hg => ?_, fun id st pend m env ps asg body hg => ?_, fun id es hg => ?_, fun id hg => ?_, fun id id' b base m base' m' h h' => ?_, fun id y h => ?_, fun id b base m h => ?_, fun id y h => ?_, fun g0 c0 h => ?_, R'.gsz⟩
    · by_cases hid : id = H.next
      · subst hid
        rw [h3r] at hg
        cases hg
        exact arrC _ H2.next g e cells g3r hxn fun i hi => by
          have : ∀ v, Ids (fun _ => False) v → Ids (fun id => id < H2.next ∧ H2.get id ≠ some .rsv) v := fun v hv => by
            induction hv with
            | lit v => exact .lit v
            | vec _ ih => exact .vec ih
            | vptr _ ih => exact .vptr ih
            | agg _ ih => exact .agg ih
            | tup _ ih => exact .tup ih
            | clo _ _ i1 i2 => exact .clo i1 i2
            | own h => exact h.elim
            | ptr h => exact h.elim
            | yld h => exact h.elim
          exact this _ (hcl i hi)
      · rw [h3o id hid] at hg
        have hlt := R.next id _ hg
        exact arrC id id g0 e0 c0 (g3o id hid (by omega)) (by rw [hxo id hlt]; exact hg) (oldIds id g0 e0 c0 hg)
    · have hid : id ≠ H.next := fun h => by subst h; rw [h3r] at hg; cases hg
      rw [h3o id hid] at hg
      have hlt := R.next id _ hg
      obtain ⟨b0, r0, p1, p2, p3, p4, p5, p6, p7, p8, p9⟩ := R.loop id st pend m env ps asg body hg
      obtain ⟨b, r, a1, a2, a3, a4, a5, a6, a7, a8, a9⟩ := R'.loop id st pend m env ps asg body (by rw [hxo id hlt]; exact hg)
      exact ⟨b, r, by rw [g3o id hid (by omega)]; exact a1, a2, a3, a4, a5, a6, a7, a8, fun t ht => (Ids.of_rel (p9 t (by omega))).sound hKs ho (a9 t ht)⟩
    · have hid : id ≠ H.next := fun h => by subst h; rw [h3r] at hg; cases hg
      rw [h3o id hid] at hg
      have hlt := R.next id _ hg
      obtain ⟨b, a1, a2⟩ := R'.mp id es (by rw [hxo id hlt]; exact hg)
      exact ⟨b, by rw [g3o id hid (by omega)]; exact a1, a2⟩
    · have hid : id ≠ H.next := fun h => by subst h; rw [h3r] at hg; cases hg
      rw [h3o id hid] at hg
      have hlt := R.next id _ hg
      rw [g3o id hid (by omega)]
      exact R'.rsv id (by rw [hxo id hlt]; exact hg)
    · obtain ⟨i1, q1, c1⟩ := back _ _ h
      obtain ⟨i2, q2, c2⟩ := back _ _ h'
      have := R'.inj _ _ _ _ _ _ _ q1 q2
      omega
    · obtain ⟨i1, q1, c1⟩ := back _ _ h
      rcases c1 with ⟨rfl, _⟩ | ⟨h1, h2, rfl⟩
      · exact ⟨_, h3r⟩
      · obtain ⟨y', hy⟩ := R'.dom _ _ q1
        have hlt := R'.next _ _ hy
        rw [show (ext H2 [.arr g e cells]).next = H2.next + 1 from rfl] at hlt
        exact ⟨y', by rw [h3o _ h1, ← hxo _ (by omega)]; exact hy⟩
    · obtain ⟨i1, q1, c1⟩ := back _ _ h
      exact R'.lt _ _ _ _ q1
    · by_cases hid : id = H.next
      · omega
      · rw [h3o id hid] at h
        have := R.next id _ h
        omega
    · exact (R.glob g0 c0 h).evo hEE (by omega)
  refine ⟨.ret (.own H.next g 0 n sz), H3, Γ3, ?_, ⟨rfl, hH3⟩, R3, hEE, by omega⟩
  cases x with
  | returned cv =>
    have hv : RelV P Γ' (ext H2 [.arr g e cells]) w' (.own H2.next g 0 n sz) cv := hend
    show RelV P Γ3 H3 w' (.own H.next g 0 n sz) cv
    cases hv with
    | own hv =>
      obtain ⟨a, b, c, d⟩ := hv
      refine .own ⟨by omega, b, by rw [h3r]; simp, fun g0 e0 c0 hg => ?_⟩
      rw [h3r] at hg
      cases hg
      rw [g3r]
      exact d g e cells hxn
  | _ => exact hend.elim
end Go.Hx
namespace Go.Hx
variable {P : Program} {G : Nat → Option (List AVal)} {all : Array Oper} {tail : St → Prop} {b i : Nat} {bs : List Nat} {acc : List (Nat × FP)} {K : FP → St → Prop} {s : St} {d : Option Tmp} {ty : TypeId} {pos : String} {aft : Array Edge} {g : Option (Nat × Bool)}
theorem E_nil (bs : List Nat) : Ev.opsD P G all tail bs i acc [] s = tail s := by cases bs <;> rfl
theorem E_plain (op : Op) (rest : List Oper) : Ev.opsD P G all tail (b :: bs) i acc (⟨d, op, ty, pos, aft, none⟩ :: rest) s =
    Ev.opD P G ⟨d, op, ty, pos, aft, none⟩ (fun f s' => ApartA b f acc ∧ Ev.opsD P G all tail bs (i + 1) (addF i f acc) rest s') s := by
  simp [Ev.opsD, wantA, wpo]
theorem E_call (fv : Operand) (args : Array Operand) (ats : Array TypeId) : Ev.opD P G ⟨d, .call ⟨.value fv, args, ats⟩, ty, pos, aft, g⟩ K s =
    ∃ v e k f, Ev.ECall P G (evA G s.ρ fv) (args.toList.map (evA G s.ρ)) s.H v e k f ∧ K f ⟨putA s.ρ d v, ⟨Ev.effE e s.H.get, s.H.next + k⟩⟩ := rfl
theorem E_move (x : Operand) : Ev.opD P G ⟨d, .move x, ty, pos, aft, g⟩ K s = opD P G ⟨d, .move x, ty, pos, aft, g⟩ K s := rfl
theorem E_load (t : TypeId) (x : Operand) : Ev.opD P G ⟨d, .load t x, ty, pos, aft, g⟩ K s = opD P G ⟨d, .load t x, ty, pos, aft, g⟩ K s := rfl
theorem E_nilCheck (x : Operand) : Ev.opD P G ⟨d, .nilCheck x, ty, pos, aft, g⟩ K s = opD P G ⟨d, .nilCheck x, ty, pos, aft, g⟩ K s := rfl
theorem E_fieldAddr (t : TypeId) (x : Operand) (f : Nat) : Ev.opD P G ⟨d, .fieldAddr t x f, ty, pos, aft, g⟩ K s = opD P G ⟨d, .fieldAddr t x f, ty, pos, aft, g⟩ K s := rfl
theorem E_makeSlice (t : TypeId) (x y : Operand) : Ev.opD P G ⟨d, .makeSlice t x y, ty, pos, aft, g⟩ K s = opD P G ⟨d, .makeSlice t x y, ty, pos, aft, g⟩ K s := rfl
theorem E_buildSlice (t : TypeId) (l : Nat) (p : Array (Nat × Operand)) : Ev.opD P G ⟨d, .buildSlice t l p, ty, pos, aft, g⟩ K s = opD P G ⟨d, .buildSlice t l p, ty, pos, aft, g⟩ K s := rfl
theorem E_build (t : TypeId) (p : Array (Nat × Operand)) : Ev.opD P G ⟨d, .build t p, ty, pos, aft, g⟩ K s = opD P G ⟨d, .build t p, ty, pos, aft, g⟩ K s := rfl
theorem E_box (t : TypeId) (x : Operand) : Ev.opD P G ⟨d, .box t x, ty, pos, aft, g⟩ K s = opD P G ⟨d, .box t x, ty, pos, aft, g⟩ K s := rfl
theorem E_binOp (op : BinOp) (t : TypeId) (x y : Operand) (u : TypeId) : Ev.opD P G ⟨d, .binOp op t x y u, ty, pos, aft, g⟩ K s = opD P G ⟨d, .binOp op t x y u, ty, pos, aft, g⟩ K s := rfl
theorem newL_one (a : Nat) : Ev.newL a (a + 1) = [a] := by
  unfold Ev.newL
  rw [Nat.add_sub_cancel_left]
  simp [List.range_succ]
theorem effE_new {H : AHeap} {bk : Blk} : (⟨Ev.effE (Ev.newE H.next (H.next + 1) (fun _ => true) (ext ⟨fun _ => none, H.next⟩ [bk]).get) H.get, H.next + 1⟩ : AHeap) = ext H [bk] := by
  unfold ext
  simp only [List.length_singleton]
  congr 1
  funext j
  unfold Ev.effE Ev.newE
  by_cases h : H.next ≤ j ∧ j < H.next + 1
  · have : j = H.next := by omega
    subst this
    simp
  · simp [h]
theorem E_alloc (t : TypeId) : Ev.opD P G ⟨d, .alloc t, ty, pos, aft, g⟩ K s = opD P G ⟨d, .alloc t, ty, pos, aft, g⟩ K s := rfl
theorem E_store (t : TypeId) (x y : Operand) : Ev.opD P G ⟨d, .store t x y, ty, pos, aft, g⟩ K s = opD P G ⟨d, .store t x y, ty, pos, aft, g⟩ K s := rfl
end Go.Hx
namespace Go.Proofs
open Go.Hx
theorem clone2_ecall {H : AHeap} {t : List (List Int)} (ht : (t.length : Int) < 2 ^ 40) (h0 : 0 < t.length) :
    Ev.ECall Tryd.prog G0 (.clo 38 [] []) [.vec t.length (t.map vecI)] H (.own H.next 1 0 t.length 1) (Ev.newE H.next (H.next + 1) (fun _ => true) (ext ⟨fun _ => none, H.next⟩ [.arr 1 22 (t.map vecI)]).get) 1 ⟨Ev.newL H.next (H.next + 1), []⟩ :=
  own_ecall (fun r h => by cases h) (fun i hi => by
    simp only [List.getElem_map, vecI]
    exact .vec fun j hj => by simp only [ints, List.getElem_map]; exact .lit _) fun H2 _ => clone2_ext t ht h0 H2 _ ⟨rfl, rfl⟩
theorem caseS_ok {d : D25} (hd : d.Ok) {raw : List Int} (hr : ∀ x ∈ raw, 0 ≤ x) : CaseOk (cardsD d) (caseS (cardsD d) d.follow raw (cardsD d).length) :=
  ⟨caseS_len _ _ _ _, fun v c x hc hx => by
    have := caseS_rng (cardsD_rng d) (f := d.follow) hr _ v x hx
    rw [getD_of_get hc] at this
    omega⟩
theorem missS_case {cs : List Int} {xs : List (List Int)} (hc : ∀ c ∈ cs, 2 ≤ c) (h : ∀ r ∈ xs, CaseOk cs r) (m : Int) : ∀ r ∈ missS xs m, CaseOk cs r := by
  intro r hr
  unfold missS at hr
  rcases List.mem_or_eq_of_mem_set hr with h' | e
  · exact h r h'
  subst e
  rw [List.getD_eq_getElem?_getD]
  have hm := h
  cases hk : xs[(m / 5 % (xs.length : Int)).toNat]? with
  | none =>
    exfalso
    have := missS_ok (n := cs.length) (xs := xs) (fun r hr => (h r hr).1) m
    rcases Nat.eq_zero_or_pos xs.length with h0 | h0
    · rw [List.eq_nil_of_length_eq_zero h0] at hr
      simp at hr
    · have := Int.emod_lt_of_pos (m / 5) (show (0 : Int) < xs.length by omega)
      have := Int.emod_nonneg (m / 5) (show (xs.length : Int) ≠ 0 by omega)
      have := List.getElem?_eq_none_iff.1 hk
      omega
  | some q =>
    have hq := h q (List.mem_of_getElem? hk)
    refine ⟨by simp only [Option.getD_some, List.length_set]; exact hq.1, fun v c x h1 h2 => ?_⟩
    simp only [Option.getD_some] at h2
    rw [List.getElem?_set] at h2
    split at h2
    · split at h2
      · obtain rfl := Option.some.inj h2
        have := hc c (List.mem_of_getElem? h1)
        omega
      · cases h2
    · exact hq.2 v c x h1 h2
theorem missD_data {d : D25} (hd : d.Ok) : DataOk (cardsD d) (missD d) := by
  have hl := cardsD_len d
  have hr := cardsD_rng d
  refine ⟨by omega, (missD_ok d).1, fun c h => by have := hr c h; omega, ?_, ?_⟩
  · have h1 := prodL_le_pow (b := 3) (by omega) (l := cardsD d) fun x hx => by have := hr x hx; omega
    have h3 : (3 : Nat) ^ (cardsD d).length ≤ 3 ^ 5 := Nat.pow_le_pow_right (by decide) hl.2
    have h4 : ((3 : Int) ^ (cardsD d).length) ≤ 3 ^ 5 := by exact_mod_cast h3
    have : (3 : Int) ^ 5 = 243 := by decide
    omega
  · unfold missD
    have key : ∀ (ms : List Int) (xs : List (List Int)), (∀ r ∈ xs, CaseOk (cardsD d) r) → ∀ r ∈ ms.foldl missS xs, CaseOk (cardsD d) r := by
      intro ms
      induction ms with
      | nil => intro xs h; exact h
      | cons m ms ih => intro xs h; exact ih _ (missS_case (fun c hc => (hr c hc).1) h m)
    refine key _ _ fun r h => ?_
    obtain ⟨raw, hraw, rfl⟩ := List.mem_map.1 h
    exact caseS_ok hd fun x hx => ((hd.x8 raw (List.mem_of_mem_take hraw)).2 x hx).1
end Go.Proofs
