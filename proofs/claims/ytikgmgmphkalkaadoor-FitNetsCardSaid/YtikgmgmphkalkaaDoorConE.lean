/- Own work: contracts. -/
import Derived.Test.YtikgmgmphkalkaaDoorConD
import Derived.Test.YtikgmgmphkalkaaDoorConC
import Derived.Test.YtikgmgmphkalkaaDoorConB
set_option linter.all false
set_option maxRecDepth 100000
namespace Go.Proofs
open Go.Hx
def bendD (w a n : Int) (cs : List Int) (xs : List (List Int)) : List Int × List (List Int) :=
  if w % 6 = 0 then (cs.set (a % (cs.length : Int)).toNat n, xs)
  else if w % 6 = 1 ∧ 0 < xs.length then
    (cs, xs.set (a / 4 % (xs.length : Int)).toNat ((xs.getD (a / 4 % (xs.length : Int)).toNat []).set (a % ((xs.getD (a / 4 % (xs.length : Int)).toNat []).length : Int)).toNat n))
  else if w % 6 = 2 ∧ 0 < xs.length then (cs, xs.set (a % (xs.length : Int)).toNat ((xs.getD (a % (xs.length : Int)).toNat []).drop 1))
  else if w % 6 = 3 then (cs, xs ++ List.replicate (41 - xs.length) (List.replicate cs.length 0))
  else if w % 6 = 4 then ([4, 4, 4, 4, 4, 4], [])
  else ([], xs)
def bend25C (w a n : Int) : List AVal := [.lit (.int .u8 w), .lit (.int .u8 a), .lit (.int .i64 n)]
abbrev bend25B (w a n : Int) : Blk := .arr 0 39 [.lit (.int .u8 w), .lit (.int .u8 a), .lit (.int .i64 n)]
theorem fz_cut1 {S : Nat → Prop} {lo nx idt gt idr gr k : Nat} {Hi Hz : AHeap} {ocs : List AVal} {xs : List (List Int)} {r : List Int} (hS : ∀ i, lo ≤ i → S i) (oL : ocs.length = (xs.map ints).length) (oC : ∀ (j : Nat) (q : List AVal) (c : AVal), (xs.map ints)[j]? = some q → ocs[j]? = some c → OwnG lo Hi 3 c q)
    (hit : lo ≤ idt) (hgt : Hz.get idt = some (.arr gt 22 (ocs.set k (.own idr gr 1 (r.length - 1) 1)))) (hn : idt < Hz.next) (hir : lo ≤ idr) (hgr : Hz.get idr = some (.arr gr 3 (ints r))) (hkeep : ∀ id g c, lo ≤ id → Hi.get id = some (.arr g 3 c) → Hz.get id = Hi.get id) (hnx : Hi.next ≤ Hz.next) :
    Fz S Hz nx (.own idt gt 0 xs.length 1) (vecV (xs.set k (r.drop 1))) := by
  rw [List.length_map] at oL
  have hG : OwnG lo Hz 22 (.own idt gt 0 xs.length 1) (ocs.set k (.own idr gr 1 (r.length - 1) 1)) := .inr ⟨idt, gt, hit, hn, by rw [List.length_set, oL], hgt⟩
  have := hG.fz (S := S) (nx := nx) (cs' := (xs.set k (r.drop 1)).map vecI) hS (by simp [oL]) fun i h h' => by
    simp only [List.getElem_map, List.getElem_set]
    split
    · have hl : (vecI (r.drop 1)) = .vec (r.length - 1) (ints (r.drop 1)) := by unfold vecI; rw [List.length_drop]
      rw [hl]
      refine .frz (hS _ hir) hgr (by rw [ints_length, List.length_drop]; omega) fun j a b c => ?_
      simp only [ints, List.getElem_map, List.getElem_drop]
      exact .lit _
    · rw [List.length_set] at h
      refine OwnG.fzI (lo := lo) (e := 3) ?_ hS
      have h1 : ocs[i]? = some ocs[i] := List.getElem?_eq_getElem h
      have h2 : (xs.map ints)[i]? = some (ints (xs[i]'(by omega))) := by rw [List.getElem?_map, List.getElem?_eq_getElem (by omega)]; rfl
      exact (oC i _ _ h2 h1).keep (Nat.le_refl _) hnx fun id g a _ b _ => hkeep id g _ a b
  rw [List.length_map, List.length_set] at this
  unfold vecV
  rw [List.length_set]
  exact this
set_option maxHeartbeats 4000000 in
theorem bend25_spec (w a n : Int) (hw : U8 w) (ha : U8 a) (cs : List Int) (xs : List (List Int)) (hc : 1 ≤ cs.length ∧ cs.length ≤ 64) (hx : xs.length ≤ 41) (hr : RowsN cs.length xs) (H : AHeap) (K : ARes → AHeap → Prop) (hK : K (.ret (dataV (bendD w a n cs xs).1 (bendD w a n cs xs).2)) H) :
    ACall Tryd.prog G0 17 [.agg (bend25C w a n), dataV cs xs] H K := by
  refine ACall.clo ⟨_, Tryd.func17, rfl, rfl⟩ fun hcl => ?_
  unfold U8 at hw ha
  refine ACall.of_bodyW (n := 138) (rs := [.cell 4 50]) Tryd.func17 rfl rfl rfl (by decide) (by simp) ?_
  refine W.seq (vc_sound _ _ _ (by rfl) ?_)
  simp (config := { maxSteps := 1000000 }) only [go_sem, bend25C, dataV, vecV, appendA_U]
  obtain ⟨H1, hH1⟩ : ∃ H1, H1 = ext H [bend25B w a n, dBlk (vecI cs) (.vec xs.length (xs.map vecI)), dBlk (.lit (.slice none 0 0)) (.lit (.slice none 0 0))] := ⟨_, rfl⟩
  have b0 : H1.get H.next = some (bend25B w a n) := by rw [hH1]; exact get_ext0 ..
  have b1 : H1.get (H.next + 1) = some (dBlk (vecI cs) (.vec xs.length (xs.map vecI))) := by rw [hH1]; exact get_ext H _ 1 (by simp)
  have b2 : H1.get (H.next + 2) = some (dBlk (.lit (.slice none 0 0)) (.lit (.slice none 0 0))) := by rw [hH1]; exact get_ext H _ 2 (by simp)
  have n1 : H1.next = H.next + 3 := by rw [hH1]; rfl
  have o1 : Over H H1 := by rw [hH1]; exact .ext _ _
  refine W.env fun E hE => ?_
  have e2 : E 2 = .ptr H.next 0 0 := by rw [hE]; simp (config := { maxSteps := 1000000 }) only [go_sem, appendA_U]
  have e3 : E 3 = .ptr (H.next + 1) 0 0 := by rw [hE]; simp (config := { maxSteps := 1000000 }) only [go_sem, appendA_U]
  have e4 : E 4 = .ptr (H.next + 2) 0 0 := by rw [hE]; simp (config := { maxSteps := 1000000 }) only [go_sem, appendA_U]
  clear hE
  show W _ _ _ _ _ _ ⟨E, ext H [bend25B w a n, dBlk (vecI cs) (.vec xs.length (xs.map vecI)), dBlk (.lit (.slice none 0 0)) (.lit (.slice none 0 0))]⟩
  rw [← hH1]
  clear hH1
  have l1 := get_live b1
  have l1e : ∀ L, (ext H1 L).live (H.next + 1) 0 = _ := fun L => (ext_live_old (by omega)).trans l1
  obtain ⟨cv, Hq, hA1, hcO, hqn, hqp⟩ := app_vecG (P := Tryd.prog) (H := ext H1 [.arr 0 3 []]) (t := 22) (n := H1.next + 1) (lo := H1.next) (src := ints cs) Tryd.underlying22 Tryd.cells3 Tryd.zero3 (all_one_ints _) (by rw [Tryd.bytes3, ints_length, List.length_nil]; omega) (OwnG.new (H := H1) (cs := [])) (by rw [ext_next]; simp) rfl
  rw [List.nil_append] at hcO
  rw [ints_length] at hA1
  simp only [List.length_nil] at hA1
  have cone := hcO.one
  have ccells := hcO.cells
  have rz : List.replicate 0 (AVal.lit (.int .i64 0)) = [] := rfl
  refine W.seq (vc_sound _ _ _ (by rfl) ?_)
  simp (config := { maxSteps := 1000000 }) only [go_sem, e2, e3, e4, l1, l1e, hA1, cone, ccells, rz]
  have hxn : (ext H1 [.arr 0 3 []]).next = H1.next + 1 := rfl
  have oq : Over H1 Hq := ⟨by omega, fun id h => by rw [hqp id (by omega) (fun g m e => by have := (AVal.own.inj e).1; omega), get_ext_old _ _ _ h]⟩
  obtain ⟨Hs, hHs⟩ : ∃ Hs, Hs = ext Hq [dBlk cv (.lit (.slice none 0 0))] := ⟨_, rfl⟩
  have ns : Hs.next = Hq.next + 1 := by rw [hHs]; rfl
  have os : Over Hq Hs := by rw [hHs]; exact .ext _ _
  have b5 : Hs.get Hq.next = some (dBlk cv (.lit (.slice none 0 0))) := by rw [hHs]; exact ext1_get_new
  have oall := (o1.trans oq).trans os
  have c0 := (os.old _ (by omega)).trans ((oq.old _ (by omega)).trans b0)
  have c1 := (os.old _ (by omega)).trans ((oq.old _ (by omega)).trans b1)
  have c2 := (os.old _ (by omega)).trans ((oq.old _ (by omega)).trans b2)
  have csO := hcO.over os
  rw [← hHs]
  refine W.env fun E hE => ?_
  have f2 : E 2 = .ptr H.next 0 0 := by rw [hE]; simp (config := { maxSteps := 1000000 }) only [go_sem, e2, appendA_U]
  have f3 : E 3 = .ptr (H.next + 1) 0 0 := by rw [hE]; simp (config := { maxSteps := 1000000 }) only [go_sem, e3, appendA_U]
  have f4 : E 4 = .ptr (H.next + 2) 0 0 := by rw [hE]; simp (config := { maxSteps := 1000000 }) only [go_sem, e4, appendA_U]
  have f5 : E 5 = .ptr Hq.next 0 0 := by rw [hE]; simp (config := { maxSteps := 1000000 }) only [go_sem, appendA_U]
  clear hE hHs
  obtain ⟨idc, gc, ic1, ic2, hcv, hgc⟩ : ∃ id g, H1.next ≤ id ∧ id < Hq.next ∧ cv = .own id g 0 cs.length 1 ∧ Hs.get id = some (.arr g 3 (ints cs)) := by
    rcases hcO with ⟨_, e⟩ | ⟨id, g, h1, h2, h3, h4⟩
    · have := congrArg List.length e
      rw [ints_length, List.length_nil] at this
      omega
    · rw [ints_length] at h3
      exact ⟨id, g, h1, h2, h3, (os.old _ h2).trans h4⟩
  clear csO hcO cone ccells hqp hA1
  refine W.midN (fun s' => s'.ρ 2 = .ptr H.next 0 0 ∧ s'.ρ 3 = .ptr (H.next + 1) 0 0 ∧ s'.ρ 4 = .ptr (H.next + 2) 0 0 ∧ s'.ρ 5 = .ptr Hq.next 0 0 ∧ Hs.next ≤ s'.H.next ∧ (∀ id, id < Hq.next → s'.H.get id = Hs.get id) ∧ ∃ xv, s'.H.get Hq.next = some (dBlk cv xv) ∧ OwnD2 Hs.next s'.H 22 3 xv (xs.map ints)) ?_ ?_
  · refine W.seq (vc_sound _ _ _ (by rfl) ?_)
    simp (config := { maxSteps := 1000000 }) only [go_sem, appendA_U]
    refine W.block ?_
    refine W.loop0 8589918272 (by rfl) (fun ρ Hi => ∃ (i : Nat) (xv : AVal), ρ 6 = lin i ∧ i ≤ xs.length ∧ Hs.next ≤ Hi.next ∧ (∀ id, id < Hq.next → Hi.get id = Hs.get id) ∧ Hi.get Hq.next = some (dBlk cv xv) ∧ OwnD2 Hs.next Hi 22 3 xv ((xs.take i).map ints)) (fun ρ H => xs.length - (iv (ρ 6)).toNat) ?_ ?_
    · simp (config := { maxSteps := 1000000 }) only [go_sem, appendA_U]
      exact ⟨0, _, rfl, by omega, b5, .nil⟩
    rintro ρ Hi ⟨i, xv, h6, hi, hni, holdi, hbi, hD⟩
    refine vc_sound _ _ _ (by rfl) ?_
    have l1 := get_live ((holdi _ (by omega)).trans c1)
    have l5 := get_live hbi
    by_cases g1 : (i : Int) < xs.length
    rotate_left
    · simp (config := { maxSteps := 1000000 }) only [go_sem, f2, f3, f4, f5, h6, l1, g1, appendA_U]
      rw [List.take_of_length_le (by omega)] at hD
      exact ⟨hni, holdi, xv, hbi, hD⟩
    obtain ⟨r, hrr⟩ := get_of_lt (l := xs) (i := i) (by omega)
    have rl := hr r (List.mem_of_getElem? hrr)
    have hr' := vecV_get hrr
    have hrn := ne_of_get hr'
    have l1e : ∀ L, (ext Hi L).live (H.next + 1) 0 = _ := fun L => (ext_live_old (by omega)).trans l1
    have l5e : ∀ L, (ext Hi L).live Hq.next 0 = _ := fun L => (ext_live_old (by omega)).trans l5
    obtain ⟨rv, Hx, hA1, rO, hxn', hxp⟩ := app_vecG (P := Tryd.prog) (H := ext Hi [.arr 0 3 []]) (t := 22) (n := Hi.next + 1) (lo := Hi.next) (src := ints r) Tryd.underlying22 Tryd.cells3 Tryd.zero3 (all_one_ints _) (by rw [Tryd.bytes3, ints_length, List.length_nil]; omega) (OwnG.new (H := Hi) (cs := [])) (by rw [ext_next]; simp) rfl
    rw [List.nil_append] at rO
    rw [ints_length] at hA1
    simp only [List.length_nil] at hA1
    have hen : (ext Hi [.arr 0 3 []]).next = Hi.next + 1 := rfl
    have ox : Over Hi Hx := ⟨by omega, fun id h => by rw [hxp id (by omega) (fun g m e => by have := (AVal.own.inj e).1; omega), get_ext_old _ _ _ h]⟩
    have rone := rO.one
    have rcells := rO.cells
    obtain ⟨xv2, H5, hA2, hD5, hn5, hp⟩ := OwnD2.app (P := Tryd.prog) (n := Hx.next + 1) (t := 48) Tryd.underlying48 Tryd.cells22 Tryd.zero22 Tryd.bytes22 (by decide) (by rw [List.length_map, List.length_take]; omega) hD ox hni rO rfl
    have k5 : H5.live Hq.next 0 = _ := get_live ((hp _ (by omega) (by omega)).trans ((ox.old _ (by omega)).trans hbi))
    obtain ⟨xone, xcells⟩ := ownD2_one hD5
    have w1 := IntWalk.i64_in ((i : Int) + 1) (by omega)
    simp (config := { maxSteps := 1000000 }) only [go_sem, f2, f3, f4, f5, h6, l1, g1, appendA_U]
    refine W.draw 10 [0, 1, 0, 0, 8, 0, 56, 120, 252, 508] Tryd.mixed (by kernel_rfl) (by kernel_rfl) ?_
    simp (config := { maxSteps := 1000000 }) only [go_sem, f2, f3, f4, f5, h6, l1, l5, l1e, l5e, g1, hr', hrn, hA1, rone, rcells, hA2, k5, xone, xcells, rz, w1]
    refine ⟨⟨fun _ h => by omega, fun _ h => by omega⟩, fun _ h => by omega, fun _ h => by omega, ⟨fun _ h => by omega, fun _ h => by omega⟩, ⟨fun _ h => by omega, fun _ h => by omega⟩, by rw [upd_next]; omega, ⟨i + 1, xv2, rfl, by omega, by rw [upd_next]; omega, fun id h => by rw [upd_get, if_neg (by omega), hp id (by omega) (by omega), ox.old id (by omega)]; exact holdi id h, by rw [upd_get, if_pos rfl], ?_⟩, by omega⟩
    rw [take_succ_get hrr, List.map_append]
    exact ownD2_upd hD5 (by omega)
  rintro ⟨ρ1, Hi⟩ ⟨p2, p3, p4, p5, hni, hold, xv, hb5, hD⟩
  simp only at p2 p3 p4 p5 hni hold hb5 hD
  have k0 := get_live ((hold _ (by omega)).trans c0)
  have k2 := get_live ((hold _ (by omega)).trans c2)
  have k5 := get_live hb5
  have gci := (hold _ ic2).trans hgc
  have kc := get_live gci
  obtain ⟨xone, xcells⟩ := ownD2_one hD
  have oi : Over H Hi := ⟨by have := oall.next; omega, fun id h => (hold id (by omega)).trans (oall.old id h)⟩
  have wm : w.tmod 6 = w % 6 := Int.tmod_eq_emod_of_nonneg hw.1
  have wu : IntKind.u8.wrap (w % 6) = w % 6 := IntWalk.u8_in _ (by omega)
  have ai := IntWalk.i64_in a (by omega)
  have fin : ∀ (Hz : AHeap) (cv' xv' : AVal) (cs' : List Int) (xs' : List (List Int)), H.next ≤ Hz.next → (∀ id, id < H.next → Hz.get id = H.get id) → Fz (fun id => H.next ≤ id) Hz H.next cv' (vecI cs') → Fz (fun id => H.next ≤ id) Hz H.next xv' (vecV xs') → (cs', xs') = bendD w a n cs xs → FinV Tryd.prog G0 H K (.agg [cv', xv']) Hz := fun Hz cv' xv' cs' xs' h1 h2 h3 h4 h5 => by
    rw [← h5] at hK
    exact FinV.dropO G0_ok hcl ⟨h1, h2⟩ (fz_data h3 h4) hK
  rw [hcv] at k5 hb5
  have own : ∀ (Hz : AHeap) (cs' : List Int), idc < Hz.next → cs'.length = cs.length → Hz.get idc = some (.arr gc 3 (ints cs')) → Fz (fun id => H.next ≤ id) Hz H.next (.own idc gc 0 cs.length 1) (vecI cs') := fun Hz cs' h1 h2 h3 => by
    rw [← h2]
    exact OwnG.fzI (lo := H.next) (.inr ⟨idc, gc, by omega, h1, by rw [ints_length], h3⟩) fun i h => h
  have kl : (0 : Int) < cs.length := by omega
  have cz : ¬ (cs.length : Int) = 0 := by omega
  have hlen : lenU (some (TypeDesc.slice 22)) Hi xv = some (.lit (.int .i64 xs.length)) := by
    obtain ⟨ocs, oG, oL, _, _⟩ := hD
    have := own_len oG (d := some (.slice 22)) rfl
    rw [oL, List.length_map] at this
    exact this
  have u2 : ∀ b, (Hi.upd Hq.next b).live (H.next + 2) 0 = _ := fun b => (live_upd_other (by omega)).trans k2
  have onext := oi.next
  have nilC : bendD w a n cs xs = ([], xs) → FinV Tryd.prog G0 H K (.agg [.lit (.slice none 0 0), xv]) ((Hi.upd Hq.next (dBlk (.lit (.slice none 0 0)) xv)).upd (H.next + 2) (dBlk (.lit (.slice none 0 0)) xv)) := fun hb =>
    fin _ _ _ [] xs (by rw [upd_next, upd_next]; omega) (fun id h => by rw [upd_get, if_neg (by omega), upd_get, if_neg (by omega)]; exact oi.old id h) .nil (fz_rows (ownD2_upd (ownD2_upd hD (by omega)) (by omega)).toG fun i hi => by omega) hb.symm
  refine vc_sound _ _ _ (by rfl) ?_
  have hw6 : w % 6 = 0 ∨ w % 6 = 1 ∨ w % 6 = 2 ∨ w % 6 = 3 ∨ w % 6 = 4 ∨ w % 6 = 5 := by omega
  rcases hw6 with d | d | d | d | d | d
  · have jr := Int.emod_lt_of_pos a kl
    have jn := Int.emod_nonneg a cz
    obtain ⟨j, hj⟩ := Int.eq_ofNat_of_zero_le jn
    have jt : a.tmod (cs.length : Int) = j := by rw [Int.tmod_eq_emod_of_nonneg ha.1]; exact hj
    have jl : (j : Int) < cs.length := by omega
    have u5 : ∀ b, (Hi.upd idc b).live Hq.next 0 = _ := fun b => (live_upd_other (by omega)).trans k5
    have u2 : ∀ b, (Hi.upd idc b).live (H.next + 2) 0 = _ := fun b => (live_upd_other (by omega)).trans k2
    simp (config := { maxSteps := 1000000 }) only [go_sem, p2, p3, p4, p5, k0, k5, wm, wu, d, appendA_U]
    refine W.draw 11 [0, 1, 0, 4, 12, 0, 32, 96, 252, 0, 512] Tryd.mixed (by kernel_rfl) (by kernel_rfl) ?_
    simp (config := { maxSteps := 1000000 }) only [go_sem, p2, p3, p4, p5, k0, k2, k5, wm, wu, d, ai, jt, cz, jl, kc, u5, u2, xone, xcells, appendA_U]
    refine ⟨by omega, fin _ _ _ (cs.set j n) xs (by rw [upd_next, upd_next]; have := oi.next; omega) (fun id h => by rw [upd_get, if_neg (by omega), upd_get, if_neg (by omega)]; exact oi.old id h) (own _ _ (by rw [upd_next, upd_next]; omega) (by simp) (by rw [upd_get, if_neg (by omega), upd_get, if_pos rfl, setAt_ints (by omega)])) (fz_rows (ownD2_upd (ownD2_upd hD (by omega)) (by omega)).toG fun i hi => by omega) ?_⟩
    unfold bendD
    rw [if_pos d, hj]
    rfl
  · by_cases hxl : (xs.length : Int) > 0
    rotate_left
    · simp (config := { maxSteps := 1000000 }) only [go_sem, p2, p3, p4, p5, k0, k2, k5, wm, wu, d, hlen, hxl, xone, xcells, u2, guardA_undef, appendA_U]
      refine nilC ?_
      have : ¬ 0 < xs.length := by omega
      unfold bendD
      rw [d, if_neg (by decide), if_neg (fun h => this h.2), if_neg (fun h => this h.2), if_neg (by decide), if_neg (by decide)]
    have kr := Int.emod_lt_of_pos (a / 4) (show (0 : Int) < xs.length by omega)
    have kn := Int.emod_nonneg (a / 4) (show (xs.length : Int) ≠ 0 by omega)
    obtain ⟨k, hk⟩ := Int.eq_ofNat_of_zero_le kn
    obtain ⟨r, hrr⟩ := get_of_lt (l := xs) (i := k) (by omega)
    have rl := hr r (List.mem_of_getElem? hrr)
    have jr := Int.emod_lt_of_pos a (show (0 : Int) < r.length by omega)
    have jn := Int.emod_nonneg a (show (r.length : Int) ≠ 0 by omega)
    obtain ⟨j, hj⟩ := Int.eq_ofNat_of_zero_le jn
    obtain ⟨idt, gt, idr, gr, cells, hxv, hgt, hcl2, it1, it2, hck, hgr, ir1, ir2, hset⟩ := OwnD2.row hD (by decide) (k := k) (r := ints r) (by rw [List.getElem?_map, hrr]; rfl) (by intro e; have := congrArg List.length e; rw [ints_length, List.length_nil] at this; omega)
    rw [List.length_map] at hxv hcl2
    rw [ints_length] at hck
    have lt := get_live hgt
    have lr := get_live hgr
    have cne := ne_of_get hck
    have q4 : a.tdiv 4 = a / 4 := Int.tdiv_eq_ediv_of_nonneg ha.1
    have v1 : IntKind.u8.wrap (a / 4) = a / 4 := IntWalk.u8_in _ (by omega)
    have v2 := IntWalk.i64_in (a / 4) (by omega)
    have v3 : (a / 4).tmod (xs.length : Int) = k := by rw [Int.tmod_eq_emod_of_nonneg (by omega)]; exact hk
    have v6 : a.tmod (r.length : Int) = j := by rw [Int.tmod_eq_emod_of_nonneg (by omega)]; exact hj
    have x0 : ¬ (xs.length : Int) = 0 := by omega
    have r0 : ¬ (r.length : Int) = 0 := by omega
    have kl' : (k : Int) < xs.length := by omega
    have jl : (j : Int) < r.length := by omega
    have hset' := hset (ints (r.set j n)) (by rw [ints_length, ints_length, List.length_set])
    rw [hxv] at k5 hlen xone xcells hset'
    have u5 : ∀ b, (Hi.upd idr b).live Hq.next 0 = _ := fun b => (live_upd_other (by omega)).trans k5
    have u2' : ∀ b, (Hi.upd idr b).live (H.next + 2) 0 = _ := fun b => (live_upd_other (by omega)).trans k2
    simp (config := { maxSteps := 1000000 }) only [go_sem, p2, p3, p4, p5, k0, k2, k5, wm, wu, d, hlen, hxl, guardA_undef, appendA_U]
    refine W.draw 10 [0, 1, 0, 4, 12, 28, 0, 64, 192, 508] Tryd.mixed (by kernel_rfl) (by kernel_rfl) ?_
    simp (config := { maxSteps := 1000000 }) only [go_sem, p2, p3, p4, p5, k0, k2, k5, wm, wu, d, q4, v1, v2, v3, x0, kl', lt, hck, cne, appendA_U]
    refine W.draw 9 [0, 0, 2, 6, 0, 16, 62, 0, 128] Tryd.mixed (by kernel_rfl) (by kernel_rfl) ?_
    simp (config := { maxSteps := 1000000 }) only [go_sem, p2, p3, p4, p5, k0, k2, k5, wm, wu, d, ai, v6, r0, jl, lr, u5, u2', xone, xcells, appendA_U]
    rw [setAt_ints (by omega)]
    have e : (xs.map ints).set k (ints (r.set j n)) = (xs.set k (r.set j n)).map ints := by rw [List.map_set]
    rw [e] at hset'
    refine ⟨by omega, fin _ _ _ cs (xs.set k (r.set j n)) (by rw [upd_next, upd_next]; omega) (fun id h => by rw [upd_get, if_neg (by omega), upd_get, if_neg (by omega)]; exact oi.old id h) (own _ _ (by rw [upd_next, upd_next]; omega) rfl (by rw [upd_get, if_neg (by omega), upd_get, if_neg (by omega)]; exact gci)) (fz_rows (ownD2_upd hset' (by omega)).toG fun i hi => by omega) ?_⟩
    unfold bendD
    rw [if_neg (by omega), if_pos ⟨d, by omega⟩]
    simp only [hk, Int.ofNat_eq_natCast, Int.toNat_natCast, getD_of_get hrr, hj]
  · by_cases hxl : (xs.length : Int) > 0
    rotate_left
    · simp (config := { maxSteps := 1000000 }) only [go_sem, p2, p3, p4, p5, k0, k2, k5, wm, wu, d, hlen, hxl, xone, xcells, u2, guardA_undef, appendA_U]
      refine nilC ?_
      have : ¬ 0 < xs.length := by omega
      unfold bendD
      rw [d, if_neg (by decide), if_neg (fun h => this h.2), if_neg (fun h => this h.2), if_neg (by decide), if_neg (by decide)]
    have kr := Int.emod_lt_of_pos a (show (0 : Int) < xs.length by omega)
    have kn := Int.emod_nonneg a (show (xs.length : Int) ≠ 0 by omega)
    obtain ⟨k, hk⟩ := Int.eq_ofNat_of_zero_le kn
    obtain ⟨r, hrr⟩ := get_of_lt (l := xs) (i := k) (by omega)
    have rl := hr r (List.mem_of_getElem? hrr)
    obtain ⟨ocs, oG, oL, oC, oD⟩ := hD
    have hri : (xs.map ints)[k]? = some (ints r) := by rw [List.getElem?_map, hrr]; rfl
    obtain ⟨ck, hck⟩ := get_of_lt (l := ocs) (i := k) (by rw [oL, List.length_map]; omega)
    have okR := oC k _ ck hri hck
    rcases oG with ⟨_, e⟩ | ⟨idt, gt, it1, it2, hxv, hgt⟩
    · rw [e] at hck; cases hck
    rcases okR with ⟨_, e⟩ | ⟨idr, gr, ir1, ir2, hcr, hgr⟩
    · have := congrArg List.length e
      rw [ints_length, List.length_nil] at this
      omega
    rw [oL, List.length_map] at hxv
    rw [ints_length] at hcr
    rw [hcr] at hck
    have lt := get_live hgt
    have cne := ne_of_get hck
    have v3 : a.tmod (xs.length : Int) = k := by rw [Int.tmod_eq_emod_of_nonneg (by omega)]; exact hk
    have v4 := IntWalk.i64_in (k : Int) (by omega)
    have x0 : ¬ (xs.length : Int) = 0 := by omega
    have kl' : (k : Int) < xs.length := by omega
    have r1 : (1 : Int) ≤ r.length := by omega
    rw [hxv] at k5 hlen xone xcells
    have u5 : ∀ b, (Hi.upd idt b).live Hq.next 0 = _ := fun b => (live_upd_other (by omega)).trans k5
    have u2' : ∀ b, (Hi.upd idt b).live (H.next + 2) 0 = _ := fun b => (live_upd_other (by omega)).trans k2
    simp (config := { maxSteps := 1000000 }) only [go_sem, p2, p3, p4, p5, k0, k2, k5, wm, wu, d, hlen, hxl, ai, v3, v4, x0, guardA_undef, appendA_U]
    refine W.draw 9 [0, 1, 0, 0, 8, 0, 56, 120, 248] Tryd.mixed (by kernel_rfl) (by kernel_rfl) ?_
    have lr := get_live hgr
    simp (config := { maxSteps := 1000000 }) only [go_sem, p2, p3, p4, p5, k0, k2, k5, kl', lt, lr, hck, cne, r1, u5, u2', xone, xcells, appendA_U]
    have hlt : Hi.next ≤ ((Hi.upd idt (.arr gt 22 (setAt ocs k [.own idr gr 1 (r.length - 1) 1]))).upd (H.next + 2) (dBlk (.own idc gc 0 cs.length 1) (.own idt gt 0 xs.length 1))).next := by rw [upd_next, upd_next]; exact Nat.le_refl _
    refine ⟨by rw [oL, List.length_map]; omega, fin _ _ _ cs (xs.set k (r.drop 1)) (Nat.le_trans onext hlt) (fun id h => by rw [upd_get, if_neg (by omega), upd_get, if_neg (by omega)]; exact oi.old id h) (own _ _ (Nat.lt_of_lt_of_le (show idc < Hi.next by omega) hlt) rfl (by rw [upd_get, if_neg (by omega), upd_get, if_neg (by omega)]; exact gci)) ?_ ?_⟩
    · have hne2 : idr ≠ idt := fun e => by rw [e, hgt] at hgr; cases hgr
      refine fz_cut1 (lo := Hs.next) (Hi := Hi) (fun i h => by omega) oL oC it1 (by rw [upd_get, if_neg (by omega), upd_get, if_pos rfl, setAt_one (by rw [oL, List.length_map]; omega)]) (Nat.lt_of_lt_of_le it2 hlt) ir1 (by rw [upd_get, if_neg (by omega), upd_get, if_neg hne2]; exact hgr) (fun id g c h1 h2 => ?_) hlt
      rw [upd_get, if_neg (by omega), upd_get, if_neg]
      rintro rfl
      rw [hgt] at h2
      cases h2
    · unfold bendD
      rw [if_neg (by omega), if_neg (fun h => by omega), if_pos ⟨d, by omega⟩]
      simp only [hk, Int.ofNat_eq_natCast, Int.toNat_natCast, getD_of_get hrr]
  · simp (config := { maxSteps := 1000000 }) only [go_sem, p2, p3, p4, p5, k0, k2, k5, wm, wu, d, xone, xcells, appendA_U]
    refine W.loop0 1360963314184280739369385453844537802752 (by rfl) (fun ρ Hj => ∃ (m : Nat) (xv' : AVal), m + xs.length ≤ 41 ∧ Hi.next ≤ Hj.next ∧ (∀ id, id < Hq.next → Hj.get id = Hi.get id) ∧ Hj.get Hq.next = some (dBlk (.own idc gc 0 cs.length 1) xv') ∧ OwnD2 Hs.next Hj 22 3 xv' ((xs ++ List.replicate m (List.replicate cs.length 0)).map ints)) (fun _ Hj => match Hj.get Hq.next with | some (.arr _ _ [_, .own _ _ _ l _]) => 41 - l | _ => 42) ?_ ?_
    · simp (config := { maxSteps := 1000000 }) only [go_sem, appendA_U]
      exact ⟨0, xv, by omega, hb5, by simpa using hD⟩
    rintro ρ Hj ⟨m, xv', hm, hnj, holdj, hbj, hDj⟩
    refine vc_sound _ _ _ (by rfl) ?_
    have j2 := get_live ((holdj _ (by omega)).trans ((hold _ (by omega)).trans c2))
    have j5 := get_live hbj
    obtain ⟨yone, ycells⟩ := ownD2_one hDj
    have hlenj : lenU (some (TypeDesc.slice 22)) Hj xv' = some (.lit (.int .i64 ((xs.length + m : Nat) : Int))) := by
      obtain ⟨ocs, oG, oL, _, _⟩ := hDj
      have := own_len oG (d := some (.slice 22)) rfl
      rw [oL, List.length_map, List.length_append, List.length_replicate] at this
      exact this
    by_cases g1 : ((xs.length + m : Nat) : Int) < 41
    rotate_left
    · simp (config := { maxSteps := 1000000 }) only [go_sem, p2, p3, p4, p5, j2, j5, hlenj, g1, yone, ycells, appendA_U]
      obtain rfl : m = 41 - xs.length := by omega
      refine fin _ _ _ cs (xs ++ List.replicate (41 - xs.length) (List.replicate cs.length 0)) (by rw [upd_next]; omega) (fun id h => by rw [upd_get, if_neg (by omega), holdj id (by omega)]; exact oi.old id h) (own _ _ (by rw [upd_next]; omega) rfl (by rw [upd_get, if_neg (by omega)]; exact (holdj _ ic2).trans gci)) (fz_rows (ownD2_upd hDj (by omega)).toG fun i hi => by omega) ?_
      unfold bendD
      rw [d, if_neg (by decide), if_neg (fun h => absurd h.1 (by decide)), if_neg (fun h => absurd h.1 (by decide)), if_pos rfl]
    have zr : List.replicate cs.length (AVal.lit (.int .i64 0)) = ints (List.replicate cs.length 0) := by simp [ints, lin]
    have zO : OwnG Hj.next (ext Hj [.arr 0 3 (ints (List.replicate cs.length 0))]) 3 (.own Hj.next 0 0 cs.length 1) (ints (List.replicate cs.length 0)) := by
      have := OwnG.new (H := Hj) (e := 3) (cs := ints (List.replicate cs.length 0))
      rw [ints_length, List.length_replicate] at this
      exact this
    have zn : (ext Hj [.arr 0 3 (ints (List.replicate cs.length 0))]).next = Hj.next + 1 := rfl
    obtain ⟨xv2, H5, hA2, hD5, hn5, hp⟩ := OwnD2.app (P := Tryd.prog) (n := Hj.next + 1 + 1) (t := 48) Tryd.underlying48 Tryd.cells22 Tryd.zero22 Tryd.bytes22 (by decide) (by rw [List.length_map, List.length_append, List.length_replicate]; omega) hDj (.ext _ _) (by omega) zO (by rw [zn])
    rw [zn] at hA2 hn5 hp
    have k5' : H5.live Hq.next 0 = _ := get_live ((hp _ (by omega) (by omega)).trans ((get_ext_old _ _ _ (by omega)).trans hbj))
    obtain ⟨xone2, xcells2⟩ := ownD2_one hD5
    have kcj := get_live ((holdj _ ic2).trans gci)
    simp (config := { maxSteps := 1000000 }) only [go_sem, p2, p3, p4, p5, j2, j5, hlenj, g1, yone, ycells, appendA_U]
    refine W.draw 7 [0, 1, 0, 4, 12, 28, 60] Tryd.mixed (by kernel_rfl) (by kernel_rfl) ?_
    simp (config := { maxSteps := 1000000 }) only [go_sem, p2, p3, p4, p5, j5, kcj, zr, hA2, k5', xone2, xcells2]
    refine ⟨⟨by omega, by omega⟩, ⟨fun _ h => by omega, fun _ h => by omega⟩, ⟨fun _ h => by omega, fun _ h => by omega⟩, by rw [upd_next]; omega, ⟨m + 1, xv2, by omega, by rw [upd_next]; omega, fun id h => by rw [upd_get, if_neg (by omega), hp id (by omega) (by omega), get_ext_old _ _ _ (by omega)]; exact holdj id h, by rw [upd_get, if_pos rfl], ?_⟩, ?_⟩
    · rw [show List.replicate (m + 1) (List.replicate cs.length (0 : Int)) = List.replicate m (List.replicate cs.length 0) ++ [List.replicate cs.length 0] from List.replicate_succ', ← List.append_assoc, List.map_append]
      exact ownD2_upd hD5 (by omega)
    · rw [upd_get, if_pos rfl, hbj]
      have e2 : ∃ i2 g2, xv2 = .own i2 g2 0 (xs.length + m + 1) 1 := by
        obtain ⟨ocs, oG, oL, _, _⟩ := hD5
        rw [List.length_append, List.length_map, List.length_append, List.length_replicate, List.length_singleton] at oL
        rcases oG with ⟨_, e⟩ | ⟨i2, g2, _, _, h, _⟩
        · rw [e] at oL; simp at oL
        · rw [oL] at h; exact ⟨i2, g2, h⟩
      obtain ⟨i2, g2, rfl⟩ := e2
      have e1 : xv' = .lit (.slice none 0 0) ∨ ∃ i1 g1, xv' = .own i1 g1 0 (xs.length + m) 1 := by
        obtain ⟨ocs, oG, oL, _, _⟩ := hDj
        rw [List.length_map, List.length_append, List.length_replicate] at oL
        rcases oG with ⟨h, _⟩ | ⟨i1, g1, _, _, h, _⟩
        · exact .inl h
        · rw [oL] at h; exact .inr ⟨i1, g1, h⟩
      rcases e1 with rfl | ⟨i1, g1', rfl⟩
      · show 41 - (xs.length + m + 1) < 42
        omega
      · show 41 - (xs.length + m + 1) < 41 - (xs.length + m)
        omega
  · simp (config := { maxSteps := 1000000 }) only [go_sem, p2, p3, p4, p5, k0, k2, k5, wm, wu, d, xone, xcells, appendA_U]
    refine ⟨by decide, by decide, by decide, by decide, by decide, by decide, ?_⟩
    have u5 : ∀ L, (ext Hi L).live Hq.next 0 = _ := fun L => (ext_live_old (by omega)).trans k5
    have u2 : ∀ L b, ((ext Hi L).upd Hq.next b).live (H.next + 2) 0 = _ := fun L b => (live_upd_other (by omega)).trans ((ext_live_old (by omega)).trans k2)
    simp (config := { maxSteps := 1000000 }) only [go_sem, p2, p3, p4, p5, k0, k2, k5, wm, wu, d, xone, xcells, u5, u2, appendA_U]
    refine fin _ _ _ [4, 4, 4, 4, 4, 4] [] (by rw [upd_next, upd_next, ext_next]; omega) (fun id h => by rw [upd_get, if_neg (by omega), upd_get, if_neg (by omega), get_ext_old _ _ _ (by omega)]; exact oi.old id h) (OwnG.fzI (lo := H.next) (l := [4, 4, 4, 4, 4, 4]) (.inr ⟨Hi.next, 0, by omega, by rw [upd_next, upd_next, ext_next]; simp, rfl, by rw [upd_get, if_neg (by omega), upd_get, if_neg (by omega)]; exact ext1_get_new⟩) fun i h => h) .nil ?_
    unfold bendD
    rw [d, if_neg (by decide), if_neg (fun h => absurd h.1 (by decide)), if_neg (fun h => absurd h.1 (by decide)), if_neg (by decide), if_pos rfl]
  · simp (config := { maxSteps := 1000000 }) only [go_sem, p2, p3, p4, p5, k0, k2, k5, wm, wu, d, xone, xcells, u2, appendA_U]
    refine nilC ?_
    unfold bendD
    rw [d, if_neg (by decide), if_neg (fun h => absurd h.1 (by decide)), if_neg (fun h => absurd h.1 (by decide)), if_neg (by decide), if_neg (by decide)]
theorem InB.mono {e : List Int} {a b : Int} (h : InB e a) (hab : a ≤ b) : InB e b := fun x hx => by have := h x hx; omega
end Go.Proofs
namespace Go.Hx
open Go.Proofs.R01 (pureRun_bind)
variable {P : Program} {t e : TypeId} {x y : Operand} {k k' : IntKind}
end Go.Hx
namespace Go.Proofs
open Go.Hx
theorem SmallN.fit {m : Nat} {ns : List NodeP} (h : SmallN m ns) (hm : m < 2 ^ 37) : NetFit ns := ⟨by have := h.len; omega, fun x hx => by have := h.node x hx; exact ⟨by omega, by omega, fun r hr => by have := (h.node x hx).2.2 r hr; omega⟩⟩
theorem rowsN_fit {cs : List Int} {xs : List (List Int)} (hc : cs.length ≤ 64) (hx : xs.length ≤ 41) (hr : ∀ r ∈ xs, r.length ≤ 64) : DataFit cs xs := ⟨by omega, by omega, fun r h => by have := hr r h; omega⟩
theorem bendD_fit {w a n : Int} {cs : List Int} {xs : List (List Int)} (hc : 1 ≤ cs.length ∧ cs.length ≤ 64) (hx : xs.length ≤ 41) (hr : RowsN cs.length xs) : DataFit (bendD w a n cs xs).1 (bendD w a n cs xs).2 := by
  have r64 : ∀ r ∈ xs, r.length ≤ 64 := fun r h => by rw [hr r h]; exact hc.2
  have g64 : ∀ k, (xs.getD k []).length ≤ 64 := fun k => by
    rw [List.getD_eq_getElem?_getD]
    cases h : xs[k]? with
    | none => simp
    | some r => exact r64 r (List.mem_of_getElem? h)
  unfold bendD
  split
  · exact rowsN_fit (by simp; omega) hx r64
  · split
    · refine rowsN_fit hc.2 (by simp; omega) fun r h => ?_
      rcases List.mem_or_eq_of_mem_set h with h | rfl
      · exact r64 r h
      · rw [List.length_set]; exact g64 _
    · split
      · refine rowsN_fit hc.2 (by simp; omega) fun r h => ?_
        rcases List.mem_or_eq_of_mem_set h with h | rfl
        · exact r64 r h
        · rw [List.length_drop]; have := g64 (a % (xs.length : Int)).toNat; omega
      · split
        · refine rowsN_fit hc.2 (by simp; omega) fun r h => ?_
          rcases List.mem_append.1 h with h | h
          · exact r64 r h
          · rw [List.eq_of_mem_replicate h, List.length_replicate]; exact hc.2
        · split
          · exact rowsN_fit (by simp) (by simp) fun r h => by simp at h
          · exact rowsN_fit (by simp) hx r64
def placeStep (ps : List Nat) (pl v : Nat) : Nat := if subN (ps.getD v 0) pl = 0 then pl ||| 2 ^ v else pl
def placeOnce (ps : List Nat) (pl : Nat) : Nat := (List.range ps.length).foldl (placeStep ps) pl
def placeN (ps : List Nat) : Nat → Nat → Nat
  | 0, pl => pl
  | k + 1, pl => placeN ps k (placeOnce ps pl)
theorem placeN_succ (ps : List Nat) : ∀ (k pl : Nat), placeN ps (k + 1) pl = placeOnce ps (placeN ps k pl)
  | 0, _ => rfl
  | k + 1, pl => placeN_succ ps k (placeOnce ps pl)
theorem getD_lt {ps : List Nat} {b : Nat} (hb : 0 < b) (hp : ∀ p ∈ ps, p < b) (v : Nat) : ps.getD v 0 < b := by
  rw [List.getD_eq_getElem?_getD]
  cases h : ps[v]? with
  | none => exact hb
  | some p => exact hp p (List.mem_of_getElem? h)
theorem placeStep_ge (ps : List Nat) (pl v : Nat) : Sub pl (placeStep ps pl v) := by unfold placeStep; split; exact .left _ _; exact .refl _
theorem placeF_ge (ps : List Nat) (l : List Nat) : ∀ pl, Sub pl (l.foldl (placeStep ps) pl) := by
  induction l with
  | nil => exact fun pl => .refl pl
  | cons v l ih => exact fun pl => (placeStep_ge ps pl v).trans (ih _)
theorem placeStep_lt {ps : List Nat} {n pl v : Nat} (h : pl < 2 ^ n) (hv : v < n) : placeStep ps pl v < 2 ^ n := by
  unfold placeStep
  split
  · refine lt_two_pow_of_bits fun i hi => ?_
    rw [or_pow_bit] at hi
    rcases Bool.or_eq_true_iff.1 hi with hi | hi
    · exact bit_lt h hi
    · obtain rfl := of_decide_eq_true hi; exact hv
  · exact h
theorem placeF_lt {ps : List Nat} {n : Nat} (l : List Nat) (hl : ∀ v ∈ l, v < n) : ∀ pl, pl < 2 ^ n → l.foldl (placeStep ps) pl < 2 ^ n := by
  induction l with
  | nil => exact fun pl h => h
  | cons v l ih => exact fun pl h => ih (fun w hw => hl w (by simp [hw])) _ (placeStep_lt h (hl v (by simp)))
theorem placeOnce_lt {ps : List Nat} {pl : Nat} (h : pl < 2 ^ ps.length) : placeOnce ps pl < 2 ^ ps.length := placeF_lt _ (fun v hv => List.mem_range.1 hv) pl h
theorem placeN_lt {ps : List Nat} : ∀ (k : Nat) {pl : Nat}, pl < 2 ^ ps.length → placeN ps k pl < 2 ^ ps.length
  | 0, _, h => h
  | k + 1, _, h => placeN_lt k (placeOnce_lt h)
def Placed (ps : List Nat) (pl : Nat) : Prop := Closed ps pl ∧ ∀ v, v < ps.length → pl.testBit v = true → (upL ps (ps.getD v 0)).testBit v = false
theorem Placed.step {ps : List Nat} (hp : ∀ p ∈ ps, p < 2 ^ 64) {pl v : Nat} (h : Placed ps pl) (hv : v < ps.length) : Placed ps (placeStep ps pl v) := by
  unfold placeStep
  split
  · rename_i hs
    have hsub := (subN_zero (getD_lt (by decide) hp v)).1 hs
    rcases Bool.eq_false_or_eq_true (pl.testBit v) with hb | hb
    · have e : pl ||| 2 ^ v = pl := Nat.eq_of_testBit_eq fun i => by
        rw [or_pow_bit]
        by_cases hi : v = i
        · subst hi; rw [hb]; rfl
        · simp [hi]
      rw [e]; exact h
    · refine ⟨fun w hw hwb => ?_, fun w hw hwb => ?_⟩
      · rw [or_pow_bit] at hwb
        rcases Bool.or_eq_true_iff.1 hwb with hwb | hwb
        · exact (h.1 w hw hwb).trans (.left _ _)
        · obtain rfl := of_decide_eq_true hwb; exact hsub.trans (.left _ _)
      · rw [or_pow_bit] at hwb
        rcases Bool.or_eq_true_iff.1 hwb with hwb | hwb
        · exact h.2 w hw hwb
        · obtain rfl := of_decide_eq_true hwb
          have hu := upN_closed h.1 ps.length hsub
          rcases Bool.eq_false_or_eq_true ((upL ps (ps.getD v 0)).testBit v) with e | e
          · have := hu v e; rw [hb] at this; cases this
          · exact e
  · exact h
theorem Placed.fold {ps : List Nat} (hp : ∀ p ∈ ps, p < 2 ^ 64) (l : List Nat) (hl : ∀ v ∈ l, v < ps.length) : ∀ pl, Placed ps pl → Placed ps (l.foldl (placeStep ps) pl) := by
  induction l with
  | nil => exact fun pl h => h
  | cons v l ih => exact fun pl h => ih (fun w hw => hl w (by simp [hw])) _ (h.step hp (hl v (by simp)))
theorem Placed.rounds {ps : List Nat} (hp : ∀ p ∈ ps, p < 2 ^ 64) : ∀ (k : Nat) {pl : Nat}, Placed ps pl → Placed ps (placeN ps k pl)
  | 0, _, h => h
  | k + 1, _, h => Placed.rounds hp k (Placed.fold hp _ (fun v hv => List.mem_range.1 hv) _ h)
theorem placeF_sets {ps : List Nat} (hp : ∀ p ∈ ps, p < 2 ^ 64) {v : Nat} (l : List Nat) : ∀ pl, v ∈ l → Sub (ps.getD v 0) pl → (l.foldl (placeStep ps) pl).testBit v = true := by
  induction l with
  | nil => intro pl h; cases h
  | cons w l ih =>
    intro pl h hs
    by_cases hw : v = w
    · subst hw
      refine placeF_ge ps l _ v ?_
      unfold placeStep
      rw [if_pos ((subN_zero (getD_lt (by decide) hp v)).2 hs), or_pow_bit]
      simp
    · exact ih _ (by simpa [hw] using h) (hs.trans (placeStep_ge ps pl w))
theorem cntB_full {n s : Nat} (h : n ≤ cntB n s) : ∀ i, i < n → s.testBit i = true := by
  have h1 : (List.range n).countP (fun i => s.testBit i) = (List.range n).length := by
    have := cntB_le n s
    unfold cntB at this h
    rw [List.length_range]
    omega
  intro i hi
  exact List.countP_eq_length.1 h1 i (List.mem_range.2 hi)
theorem place_all {ps : List Nat} (hp : ∀ p ∈ ps, p < 2 ^ ps.length) (h64 : ps.length ≤ 64) (ha : AcycB ps) : ∀ (k pl : Nat), ps.length ≤ cntB ps.length pl + k → ∀ i, i < ps.length → (placeN ps k pl).testBit i = true := by
  have hp64 : ∀ p ∈ ps, p < 2 ^ 64 := fun p h => Nat.lt_of_lt_of_le (hp p h) (Nat.pow_le_pow_right (by decide) h64)
  intro k
  induction k with
  | zero => exact fun pl h => cntB_full h
  | succ k ih =>
    intro pl h
    refine ih (placeOnce ps pl) ?_
    by_cases hf : ps.length ≤ cntB ps.length pl
    · have h1 := cntB_full hf
      have : ps.length ≤ cntB ps.length (placeOnce ps pl) := by
        have h2 : (List.range ps.length).countP (fun i => (placeOnce ps pl).testBit i) = (List.range ps.length).length := List.countP_eq_length.2 fun i hi => placeF_ge ps _ pl i (h1 i (List.mem_range.1 hi))
        unfold cntB
        rw [h2, List.length_range]
        exact Nat.le_refl _
      omega
    · obtain ⟨q, hq⟩ : ∃ q, q + 1 + cntB ps.length pl = ps.length := ⟨ps.length - cntB ps.length pl - 1, by omega⟩
      obtain ⟨r, hr⟩ := topo_of_acyc hp h64 ha (q + 1) [] pl hq
      unfold topoGo at hr
      cases hn : nextT ps pl with
      | none => rw [hn] at hr; cases hr
      | some v =>
        obtain ⟨v1, v2, v3⟩ := nextT_some hp64 hn
        have := cntB_lt (placeF_ge ps (List.range ps.length) pl) v1 v2 (placeF_sets hp64 _ pl (List.mem_range.2 v1) v3)
        unfold placeOnce
        omega
theorem place_iff {ps : List Nat} (hp : ∀ p ∈ ps, p < 2 ^ ps.length) (h64 : ps.length ≤ 64) : placeN ps ps.length 0 = 2 ^ ps.length - 1 ↔ AcycB ps := by
  have hp64 : ∀ p ∈ ps, p < 2 ^ 64 := fun p h => Nat.lt_of_lt_of_le (hp p h) (Nat.pow_le_pow_right (by decide) h64)
  constructor
  · intro h v hv
    have := Placed.rounds hp64 ps.length (pl := 0) ⟨fun w _ hb => (by rw [Nat.zero_testBit] at hb; cases hb), fun w _ hb => (by rw [Nat.zero_testBit] at hb; cases hb)⟩
    refine this.2 v hv ?_
    rw [h, Nat.testBit_two_pow_sub_one]
    simpa using hv
  · intro h
    have h1 := place_all hp h64 h ps.length 0 (by omega)
    have h2 := placeN_lt (ps := ps) ps.length (pl := 0) (Nat.two_pow_pos _)
    refine Nat.eq_of_testBit_eq fun i => ?_
    rw [Nat.testBit_two_pow_sub_one]
    by_cases hi : i < ps.length
    · rw [h1 i hi]; simp [hi]
    · rcases Bool.eq_false_or_eq_true ((placeN ps ps.length 0).testBit i) with e | e
      · exact absurd (bit_lt h2 e) hi
      · rw [e]; simp [hi]
def GraphOk (ps : List Nat) (n : Nat) : Prop := ps.length = n ∧ (∀ p ∈ ps, p < 2 ^ n) ∧ AcycB ps
noncomputable def graphB (ps : List Nat) (n : Nat) : Bool := @decide (GraphOk ps n) (Classical.propDecidable _)
theorem graphB_true {ps : List Nat} {n : Nat} (h : GraphOk ps n) : graphB ps n = true := by unfold graphB; exact @decide_eq_true _ (Classical.propDecidable _) h
theorem graphB_false {ps : List Nat} {n : Nat} (h : ¬ GraphOk ps n) : graphB ps n = false := by unfold graphB; exact @decide_eq_false _ (Classical.propDecidable _) h
theorem graphB_iff {ps : List Nat} {n : Nat} : graphB ps n = true ↔ GraphOk ps n := by unfold graphB; exact @decide_eq_true_iff _ (Classical.propDecidable _)
theorem shr_zero {p n : Nat} : ((p >>> n : Nat) : Int) = 0 ↔ p < 2 ^ n := by
  rw [Nat.shiftRight_eq_div_pow]
  have : p / 2 ^ n = 0 ↔ p < 2 ^ n := by rw [Nat.div_eq_zero_iff]; constructor
                                         · rintro (h | h)
                                           · exact absurd h (Nat.ne_of_gt (Nat.two_pow_pos n))
                                           · exact h
                                         · exact .inr
  omega
theorem in25_spec (m v : Nat) (hm : m < 2 ^ 64) (hv : v < 2 ^ 62) (H : AHeap) (K : ARes → AHeap → Prop) (hK : K (.ret (.lit (.bool (m.testBit v)))) H) : ACall Tryd.prog G0 51 [bitV m, lin v] H K := by
  refine ACall.of_body (n := 10) (rs := [.tmp 4]) Tryd.func51 rfl rfl rfl (by decide) (by kernel_rfl) (by simp) ?_
  have s1 := fun t x y => shrB (P := Tryd.prog) (t := t) (x := x) (y := y) (k' := .i64) (s := v) hm
  have s2 := fun t x y => bit1 (P := Tryd.prog) (t := t) (x := x) (y := y) (s := v) hm
  cases hb : m.testBit v
  · rw [hb] at hK
    simp (config := { maxSteps := 1000000 }) only [go_sem, s1, s2, hb, appendA_U]
    exact FinV.mk (Nat.le_refl _) hK
  · rw [hb] at hK
    simp (config := { maxSteps := 1000000 }) only [go_sem, s1, s2, hb, appendA_U]
    exact FinV.mk (Nat.le_refl _) hK
set_option maxHeartbeats 1000000 in
theorem isGraph_spec (ps : List Nat) (n : Nat) (hn : 1 ≤ n ∧ n ≤ 6) (hl : (ps.length : Int) < 2 ^ 39) (hp : ∀ p ∈ ps, p < 2 ^ 64) (H : AHeap) (K : ARes → AHeap → Prop) (hK : K (.ret (.lit (.bool (graphB ps n)))) H) : ACall Tryd.prog G0 53 [vecB ps, lin n] H K := by
  have no : ¬ GraphOk ps n → FinV Tryd.prog G0 H K (.lit (.bool false)) H := fun h => FinV.mk (Nat.le_refl _) (by rw [graphB_false h] at hK; exact hK)
  refine ACall.of_body (n := 50) (rs := [.tmp 4]) Tryd.func53 rfl rfl rfl (by decide) (by kernel_rfl) (by simp) ?_
  by_cases hln : (ps.length : Int) = n
  rotate_left
  · simp (config := { maxSteps := 1000000 }) only [go_sem, hln, appendA_U]
    exact no fun h => hln (by rw [h.1])
  simp (config := { maxSteps := 1000000 }) only [go_sem, hln, appendA_U]
  refine W.loop0 33488976 (by rfl) (fun ρ H' => H' = H ∧ ∃ k : Nat, ρ 16 = lin k ∧ k ≤ ps.length ∧ ∀ p ∈ ps.take k, p < 2 ^ n) (fun ρ H => ps.length - (iv (ρ 16)).toNat) ?_ ?_
  · simp (config := { maxSteps := 1000000 }) only [go_sem, appendA_U]
    exact ⟨0, rfl, by omega, by simp⟩
  rintro ρ H' ⟨rfl, k, h16, hk, hall⟩
  refine vc_sound _ _ _ (by rfl) ?_
  by_cases hb : (k : Int) < n
  · obtain ⟨p, hpk⟩ := get_of_lt (l := ps) (i := k) (by omega)
    have hne := ne_of_get hpk
    have hpm := List.mem_of_getElem? hpk
    have s1 := fun t x y => shrB (P := Tryd.prog) (t := t) (x := x) (y := y) (k' := .i64) (s := n) (hp p hpm)
    have w1 := IntWalk.i64_in ((k : Int) + 1) (by omega)
    by_cases hz : ((p >>> n : Nat) : Int) = 0
    · simp (config := { maxSteps := 1000000 }) only [go_sem, h16, hb, hln, hpk, hne, s1, hz, w1, appendA_U]
      refine ⟨⟨k + 1, rfl, by omega, fun q hq => ?_⟩, by omega⟩
      rw [take_succ_get hpk] at hq
      rcases List.mem_append.1 hq with hq | hq
      · exact hall q hq
      · obtain rfl := List.mem_singleton.1 hq; exact shr_zero.1 hz
    · simp (config := { maxSteps := 1000000 }) only [go_sem, h16, hb, hln, hpk, hne, s1, hz, appendA_U]
      exact no fun h => hz (shr_zero.2 (h.2.1 p hpm))
  rw [List.take_of_length_le (by omega)] at hall
  have hpn : ∀ p ∈ ps, p < 2 ^ ps.length := fun p h => by have := hall p h; rw [show ps.length = n by omega]; exact this
  have hb2n : 2 ^ n ≤ 2 ^ 6 := Nat.pow_le_pow_right (by decide) hn.2
  have h64 : ∀ m : Nat, m < 2 ^ n → m < 2 ^ 64 := fun m h => by omega
  simp (config := { maxSteps := 1000000 }) only [go_sem, h16, hb, hln, appendA_U]
  refine W.loop0 35184304980864 (by rfl) (fun ρ H2 => H2 = H' ∧ ∃ k : Nat, ρ 26 = lin k ∧ k ≤ n ∧ ρ 7 = bitV (placeN ps k 0)) (fun ρ H => n - (iv (ρ 26)).toNat) ?_ ?_
  · simp (config := { maxSteps := 1000000 }) only [go_sem, appendA_U]
    exact ⟨0, rfl, by omega, rfl⟩
  rintro ρ2 H2 ⟨rfl, i, h26, hi, h7⟩
  refine vc_sound _ _ _ (by rfl) ?_
  have hpl := placeN_lt (ps := ps) i (Nat.two_pow_pos _)
  rw [show ps.length = n by omega] at hpl
  by_cases hb2 : (i : Int) < n
  rotate_left
  · obtain rfl : i = n := by omega
    have s3 := fun t x y => shlB (P := Tryd.prog) (t := t) (x := x) (y := y) (k' := .i64) (s := i) (by omega)
    have w2 : IntKind.u64.wrap (((2 ^ i : Nat) : Int) - 1) = ((2 ^ i - 1 : Nat) : Int) := by rw [IntWalk.u64_in _ (by omega)]; have := Nat.two_pow_pos i; omega
    have key : GraphOk ps i ↔ placeN ps i 0 = 2 ^ i - 1 := by
      have := place_iff hpn (by omega)
      rw [show ps.length = i by omega] at this
      exact ⟨fun h => this.2 h.2.2, fun h => ⟨by omega, hall, this.1 h⟩⟩
    by_cases hq : ((placeN ps i 0 : Nat) : Int) = ((2 ^ i - 1 : Nat) : Int)
    · simp (config := { maxSteps := 1000000 }) only [go_sem, h26, h7, hb2, hln, s3, w2, hq, appendA_U]
      rw [graphB_true (key.2 (by omega))] at hK
      exact FinV.mk (Nat.le_refl _) hK
    · simp (config := { maxSteps := 1000000 }) only [go_sem, h26, h7, hb2, hln, s3, w2, hq, appendA_U]
      exact no fun h => hq (by rw [key.1 h])
  simp (config := { maxSteps := 1000000 }) only [go_sem, h26, h7, hb2, hln, appendA_U]
  refine W.loop0 17591112303488 (by rfl) (fun ρ3 H3 => H3 = H2 ∧ ∃ v : Nat, ρ3 30 = lin v ∧ v ≤ ps.length ∧ ρ3 7 = bitV ((List.range v).foldl (placeStep ps) (placeN ps i 0))) (fun ρ3 H => ps.length - (iv (ρ3 30)).toNat) ?_ ?_
  · simp (config := { maxSteps := 1000000 }) only [go_sem, h7, appendA_U]
    exact ⟨0, rfl, by omega, rfl⟩
  rintro ρ3 H3 ⟨rfl, v, h30, hv, h7'⟩
  refine vc_sound _ _ _ (by rfl) ?_
  obtain ⟨m, hm⟩ : ∃ m, m = (List.range v).foldl (placeStep ps) (placeN ps i 0) := ⟨_, rfl⟩
  have hml : m < 2 ^ n := by rw [hm]; exact placeF_lt _ (fun w hw => by have := List.mem_range.1 hw; omega) _ hpl
  by_cases hb3 : (v : Int) < n
  · obtain ⟨p, hpv⟩ := get_of_lt (l := ps) (i := v) (by omega)
    have hne := ne_of_get hpv
    have w1 := IntWalk.i64_in ((v : Int) + 1) (by omega)
    have s3 := fun t x y => shlB (P := Tryd.prog) (t := t) (x := x) (y := y) (k' := .i64) (s := v) (by omega)
    have s4 := fun t x y => subB (P := Tryd.prog) (t := t) (x := x) (y := y) (a := p) (b := m)
    have s5 := fun t x y => orB (P := Tryd.prog) (t := t) (x := x) (y := y) (h64 m hml) (h64 (2 ^ v) (Nat.pow_lt_pow_right (by decide) (by omega)))
    have hst : (List.range (v + 1)).foldl (placeStep ps) (placeN ps i 0) = placeStep ps m v := by rw [List.range_succ, List.foldl_append, hm]; rfl
    rw [← hm] at h7'
    by_cases hz : ((subN p m : Nat) : Int) = 0
    · simp (config := { maxSteps := 1000000 }) only [go_sem, h30, h7', hb3, hln, hpv, hne, s3, s4, s5, hz, w1, appendA_U]
      refine ⟨⟨v + 1, rfl, by omega, by rw [hst]; unfold placeStep; rw [getD_of_get hpv, if_pos (by omega)]⟩, by omega⟩
    · simp (config := { maxSteps := 1000000 }) only [go_sem, h30, h7', hb3, hln, hpv, hne, s4, hz, w1, appendA_U]
      refine ⟨⟨v + 1, rfl, by omega, by rw [hst]; unfold placeStep; rw [getD_of_get hpv, if_neg (by omega)]⟩, by omega⟩
  · obtain rfl : v = ps.length := by omega
    have w1 := IntWalk.i64_in ((i : Int) + 1) (by omega)
    have hnn : ¬ ((n : Int) < n) := Int.lt_irrefl _
    simp (config := { maxSteps := 1000000 }) only [go_sem, h30, h7', hb3, hnn, hln, h26, w1, appendA_U]
    exact ⟨⟨i + 1, rfl, by omega, by rw [placeN_succ]; rfl⟩, by omega⟩
theorem graphN_iff {ps : List Nat} : (1 ≤ ps.length ∧ ps.length ≤ 6) ∧ (∀ p ∈ ps, p < 2 ^ ps.length) ∧ AcycB ps ↔ (1 ≤ ps.length ∧ ps.length ≤ 6) ∧ GraphOk ps ps.length := ⟨fun h => ⟨h.1, rfl, h.2⟩, fun h => ⟨h.1, h.2.2⟩⟩
set_option maxHeartbeats 1000000 in
theorem graph25_spec (ps : List Nat) (hl : (ps.length : Int) < 2 ^ 39) (hp : ∀ p ∈ ps, p < 2 ^ 64) (H : AHeap) (K : ARes → AHeap → Prop) (hK : ∀ b : Bool, (b = true ↔ (1 ≤ ps.length ∧ ps.length ≤ 6) ∧ GraphOk ps ps.length) → K (.ret (.lit (.bool b))) H) : ACall Tryd.prog G0 56 [vecB ps, lin 6] H K := by
  have no : ¬ ((1 ≤ ps.length ∧ ps.length ≤ 6) ∧ GraphOk ps ps.length) → FinV Tryd.prog G0 H K (.lit (.bool false)) H := fun h => FinV.mk (Nat.le_refl _) (hK false ⟨fun e => (by cases e), fun h' => absurd h' h⟩)
  refine ACall.of_body (n := 67) (rs := [.tmp 4]) Tryd.func56 rfl rfl rfl (by decide) (by kernel_rfl) (by simp) ?_
  by_cases c1 : (ps.length : Int) < 1
  · simp (config := { maxSteps := 1000000 }) only [go_sem, c1, guardA_undef, appendA_U]
    exact no fun h => by have := h.1; omega
  by_cases c2 : (ps.length : Int) > 6
  · simp (config := { maxSteps := 1000000 }) only [go_sem, c1, c2, guardA_undef, appendA_U]
    exact no fun h => by have := h.1; omega
  simp (config := { maxSteps := 1000000 }) only [go_sem, c1, c2, guardA_undef, appendA_U]
  have hb2n : 2 ^ ps.length ≤ 2 ^ 6 := Nat.pow_le_pow_right (by decide) (by omega)
  refine W.loop0 8589410352 (by rfl) (fun ρ H' => H' = H ∧ ∃ k : Nat, ρ 5 = lin k ∧ k ≤ ps.length ∧ ∀ p ∈ ps.take k, p < 2 ^ ps.length) (fun ρ H => ps.length - (iv (ρ 5)).toNat) ?_ ?_
  · simp (config := { maxSteps := 1000000 }) only [go_sem, appendA_U]
    exact ⟨0, rfl, by omega, by simp⟩
  rintro ρ H' ⟨rfl, k, h5, hk, hall⟩
  refine vc_sound _ _ _ (by rfl) ?_
  by_cases hb : (k : Int) < ps.length
  · obtain ⟨p, hpk⟩ := get_of_lt (l := ps) (i := k) (by omega)
    have hne := ne_of_get hpk
    have hpm := List.mem_of_getElem? hpk
    have s1 := fun t x y => shrB (P := Tryd.prog) (t := t) (x := x) (y := y) (k' := .i64) (s := ps.length) (hp p hpm)
    have w1 := IntWalk.i64_in ((k : Int) + 1) (by omega)
    by_cases hz : ((p >>> ps.length : Nat) : Int) = 0
    · simp (config := { maxSteps := 1000000 }) only [go_sem, h5, hb, hpk, hne, s1, hz, w1, appendA_U]
      refine ⟨⟨k + 1, rfl, by omega, fun q hq => ?_⟩, by omega⟩
      rw [take_succ_get hpk] at hq
      rcases List.mem_append.1 hq with hq | hq
      · exact hall q hq
      · obtain rfl := List.mem_singleton.1 hq; exact shr_zero.1 hz
    · simp (config := { maxSteps := 1000000 }) only [go_sem, h5, hb, hpk, hne, s1, hz, appendA_U]
      exact no fun h => hz (shr_zero.2 (h.2.2.1 p hpm))
  rw [List.take_of_length_le (by omega)] at hall
  simp (config := { maxSteps := 1000000 }) only [go_sem, h5, hb, appendA_U]
  refine W.loop0 147573952581086479312 (by rfl) (fun ρ H2 => H2 = H' ∧ ∃ k : Nat, ρ 6 = lin k ∧ k ≤ ps.length ∧ ∀ v, v < k → (upL ps (ps.getD v 0)).testBit v = false) (fun ρ H => ps.length - (iv (ρ 6)).toNat) ?_ ?_
  · simp (config := { maxSteps := 1000000 }) only [go_sem, appendA_U]
    exact ⟨0, rfl, by omega, fun v h => absurd h (Nat.not_lt_zero _)⟩
  rintro ρ2 H2 ⟨rfl, i, h6, hi, ha⟩
  refine vc_sound _ _ _ (by rfl) ?_
  by_cases hb2 : (i : Int) < ps.length
  rotate_left
  · simp (config := { maxSteps := 1000000 }) only [go_sem, h6, hb2, appendA_U]
    exact FinV.mk (Nat.le_refl _) (hK true ⟨fun _ => graphN_iff.1 ⟨by omega, hall, fun v hv => ha v (by omega)⟩, fun _ => rfl⟩)
  obtain ⟨p, hpi⟩ := get_of_lt (l := ps) (i := i) (by omega)
  have hne := ne_of_get hpi
  have hp1 := hp p (List.mem_of_getElem? hpi)
  simp (config := { maxSteps := 1000000 }) only [go_sem, h6, hb2, hpi, hne, appendA_U]
  refine W.loop0 18446735277616530304 (by rfl) (fun ρ3 H3 => H3 = H2 ∧ ∃ k : Nat, ρ3 8 = lin k ∧ k ≤ ps.length ∧ ρ3 7 = bitV (upN ps k p)) (fun ρ3 H => ps.length - (iv (ρ3 8)).toNat) ?_ ?_
  · simp (config := { maxSteps := 1000000 }) only [go_sem, appendA_U]
    exact ⟨0, rfl, by omega, rfl⟩
  rintro ρ3 H3 ⟨rfl, k, h8, hk3, h7⟩
  refine vc_sound _ _ _ (by rfl) ?_
  by_cases hb3 : (k : Int) < ps.length
  · simp (config := { maxSteps := 1000000 }) only [go_sem, h8, h7, hb3, appendA_U]
    refine W.loop0 18446181123756130944 (by rfl) (fun ρ4 H4 => H4 = H3 ∧ ∃ j : Nat, ρ4 9 = lin j ∧ j ≤ ps.length ∧ ρ4 7 = bitV ((List.range j).foldl (upStep ps) (upN ps k p))) (fun ρ4 H => ps.length - (iv (ρ4 9)).toNat) ?_ ?_
    · simp (config := { maxSteps := 1000000 }) only [go_sem, h7, appendA_U]
      exact ⟨0, rfl, by omega, rfl⟩
    rintro ρ4 H4 ⟨rfl, j, h9, hj, h7'⟩
    refine vc_sound _ _ _ (by rfl) ?_
    by_cases hb4 : (j : Int) < ps.length
    · obtain ⟨q, hqj⟩ := get_of_lt (l := ps) (i := j) (by omega)
      have hqe := ne_of_get hqj
      have b1 := foldl_lt hp (List.range j) _ (upN_lt hp hp1 k)
      have w2 := IntWalk.i64_in ((j : Int) + 1) (by omega)
      have hst : (List.range (j + 1)).foldl (upStep ps) (upN ps k p) = upStep ps ((List.range j).foldl (upStep ps) (upN ps k p)) j := by rw [List.range_succ, List.foldl_append]; rfl
      have s2 := fun t x y => orB (P := Tryd.prog) (t := t) (x := x) (y := y) b1 (hp q (List.mem_of_getElem? hqj))
      obtain ⟨m, hm⟩ : ∃ m, m = (List.range j).foldl (upStep ps) (upN ps k p) := ⟨_, rfl⟩
      rw [← hm] at b1 h7' hst s2
      simp (config := { maxSteps := 1000000 }) only [go_sem, h9, h7', hb4, appendA_U]
      refine AApply.clo (in25_spec m j b1 (by omega) _ _ ⟨trivial, ?_⟩)
      cases hbit : m.testBit j
      · simp (config := { maxSteps := 1000000 }) only [go_sem, h9, h7', w2, appendA_U]
        exact ⟨⟨j + 1, rfl, by omega, by rw [hst]; unfold upStep; rw [hbit]; rfl⟩, by omega⟩
      · simp (config := { maxSteps := 1000000 }) only [go_sem, h9, h7', w2, hb4, hqj, hqe, s2, appendA_U]
        exact ⟨⟨j + 1, rfl, by omega, by rw [hst]; unfold upStep; rw [hbit, if_pos rfl, getD_of_get hqj]⟩, by omega⟩
    · have w2 := IntWalk.i64_in ((k : Int) + 1) (by omega)
      obtain rfl : j = ps.length := by omega
      simp (config := { maxSteps := 1000000 }) only [go_sem, h9, h7', hb4, h8, w2, appendA_U]
      exact ⟨⟨k + 1, rfl, by omega, rfl⟩, by omega⟩
  · obtain rfl : k = ps.length := by omega
    simp (config := { maxSteps := 1000000 }) only [go_sem, h8, h7, hb3, h6, appendA_U]
    refine AApply.clo (in25_spec (upL ps p) i (upN_lt hp hp1 _) (by omega) _ _ ⟨trivial, ?_⟩)
    have w2 := IntWalk.i64_in ((i : Int) + 1) (by omega)
    cases hbit : (upL ps p).testBit i
    · simp (config := { maxSteps := 1000000 }) only [go_sem, h6, w2, appendA_U]
      refine ⟨⟨i + 1, rfl, by omega, fun v hv => ?_⟩, by omega⟩
      rcases Nat.lt_or_ge v i with h | h
      · exact ha v h
      · obtain rfl : v = i := by omega
        rw [getD_of_get hpi]; exact hbit
    · simp (config := { maxSteps := 1000000 }) only [go_sem, h6, appendA_U]
      refine no fun h => ?_
      have := h.2.2.2 i (by omega)
      rw [getD_of_get hpi, hbit] at this; cases this
theorem fits25_spec (ps : List Nat) (n : Nat) (hn : 1 ≤ n ∧ n ≤ 6) (hl : (ps.length : Int) < 2 ^ 39) (hp : ∀ p ∈ ps, p < 2 ^ 64) (H : AHeap) (K : ARes → AHeap → Prop) (hK : K (.ret (.lit (.bool (graphB ps n)))) H) : ACall Tryd.prog G0 21 [lin n, vecB ps] H K := by
  refine ACall.of_body (n := 13) (rs := [.tmp 4]) Tryd.func21 rfl rfl rfl (by decide) (by kernel_rfl) (by simp) ?_
  by_cases hln : (ps.length : Int) = n
  rotate_left
  · simp (config := { maxSteps := 1000000 }) only [go_sem, hln, guardA_undef, appendA_U]
    rw [graphB_false fun h => hln (by rw [h.1])] at hK
    exact FinV.mk (Nat.le_refl _) hK
  simp (config := { maxSteps := 1000000 }) only [go_sem, hln, appendA_U]
  refine AApply.clo (graph25_spec ps hl hp _ _ fun b hb => ⟨trivial, ?_⟩)
  simp (config := { maxSteps := 1000000 }) only [go_sem, appendA_U]
  obtain rfl : n = ps.length := by omega
  cases b
  · rw [graphB_false fun h => by have := hb.2 ⟨hn, h⟩; cases this] at hK
    exact FinV.mk (Nat.le_refl _) hK
  · rw [graphB_true (hb.1 rfl).2] at hK
    exact FinV.mk (Nat.le_refl _) hK
end Go.Proofs
namespace Go.Hx
variable {P : Program} {G : Nat → Option (List AVal)} {rd : Option Nat} {Q : AX → St → Prop} {K : St → Prop} {KF : FP → St → Prop} {s : St} {d : Option Tmp} {ty : TypeId} {pos : String} {aft : Array Edge} {g : Option (Nat × Bool)}
@[go_sem] theorem opV_makeMap (t : TypeId) : opV P G rd Q ⟨d, .makeMap t none, ty, pos, aft, g⟩ K s = wpo (s.H.lay s.H.next (.mp [])) fun H' => K ⟨putA s.ρ d (.yld s.H.next), H'⟩ := by
  simp [opV, opA, wpo_map]
@[go_sem] theorem opV_lookup (t : TypeId) (x i : Operand) (ok : Bool) : opV P G rd Q ⟨d, .lookup t x i ok, ty, pos, aft, g⟩ K s = wpo (lookupA P s.H t (evA G s.ρ x) (evA G s.ρ i) ok) fun v => K ⟨putA s.ρ d v, s.H⟩ := by
  simp [opV, opA, wpo_map]
@[go_sem] theorem opV_mapUpdate (t : TypeId) (m k x : Operand) : opV P G rd Q ⟨d, .mapUpdate t m k x, ty, pos, aft, g⟩ K s = wpo (mapUpdA P s.H t (evA G s.ρ m) (evA G s.ρ k) (evA G s.ρ x)) fun vH => K ⟨putA s.ρ d vH.1, vH.2⟩ := by
  simp [opV, opA]
@[go_sem] theorem opD_lookup (t : TypeId) (x i : Operand) (ok : Bool) : opD P G ⟨d, .lookup t x i ok, ty, pos, aft, g⟩ KF s = opV P G none QF ⟨d, .lookup t x i ok, ty, pos, aft, g⟩ (KF ⟨[], idsM (evA G s.ρ x)⟩) s := (rfl)
@[go_sem] theorem opD_mapUpdate (t : TypeId) (m k x : Operand) : opD P G ⟨d, .mapUpdate t m k x, ty, pos, aft, g⟩ KF s = opV P G none QF ⟨d, .mapUpdate t m k x, ty, pos, aft, g⟩ (KF ⟨idsM (evA G s.ρ m), idsM (evA G s.ρ m)⟩) s := (rfl)
@[go_sem] theorem partU_map (a b : TypeId) (n : Nat) (cells : List AVal) (off : Nat) : partU (some (.map a b)) n cells off = cells[off]? := rfl
@[go_sem] theorem cells_yld (id : Nat) : (AVal.yld id).cells = [.yld id] := rfl
@[go_sem] theorem one_yld (id : Nat) : (AVal.yld id).one = true := rfl
@[go_sem] theorem idsM_yld (id : Nat) : idsM (.yld id) = [id] := rfl
end Go.Hx
namespace Go.Hx
def mpV (es : List (Int × Int)) (k : Int) : Int := ((mpFind k 0 es).map Prod.snd).getD 0
theorem mpFind_ge {k : Int} : ∀ {es : List (Int × Int)} {s i : Nat} {w : Int}, mpFind k s es = some (i, w) → s ≤ i := by
  intro es
  induction es with
  | nil => intro s i w h; cases h
  | cons a es ih =>
    intro s i w h
    obtain ⟨a, b⟩ := a
    unfold mpFind at h
    split at h
    · cases h; exact Nat.le_refl _
    · have := ih h; omega
theorem mpFind_set {k v : Int} : ∀ {es : List (Int × Int)} {s i : Nat} {w : Int}, mpFind k s es = some (i, w) → ∀ (j : Int) (t : Nat), (mpFind j t (es.set (i - s) (k, v))).map Prod.snd = if j = k then some v else (mpFind j t es).map Prod.snd := by
  intro es
  induction es with
  | nil => intro s i w h; cases h
  | cons a es ih =>
    intro s i w h j t
    obtain ⟨a, b⟩ := a
    unfold mpFind at h
    split at h
    · rename_i e
      subst e
      cases h
      rw [Nat.sub_self, List.set_cons_zero]
      unfold mpFind
      by_cases hj : j = k
      · rw [if_pos hj, if_pos hj]; rfl
      · rw [if_neg hj, if_neg hj, if_neg hj]
    · rename_i e
      have h1 := mpFind_ge h
      rw [show i - s = (i - (s + 1)) + 1 by omega, List.set_cons_succ]
      unfold mpFind
      by_cases hj : j = a
      · rw [if_pos hj, if_pos hj, if_neg (fun h' => e (by rw [← h', hj]))]
      · rw [if_neg hj, if_neg hj]; exact ih h j (t + 1)
theorem mpFind_app {k v : Int} : ∀ {es : List (Int × Int)} {s : Nat}, mpFind k s es = none → ∀ (j : Int) (t : Nat), (mpFind j t (es ++ [(k, v)])).map Prod.snd = if j = k then some v else (mpFind j t es).map Prod.snd := by
  intro es
  induction es with
  | nil =>
    intro s _ j t
    rw [List.nil_append]
    unfold mpFind
    by_cases hj : j = k
    · rw [if_pos hj, if_pos hj]; rfl
    · rw [if_neg hj, if_neg hj]; rfl
  | cons a es ih =>
    intro s h j t
    obtain ⟨a, b⟩ := a
    unfold mpFind at h
    split at h
    · cases h
    · rename_i e
      rw [List.cons_append]
      unfold mpFind
      by_cases hj : j = a
      · rw [if_pos hj, if_pos hj, if_neg (fun h' => e (by rw [← h', hj]))]
      · rw [if_neg hj, if_neg hj]; exact ih h j (t + 1)
theorem mpV_put (es : List (Int × Int)) (k v j : Int) : mpV (mpPut es k v) j = if j = k then v else mpV es j := by
  unfold mpV mpPut
  cases h : mpFind k 0 es with
  | none =>
    simp only
    rw [mpFind_app h]
    split <;> rfl
  | some p =>
    obtain ⟨i, w⟩ := p
    simp only
    have := mpFind_set (v := v) h j 0
    rw [Nat.sub_zero] at this
    rw [this]
    split <;> rfl
theorem mpRes_V (es : List (Int × Int)) (k : Int) : mpRes false (mpFind k 0 es) = .lit (.int .i64 (mpV es k)) := by
  unfold mpV
  cases mpFind k 0 es with
  | none => rfl
  | some p => rfl
end Go.Hx
namespace Go.Proofs
open Go.Hx
def parOk (P r : List Int) : Bool := decide (∀ p ∈ P, ¬ r.getD p.toNat 0 < 0)
def rowI (cs P r : List Int) : Int := idxL (atL cs P) (atL r P)
def keyC (cs P : List Int) (v : Nat) (r : List Int) : Option Int := if ¬ r.getD v 0 < 0 ∧ parOk P r = true then some (rowI cs P r * cs.getD v 0 + r.getD v 0) else none
def tabStep (cs P : List Int) (v : Nat) (es : List (Int × Int)) (r : List Int) : List (Int × Int) := match keyC cs P v r with
  | some k => mpPut es k (mpV es k + 1)
  | none => es
def cntF (cs P : List Int) (v : Nat) (xs : List (List Int)) (k : Int) : Nat := xs.countP fun r => decide (keyC cs P v r = some k)
theorem tab_count (cs P : List Int) (v : Nat) (xs : List (List Int)) : ∀ (es : List (Int × Int)) (k : Int), mpV (xs.foldl (tabStep cs P v) es) k = mpV es k + cntF cs P v xs k := by
  induction xs with
  | nil => intro es k; simp [cntF]
  | cons r xs ih =>
    intro es k
    rw [List.foldl_cons, ih]
    unfold cntF
    rw [List.countP_cons]
    unfold tabStep
    cases h : keyC cs P v r with
    | none => simp
    | some q =>
      simp only
      rw [mpV_put]
      by_cases hq : k = q
      · subst hq; simp; omega
      · have hq' : ¬ q = k := fun e => hq e.symm
        simp [hq, hq']
theorem cntF_le (cs P : List Int) (v : Nat) (xs : List (List Int)) (k : Int) : cntF cs P v xs k ≤ xs.length := List.countP_le_length
def parsL (n s : Nat) : List Int := ((List.range n).filter fun p => s.testBit p).map fun (p : Nat) => (p : Int)
theorem parsL_rng {n s : Nat} : ∀ p ∈ parsL n s, 0 ≤ p ∧ p < n := fun p hp => by
  obtain ⟨q, hq, rfl⟩ := List.mem_map.1 hp
  have := List.mem_range.1 (List.mem_filter.1 hq).1
  omega
theorem parsL_len (n s : Nat) : (parsL n s).length ≤ n := by
  unfold parsL
  rw [List.length_map]
  have := List.length_filter_le (fun p => s.testBit p) (List.range n)
  rw [List.length_range] at this
  exact this
theorem parsL_succ (n s : Nat) : parsL (n + 1) s = if s.testBit n then parsL n s ++ [(n : Int)] else parsL n s := by
  unfold parsL
  rw [List.range_succ, List.filter_append]
  by_cases h : s.testBit n = true
  · rw [if_pos h]; simp [h]
  · rw [if_neg h]; simp [h]
structure ParIn (cs P : List Int) : Prop where
  rng : ∀ p ∈ P, 0 ≤ p ∧ p < cs.length
  len : P.length ≤ 6
  card : ∀ c ∈ cs, 2 ≤ c ∧ c ≤ 4
theorem ParIn.at_get {cs P r : List Int} (h : ParIn cs P) (hr : r.length = cs.length) {k : Nat} {q : Int} (hq : P[k]? = some q) : ∃ (j : Nat) (c b : Int), q = j ∧ cs[j]? = some c ∧ r[j]? = some b ∧ (atL cs P)[k]? = some c ∧ (atL r P)[k]? = some b := by
  obtain ⟨j, rfl, c, hc⟩ := get_of_int (l := cs) (h.rng q (List.mem_of_getElem? hq)).1 (h.rng q (List.mem_of_getElem? hq)).2
  obtain ⟨b, hb⟩ := get_of_lt (l := r) (i := j) (by rw [hr]; exact get_lt hc)
  exact ⟨j, c, b, rfl, hc, hb, by rw [atL_get hq, Int.toNat_natCast, getD_of_get hc], by rw [atL_get hq, Int.toNat_natCast, getD_of_get hb]⟩
theorem ParIn.fits {cs P r : List Int} (h : ParIn cs P) (hc : CaseOk cs r) (hp : parOk P r = true) : FitsC (atL cs P) (atL r P) := by
  refine ⟨by rw [atL_len, atL_len], fun k c v h1 h2 => ?_⟩
  obtain ⟨q, hq⟩ := get_of_lt (l := P) (i := k) (by have := get_lt h1; rw [atL_len] at this; exact this)
  obtain ⟨j, c', b, rfl, hc', hb, e1, e2⟩ := h.at_get hc.1 hq
  rw [h1] at e1; rw [h2] at e2
  cases e1; cases e2
  have := hc.2 j _ _ hc' hb
  have hp' := of_decide_eq_true hp j (List.mem_of_getElem? hq)
  rw [Int.toNat_natCast, getD_of_get hb] at hp'
  omega
theorem ParIn.small {cs P : List Int} (h : ParIn cs P) : SmallC (atL cs P) ∧ ∀ c ∈ atL cs P, 2 ≤ c ∧ c ≤ 4 := by
  have h4 : ∀ c ∈ atL cs P, 2 ≤ c ∧ c ≤ 4 := fun c hc => by
    obtain ⟨q, hq, rfl⟩ := List.mem_map.1 hc
    obtain ⟨j, rfl, c, hc⟩ := get_of_int (l := cs) (h.rng q hq).1 (h.rng q hq).2
    rw [Int.toNat_natCast, getD_of_get hc]
    exact h.card c (List.mem_of_getElem? hc)
  exact ⟨⟨by rw [atL_len]; have := h.len; omega, fun x hx => by have := h4 x hx; omega⟩, h4⟩
theorem ParIn.prod {cs P : List Int} (h : ParIn cs P) (k : Nat) : 1 ≤ prodL ((atL cs P).take k) ∧ prodL ((atL cs P).take k) ≤ 4096 := small4 (fun c hc => h.small.2 c (List.mem_of_mem_take hc)) (by rw [List.length_take, atL_len]; have := h.len; omega)
theorem rowOf_gen {cs P r : List Int} (h : ParIn cs P) (hc : CaseOk cs r) (hp : parOk P r = true) (hcl : (cs.length : Int) < 2 ^ 38) (H : AHeap) (K : ARes → AHeap → Prop)
    (hK : K (.ret (lin (rowI cs P r))) H) : ACall Tryd.prog G0 69 [vecI cs, vecI P, vecI r] H K := by
  have pl : (atL cs P).length = P.length := atL_len _ _
  have vl : (atL r P).length = P.length := atL_len _ _
  have hf := h.fits hc hp
  have ft : ∀ k, FitsC ((atL cs P).take k) ((atL r P).take k) := fun k => ⟨by simp [pl, vl], fun i c b h1 h2 => by
    rw [List.getElem?_take] at h1 h2
    split at h1
    · rename_i hik
      rw [if_pos hik] at h2
      exact hf.2 i c b h1 h2
    · cases h1⟩
  have hr : ∀ k, 0 ≤ hornL ((atL cs P).take k) ((atL r P).take k) ∧ hornL ((atL cs P).take k) ((atL r P).take k) < 4096 := fun k => by
    rw [hornL_eq (ft k).1]
    have a := idxL_range (ft k)
    have b := h.prod k
    omega
  have plen := h.len
  refine ACall.of_body (n := 29) (rs := [.tmp 6]) Tryd.func69 rfl rfl rfl (by decide) (by kernel_rfl) (by simp) ?_
  simp (config := { maxSteps := 1000000 }) only [go_sem, appendA_U]
  refine W.loop0 268432000 (by rfl) (fun ρ H' => H' = H ∧ ∃ k : Nat, ρ 12 = lin k ∧ k ≤ P.length ∧ ρ 7 = lin (hornL ((atL cs P).take k) ((atL r P).take k))) (fun ρ H => P.length - (iv (ρ 12)).toNat) ?_ ?_
  · simp (config := { maxSteps := 1000000 }) only [go_sem, appendA_U]
    exact ⟨0, rfl, by omega, rfl⟩
  rintro ρ H' ⟨rfl, k, h16, hk, h7⟩
  refine vc_sound _ _ _ (by rfl) ?_
  by_cases hb : (k : Int) < P.length
  · obtain ⟨q, hq⟩ := get_of_lt (l := P) (i := k) (by omega)
    obtain ⟨j, c, b, rfl, hcj, hbv, a1, a2⟩ := h.at_get hc.1 hq
    have a3 := hf.2 k _ _ a1 a2
    have c4 := h.card c (List.mem_of_getElem? hcj)
    have hne2 := ne_of_get hq
    have hne3 := ne_of_get hbv
    have hne := ne_of_get hcj
    have hj : (j : Int) < cs.length := by have := get_lt hcj; omega
    have hj2 : (j : Int) < r.length := by have := get_lt hbv; omega
    have w1 := IntWalk.i64_in ((k : Int) + 1) (by omega)
    have r1 := hr (k + 1)
    rw [hornL_snoc a1 a2] at r1
    have r0 := hr k
    have m0 : 0 ≤ hornL ((atL cs P).take k) ((atL r P).take k) * c := Int.mul_nonneg r0.1 (by omega)
    have w2 := IntWalk.i64_in (hornL ((atL cs P).take k) ((atL r P).take k) * c) (by omega)
    have w3 := IntWalk.i64_in (hornL ((atL cs P).take k) ((atL r P).take k) * c + b) (by omega)
    simp (config := { maxSteps := 1000000 }) only [go_sem, h16, h7, hb, hq, hne2, appendA_U]
    refine W.draw 10 [0, 0, 0, 6, 14, 31, 0, 0, 192, 448] Tryd.mixed (by kernel_rfl) (by kernel_rfl) ?_
    simp (config := { maxSteps := 1000000 }) only [go_sem, h16, h7, hb, hq, hne, hne2, hne3, hj, hj2, hbv, hcj, w1, w2, w3, appendA_U]
    exact ⟨⟨k + 1, by simp, by omega, by rw [hornL_snoc a1 a2]⟩, by omega⟩
  · simp (config := { maxSteps := 1000000 }) only [go_sem, h16, h7, hb, appendA_U]
    rw [List.take_of_length_le (by omega), List.take_of_length_le (by omega), hornL_eq (by rw [pl, vl])]
    exact FinV.mk (Nat.le_refl _) hK
set_option maxHeartbeats 1000000 in
theorem tally1_spec {cs P r : List Int} {xs : List (List Int)} {v : Nat} {es : List (Int × Int)} (h : ParIn cs P) (hc : CaseOk cs r) (hcl : (cs.length : Int) < 2 ^ 38) (hv : v < cs.length) (hes : ∀ k, 0 ≤ mpV es k ∧ mpV es k ≤ 1000) (H : AHeap) (bv bp bt bd m : Nat)
    (gv : H.get bv = some (.arr 0 3 [lin v])) (gp : H.get bp = some (.arr 0 22 [vecI P])) (gt : H.get bt = some (.arr 0 119 [.yld m])) (gd : H.get bd = some (.arr 0 50 [vecI cs, vecV xs])) (gm : H.get m = some (.mp es)) (hm : m < H.next)
    (K : ARes → AHeap → Prop) (hK : ∀ H', H'.get m = some (.mp (tabStep cs P v es r)) → (∀ j, j ≠ m → H'.get j = H.get j) → H'.next = H.next → K (.ret (.tup [])) H') :
    ACall Tryd.prog G0 83 [vecI r, .ptr bv 0 0, .ptr bp 0 0, .ptr bt 0 0, .ptr bd 0 0] H K := by
  have lv := get_live gv
  have lp := get_live gp
  have lt := get_live gt
  have ld := get_live gd
  obtain ⟨x, hx⟩ := get_of_lt (l := r) (i := v) (by rw [hc.1]; exact hv)
  obtain ⟨c, hcv⟩ := get_of_lt (l := cs) (i := v) hv
  have hxn := ne_of_get hx
  have hcn := ne_of_get hcv
  have rl := hc.1
  have hvr : (v : Int) < r.length := by omega
  have hvc : (v : Int) < cs.length := by omega
  have c4 := h.card c (List.mem_of_getElem? hcv)
  have hx2 := hc.2 v c x hcv hx
  have plen := h.len
  have skip : keyC cs P v r = none → FinV Tryd.prog G0 H K (.tup []) H := fun hk => FinV.mk (Nat.le_refl _) (hK H (by unfold tabStep; rw [hk]; exact gm) (fun _ _ => rfl) rfl)
  refine ACall.of_body (n := 44) (rs := []) Tryd.func83 rfl rfl rfl (by decide) (by kernel_rfl) (by simp) ?_
  by_cases hx0 : x < 0
  · simp (config := { maxSteps := 1000000 }) only [go_sem, lv, hx, hxn, hvr, hx0, appendA_U]
    exact skip (by unfold keyC; rw [if_neg]; rw [getD_of_get hx]; exact fun hh => hh.1 hx0)
  simp (config := { maxSteps := 1000000 }) only [go_sem, lv, lp, hx, hxn, hvr, hx0, appendA_U]
  refine W.loop0 33521792 (by rfl) (fun ρ H' => H' = H ∧ ∃ k : Nat, ρ 15 = lin k ∧ k ≤ P.length ∧ ∀ p ∈ P.take k, ¬ r.getD p.toNat 0 < 0) (fun ρ H => P.length - (iv (ρ 15)).toNat) ?_ ?_
  · simp (config := { maxSteps := 1000000 }) only [go_sem, appendA_U]
    exact ⟨0, rfl, by omega, by simp⟩
  rintro ρ H' ⟨rfl, k, h15, hk, hall⟩
  refine vc_sound _ _ _ (by rfl) ?_
  by_cases hb : (k : Int) < P.length
  · obtain ⟨q, hq⟩ := get_of_lt (l := P) (i := k) (by omega)
    obtain ⟨j, cj, b, rfl, hcj, hbj, a1, a2⟩ := h.at_get hc.1 hq
    have hqn := ne_of_get hq
    have hbn := ne_of_get hbj
    have hjr : (j : Int) < r.length := by have := get_lt hbj; omega
    by_cases hb0 : b < 0
    · simp (config := { maxSteps := 1000000 }) only [go_sem, h15, hb, hq, hqn, hbj, hbn, hjr, hb0, appendA_U]
      refine skip ?_
      unfold keyC
      rw [if_neg]
      intro hh
      have := of_decide_eq_true hh.2 j (List.mem_of_getElem? hq)
      rw [Int.toNat_natCast, getD_of_get hbj] at this
      exact this hb0
    · have w1 := IntWalk.i64_in ((k : Int) + 1) (by omega)
      simp (config := { maxSteps := 1000000 }) only [go_sem, h15, hb, hq, hqn, hbj, hbn, hjr, hb0, w1, appendA_U]
      refine ⟨⟨k + 1, rfl, by omega, fun p hp => ?_⟩, by omega⟩
      rw [take_succ_get hq] at hp
      rcases List.mem_append.1 hp with hp | hp
      · exact hall p hp
      · obtain rfl := List.mem_singleton.1 hp
        rw [Int.toNat_natCast, getD_of_get hbj]; exact hb0
  rw [List.take_of_length_le (by omega)] at hall
  have hpo : parOk P r = true := decide_eq_true hall
  have hkey : keyC cs P v r = some (rowI cs P r * c + x) := by unfold keyC; rw [if_pos ⟨by rw [getD_of_get hx]; exact hx0, hpo⟩, getD_of_get hx, getD_of_get hcv]
  have hri := idxL_range (h.fits hc hpo)
  have hpr := h.prod (atL cs P).length
  rw [List.take_of_length_le (Nat.le_refl _)] at hpr
  have hri' : 0 ≤ rowI cs P r ∧ rowI cs P r < 4096 := ⟨hri.1, by unfold rowI; omega⟩
  have m0 : 0 ≤ rowI cs P r * c := Int.mul_nonneg hri'.1 (by omega)
  have m1 : rowI cs P r * c ≤ 4096 * 4 := Int.mul_le_mul (by omega) c4.2 (by omega) (by omega)
  have w2 := IntWalk.i64_in (rowI cs P r * c) (by omega)
  have w3 := IntWalk.i64_in (rowI cs P r * c + x) (by omega)
  have eb := hes (rowI cs P r * c + x)
  have w4 := IntWalk.i64_in (mpV es (rowI cs P r * c + x) + 1) (by omega)
  have isM : isIntMap Tryd.prog 119 = true := by kernel_rfl
  have hlk : lookupA Tryd.prog H' 119 (.yld m) (.lit (.int .i64 (rowI cs P r * c + x))) false = some (.lit (.int .i64 (mpV es (rowI cs P r * c + x)))) := by
    unfold lookupA
    rw [if_pos isM]
    simp only [gm]
    rw [mpRes_V]
  have hup : mapUpdA Tryd.prog H' 119 (.yld m) (.lit (.int .i64 (rowI cs P r * c + x))) (.lit (.int .i64 (mpV es (rowI cs P r * c + x) + 1))) = some (.lit undef, H'.upd m (.mp (mpPut es (rowI cs P r * c + x) (mpV es (rowI cs P r * c + x) + 1)))) := by
    unfold mapUpdA
    rw [if_pos isM]
    simp only [gm]
  simp (config := { maxSteps := 1000000 }) only [go_sem, h15, hb, appendA_U]
  refine W.draw 17 [0, 0, 2, 0, 0, 30, 0, 64, 0, 448, 960, 2046, 0, 0, 12288, 28672, 65534] Tryd.mixed (by kernel_rfl) (by kernel_rfl) ?_
  simp (config := { maxSteps := 1000000 }) only [go_sem, lt, ld, lp, appendA_U]
  refine ⟨lin (rowI cs P r), [], PCall.pure (fun H2 => rowOf_gen h hc hpo hcl H2 _ ⟨rfl, rfl⟩), ?_⟩
  simp (config := { maxSteps := 1000000 }) only [go_sem, lt, ld, lp, lv, hvc, hvr, hx, hxn, hcv, hcn, w2, w3, w4, hlk, hup, appendA_U]
  have e : tabStep cs P v es r = mpPut es (rowI cs P r * c + x) (mpV es (rowI cs P r * c + x) + 1) := by unfold tabStep; rw [hkey]
  exact FinV.mk (Nat.le_refl _) (hK _ (by rw [upd_get, if_pos rfl, e]) (fun j hj => by rw [upd_get, if_neg hj]) rfl)
set_option maxHeartbeats 2000000 in
theorem tally_spec {cs P : List Int} {xs : List (List Int)} {v : Nat} (h : ParIn cs P) (hd : DataOk cs xs) (hv : v < cs.length) (H : AHeap) (K : ARes → AHeap → Prop)
    (hK : ∀ m H' es, Over H H' → H.next ≤ m → m < H'.next → H'.get m = some (.mp es) → (∀ k, mpV es k = cntF cs P v xs k) → K (.ret (.tup [.yld m, lin (prodL (atL cs P))])) H') :
    ACall Tryd.prog G0 55 [dataV cs xs, lin v, vecI P] H K := by
  have c6 := hd.c1
  have x40 := hd.x1
  have plen := h.len
  refine ACall.of_body (n := 44) (rs := [.tmp 6, .tmp 7]) Tryd.func55 rfl rfl rfl (by decide) (by kernel_rfl) (by simp) ?_
  simp (config := { maxSteps := 1000000 }) only [go_sem, dataV, vecV, appendA_U]
  obtain ⟨H1, hH1⟩ : ∃ H1, H1 = ext H [.arr 0 50 [vecI cs, vecV xs], .arr 0 3 [lin v], .arr 0 22 [vecI P], .mp [], .arr 0 119 [.yld (H.next + 3)]] := ⟨_, rfl⟩
  have b0 : H1.get H.next = some (.arr 0 50 [vecI cs, vecV xs]) := by rw [hH1]; exact get_ext0 ..
  have b1 : H1.get (H.next + 1) = some (.arr 0 3 [lin v]) := by rw [hH1]; exact get_ext H _ 1 (by simp)
  have b2 : H1.get (H.next + 2) = some (.arr 0 22 [vecI P]) := by rw [hH1]; exact get_ext H _ 2 (by simp)
  have b3 : H1.get (H.next + 3) = some (.mp []) := by rw [hH1]; exact get_ext H _ 3 (by simp)
  have b4 : H1.get (H.next + 4) = some (.arr 0 119 [.yld (H.next + 3)]) := by rw [hH1]; exact get_ext H _ 4 (by simp)
  have n1 : H1.next = H.next + 5 := by rw [hH1]; rfl
  have o1 : Over H H1 := by rw [hH1]; exact .ext _ _
  refine W.env fun E hE => ?_
  have e3 : E 3 = .ptr H.next 0 0 := by rw [hE]; simp (config := { maxSteps := 1000000 }) only [go_sem, appendA_U]
  have e5 : E 5 = .ptr (H.next + 2) 0 0 := by rw [hE]; simp (config := { maxSteps := 1000000 }) only [go_sem, appendA_U]
  have e8 : E 8 = .ptr (H.next + 4) 0 0 := by rw [hE]; simp (config := { maxSteps := 1000000 }) only [go_sem, appendA_U]
  have e9 : E 9 = .clo 83 [] [.ptr (H.next + 1) 0 0, .ptr (H.next + 2) 0 0, .ptr (H.next + 4) 0 0, .ptr H.next 0 0] := by rw [hE]; simp (config := { maxSteps := 1000000 }) only [go_sem, appendA_U]
  have e18 : E 18 = .vec xs.length (xs.map vecI) := by rw [hE]; simp (config := { maxSteps := 1000000 }) only [go_sem, appendA_U]
  have e19 : E 19 = lin xs.length := by rw [hE]; simp (config := { maxSteps := 1000000 }) only [go_sem, appendA_U]
  have e20 : E 20 = lin 0 := by rw [hE]; simp (config := { maxSteps := 1000000 }) only [go_sem, appendA_U]
  clear hE
  show W _ _ _ _ _ _ ⟨E, ext H [.arr 0 50 [vecI cs, vecV xs], .arr 0 3 [lin v], .arr 0 22 [vecI P], .mp [], .arr 0 119 [.yld (H.next + 3)]]⟩
  rw [← hH1]
  clear hH1
  refine W.loop0 267388928 (by rfl) (fun ρ Hx => ∃ i : Nat, ρ 20 = lin i ∧ i ≤ xs.length ∧ Hx.get (H.next + 3) = some (.mp ((xs.take i).foldl (tabStep cs P v) [])) ∧ (∀ j, j ≠ H.next + 3 → Hx.get j = H1.get j) ∧ Hx.next = H1.next) (fun ρ H => xs.length - (iv (ρ 20)).toNat) ?_ ?_
  · exact ⟨0, e20, by omega, b3, fun _ _ => rfl, rfl⟩
  rintro ρ Hx ⟨i, h20, hi, hm, hold, hnx⟩
  refine W.env fun E1 hE1 => ?_
  have f3 : E1 3 = .ptr H.next 0 0 := by rw [hE1]; simp (config := { maxSteps := 1000000 }) only [go_sem, e3, appendA_U]
  have f5 : E1 5 = .ptr (H.next + 2) 0 0 := by rw [hE1]; simp (config := { maxSteps := 1000000 }) only [go_sem, e5, appendA_U]
  have f8 : E1 8 = .ptr (H.next + 4) 0 0 := by rw [hE1]; simp (config := { maxSteps := 1000000 }) only [go_sem, e8, appendA_U]
  have f9 : E1 9 = .clo 83 [] [.ptr (H.next + 1) 0 0, .ptr (H.next + 2) 0 0, .ptr (H.next + 4) 0 0, .ptr H.next 0 0] := by rw [hE1]; simp (config := { maxSteps := 1000000 }) only [go_sem, e9, appendA_U]
  have f18 : E1 18 = .vec xs.length (xs.map vecI) := by rw [hE1]; simp (config := { maxSteps := 1000000 }) only [go_sem, e18, appendA_U]
  have f19 : E1 19 = lin xs.length := by rw [hE1]; simp (config := { maxSteps := 1000000 }) only [go_sem, e19, appendA_U]
  have f20 : E1 20 = lin i := by rw [hE1]; simp (config := { maxSteps := 1000000 }) only [go_sem, h20, appendA_U]
  clear hE1
  refine vc_sound _ _ _ (by rfl) ?_
  by_cases hb : (i : Int) < xs.length
  · obtain ⟨r, hr⟩ := get_of_lt (l := xs) (i := i) (by omega)
    have hr' := vecV_get hr
    have hrn := ne_of_get hr'
    have w1 := IntWalk.i64_in ((i : Int) + 1) (by omega)
    have bnd : ∀ k, 0 ≤ mpV ((xs.take i).foldl (tabStep cs P v) []) k ∧ mpV ((xs.take i).foldl (tabStep cs P v) []) k ≤ 1000 := fun k => by
      rw [tab_count]
      have := cntF_le cs P v (xs.take i) k
      rw [List.length_take] at this
      have e : mpV [] k = 0 := rfl
      omega
    simp (config := { maxSteps := 1000000 }) only [go_sem, f9, f18, f19, f20, hb, hr', hrn, appendA_U]
    refine AApply.clo (tally1_spec h (hd.row r (List.mem_of_getElem? hr)) (by omega) hv bnd Hx (H.next + 1) (H.next + 2) (H.next + 4) H.next (H.next + 3) ((hold _ (by omega)).trans b1) ((hold _ (by omega)).trans b2) ((hold _ (by omega)).trans b4) ((hold _ (by omega)).trans b0) hm (by omega) _ fun H' g1 g2 g3 => ⟨trivial, ?_⟩)
    simp (config := { maxSteps := 1000000 }) only [go_sem, f20, w1, appendA_U]
    refine ⟨by omega, ⟨i + 1, rfl, by omega, by rw [take_succ_get hr, List.foldl_append]; exact g1, fun j hj => (g2 j hj).trans (hold j hj), by omega⟩, by rw [h20]; simp only [lin, iv_int]; omega⟩
  rw [List.take_of_length_le (by omega)] at hm
  have l0 := get_live ((hold H.next (by omega)).trans b0)
  have l2 := get_live ((hold (H.next + 2) (by omega)).trans b2)
  have l4 := get_live ((hold (H.next + 4) (by omega)).trans b4)
  simp (config := { maxSteps := 1000000 }) only [go_sem, f5, f19, f20, hb, l2, appendA_U]
  refine W.loop0 4396972789760 (by rfl) (fun ρ2 Hy => Hy = Hx ∧ ∃ k : Nat, ρ2 30 = lin k ∧ k ≤ P.length ∧ ρ2 12 = lin (prodL ((atL cs P).take k))) (fun ρ2 H => P.length - (iv (ρ2 30)).toNat) ?_ ?_
  · simp (config := { maxSteps := 1000000 }) only [go_sem, appendA_U]
    exact ⟨0, rfl, by omega, by simp [prodL_nil]⟩
  rintro ρ2 Hy ⟨rfl, k, h30, hk, h12⟩
  refine vc_sound _ _ _ (by rfl) ?_
  by_cases hb2 : (k : Int) < P.length
  · obtain ⟨q, hq⟩ := get_of_lt (l := P) (i := k) (by omega)
    obtain ⟨j, rfl, c, hcj⟩ := get_of_int (l := cs) (h.rng q (List.mem_of_getElem? hq)).1 (h.rng q (List.mem_of_getElem? hq)).2
    have pk : (atL cs P)[k]? = some c := by rw [atL_get hq, Int.toNat_natCast, getD_of_get hcj]
    have hqn := ne_of_get hq
    have hcn := ne_of_get hcj
    have hjl : (j : Int) < cs.length := by have := get_lt hcj; omega
    have w1 := IntWalk.i64_in ((k : Int) + 1) (by omega)
    have pr := h.prod (k + 1)
    rw [take_succ_get pk, prodL_snoc] at pr
    have w2 := IntWalk.i64_in (prodL ((atL cs P).take k) * c) (by omega)
    simp (config := { maxSteps := 1000000 }) only [go_sem, h30, h12, hb2, hq, hqn, f3, l0, hjl, hcj, hcn, w1, w2, appendA_U]
    exact ⟨⟨k + 1, rfl, by omega, by rw [take_succ_get pk, prodL_snoc]⟩, by omega⟩
  rw [List.take_of_length_le (by rw [atL_len]; omega)] at h12
  simp (config := { maxSteps := 1000000 }) only [go_sem, h30, h12, hb2, f8, l4, appendA_U]
  refine FinV.mk (by omega) (hK (H.next + 3) Hy _ ⟨by omega, fun id hid => (hold id (by omega)).trans (o1.old id hid)⟩ (by omega) (by omega) hm fun k => ?_)
  rw [tab_count]
  have e : mpV [] k = 0 := rfl
  omega
end Go.Proofs
