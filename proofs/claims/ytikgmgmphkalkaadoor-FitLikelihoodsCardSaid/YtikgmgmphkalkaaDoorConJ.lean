/- Own work: contracts. -/
import Derived.Test.YtikgmgmphkalkaaDoorConI
import Derived.Test.YtikgmgmphkalkaaDoorConH
import Derived.Test.YtikgmgmphkalkaaDoorConD
import Derived.Test.YtikgmgmphkalkaaDoorConG
import Derived.Test.YtikgmgmphkalkaaDoorConB
import Derived.Test.YtikgmgmphkalkaaDoorLibD
import Derived.Test.YtikgmgmphkalkaaDoorConE
import Derived.Test.YtikgmgmphkalkaaDoorRows
import Derived.Test.YtikgmgmphkalkaaDoorLibE
import Derived.ProofKit
import Derived.LaidMore
import Derived.Stop.Joined
set_option linter.all false
set_option maxRecDepth 100000
namespace Go.Proofs
open Go.Hx
set_option maxHeartbeats 4000000 in
theorem like26_spec (g : Int) (ns : List NodeP) (cs : List Int) (xs : List (List Int)) (hn : NetFit ns) (hf : DataFit cs xs) (H : AHeap) (K : ARes → AHeap → Prop) (hK : K (.ret (likeV g ns cs xs)) H) : ACall Tryd.prog G0 31 [netV g ns, dataV cs xs] H K := by
  refine ACall.clo ⟨_, Tryd.func31, rfl, rfl⟩ fun hcl => ?_
  have hf' := hf
  obtain ⟨f1, f2, f3⟩ := hf
  have hn1 := hn.1
  refine ACall.of_bodyW (n := 64) (rs := [.cell 4 84, .tmp 5]) Tryd.func31 rfl rfl rfl (by decide) (by simp) ?_
  refine W.seq (vc_sound _ _ _ (by rfl) ?_)
  simp (config := { maxSteps := 1000000 }) only [go_sem, dataV, vecV, netV, nodesV, appendA_U]
  obtain ⟨H1, hH1⟩ : ∃ H1, H1 = ext H [.arr 0 61 [.lit (.int .i64 g), .vec ns.length (nodesC ns)], .arr 0 50 [.vec cs.length (ints cs), .vec xs.length (xs.map vecI)], .arr 0 84 (ints zeroP)] := ⟨_, rfl⟩
  have b0 : H1.get H.next = some (.arr 0 61 [.lit (.int .i64 g), .vec ns.length (nodesC ns)]) := by rw [hH1]; exact get_ext0 ..
  have b1 : H1.get (H.next + 1) = some (.arr 0 50 [.vec cs.length (ints cs), .vec xs.length (xs.map vecI)]) := by rw [hH1]; exact get_ext H _ 1 (by simp)
  have b2 : H1.get (H.next + 2) = some (.arr 0 84 (ints zeroP)) := by rw [hH1]; exact get_ext H _ 2 (by simp)
  have n1 : H1.next = H.next + 3 := by rw [hH1]; rfl
  have o1 : Over H H1 := by rw [hH1]; exact .ext _ _
  refine W.env fun E hE => ?_
  have e2 : E 2 = .ptr H.next 0 0 := by rw [hE]; simp (config := { maxSteps := 1000000 }) only [go_sem, appendA_U]
  have e3 : E 3 = .ptr (H.next + 1) 0 0 := by rw [hE]; simp (config := { maxSteps := 1000000 }) only [go_sem, appendA_U]
  have e4 : E 4 = .ptr (H.next + 2) 0 0 := by rw [hE]; simp (config := { maxSteps := 1000000 }) only [go_sem, appendA_U]
  clear hE
  show W _ _ _ _ _ _ ⟨E, ext H [.arr 0 61 [.lit (.int .i64 g), .vec ns.length (nodesC ns)], .arr 0 50 [.vec cs.length (ints cs), .vec xs.length (xs.map vecI)], .arr 0 84 (ints zeroP)]⟩
  rw [← hH1]
  clear hH1
  have l0 := get_live b0
  have l1 := get_live b1
  have l2 := get_live b2
  have zt := take18 (e := zeroP) rfl
  have zl : (ints zeroP).length = 18 := rfl
  have za := all_one_ints zeroP
  have fail : ∀ (c : Int) (Hx : AHeap), likeV g ns cs xs = .tup [.agg (ints zeroP), lin c] → Over H Hx → FinV Tryd.prog G0 H K (.tup [.agg (ints zeroP), lin c]) Hx := fun c Hx h o => by
    rw [h] at hK
    exact FinV.dropO G0_ok hcl o (fz_pow _ _) hK
  refine W.seq (vc_sound _ _ _ (by rfl) ?_)
  simp (config := { maxSteps := 1000000 }) only [go_sem, e2, e3, e4, l0, l1, appendA_U]
  refine AApply.clo (like_spec g ns cs xs hn hf' _ _ ⟨trivial, ?_⟩)
  by_cases hE0 : likeE g ns cs xs = 0
  rotate_left
  · simp (config := { maxSteps := 1000000 }) only [go_sem, e2, e3, e4, l2, zt, zl, za, drop18, hE0, appendA_U]
    exact fail _ _ (likeV_err rfl hE0) (o1.upd (by omega) _)
  simp (config := { maxSteps := 1000000 }) only [go_sem, hE0, appendA_U]
  have hN : netB g ns = true := by
    cases h : netB g ns
    · rw [likeE_net h] at hE0; cases hE0
    · rfl
  have hD : dataB cs xs = true := by
    cases h : dataB cs xs
    · rw [likeE_data hN h] at hE0; cases hE0
    · rfl
  have hcs : cardsL ns = cs := Classical.byContradiction fun h => by rw [likeE_un hN hD h] at hE0; cases hE0
  subst hcs
  have nok := netB_iff.1 hN
  have dok := dataB_iff.1 hD
  refine W.env fun E2 hE2 => ?_
  have a2 : E2 2 = .ptr H.next 0 0 := by rw [hE2]; simp (config := { maxSteps := 1000000 }) only [go_sem, e2, appendA_U]
  have a3 : E2 3 = .ptr (H.next + 1) 0 0 := by rw [hE2]; simp (config := { maxSteps := 1000000 }) only [go_sem, e3, appendA_U]
  have a4 : E2 4 = .ptr (H.next + 2) 0 0 := by rw [hE2]; simp (config := { maxSteps := 1000000 }) only [go_sem, e4, appendA_U]
  clear hE2
  refine W.seq (vc_sound _ _ _ (by rfl) ?_)
  simp (config := { maxSteps := 1000000 }) only [go_sem, a2, a3, a4, l1, appendA_U]
  refine AApply.clo (whole25_spec (cardsL ns) xs hf' _ _ ⟨trivial, ?_⟩)
  by_cases hall : ∀ r ∈ xs, wholeB r = true
  rotate_left
  · simp (config := { maxSteps := 1000000 }) only [go_sem, hall, a4, l2, zt, zl, za, drop18, appendA_U]
    exact fail 260 _ (likeV_miss hE0 hall) (o1.upd (by omega) _)
  have hdt : decide (∀ r ∈ xs, wholeB r = true) = true := decide_eq_true hall
  simp (config := { maxSteps := 1000000 }) only [go_sem, hdt, appendA_U]
  refine W.env fun E3 hE3 => ?_
  have c2 : E3 2 = .ptr H.next 0 0 := by rw [hE3]; simp (config := { maxSteps := 1000000 }) only [go_sem, a2, appendA_U]
  have c3 : E3 3 = .ptr (H.next + 1) 0 0 := by rw [hE3]; simp (config := { maxSteps := 1000000 }) only [go_sem, a3, appendA_U]
  have c4 : E3 4 = .ptr (H.next + 2) 0 0 := by rw [hE3]; simp (config := { maxSteps := 1000000 }) only [go_sem, a4, appendA_U]
  clear hE3
  refine W.seq (vc_sound _ _ _ (by rfl) ?_)
  simp (config := { maxSteps := 1000000 }) only [go_sem, appendA_U]
  obtain ⟨Hs, hHs⟩ : ∃ Hs, Hs = ext H1 [.arr 0 84 (ints zeroP)] := ⟨_, rfl⟩
  have ns' : Hs.next = H.next + 4 := by rw [hHs]; show H1.next + 1 = _; omega
  have os : Over H1 Hs := by rw [hHs]; exact .ext _ _
  have b10 : Hs.get (H.next + 3) = some (.arr 0 84 (ints zeroP)) := by rw [hHs, ← n1]; exact ext1_get_new
  have oall := o1.trans os
  have s0 := (os.old _ (by omega)).trans b0
  have s1 := (os.old _ (by omega)).trans b1
  have s2 := (os.old _ (by omega)).trans b2
  refine W.env fun E4 hE4 => ?_
  have d2 : E4 2 = .ptr H.next 0 0 := by rw [hE4]; simp (config := { maxSteps := 1000000 }) only [go_sem, c2, appendA_U]
  have d3 : E4 3 = .ptr (H.next + 1) 0 0 := by rw [hE4]; simp (config := { maxSteps := 1000000 }) only [go_sem, c3, appendA_U]
  have d4 : E4 4 = .ptr (H.next + 2) 0 0 := by rw [hE4]; simp (config := { maxSteps := 1000000 }) only [go_sem, c4, appendA_U]
  have d7 : E4 7 = .ptr (H.next + 3) 0 0 := by rw [hE4]; simp (config := { maxSteps := 1000000 }) only [go_sem, n1, appendA_U]
  clear hE4
  show W _ _ _ _ _ _ ⟨E4, ext H1 [.arr 0 84 (ints zeroP)]⟩
  rw [← hHs]
  clear hHs
  refine W.seq (vc_sound _ _ _ (by rfl) ?_)
  simp (config := { maxSteps := 1000000 }) only [go_sem, appendA_U]
  have nn8 := nok.n1.2
  have x40 := dok.x1
  refine W.loop0 9223372036850583328 (by rfl) (fun ρ Hx => ∃ i : Nat, ρ 8 = lin i ∧ i ≤ xs.length ∧ Hs.next ≤ Hx.next ∧ (∀ id, id < H.next + 3 → Hx.get id = Hs.get id) ∧ Hx.get (H.next + 3) = some (.arr 0 84 (ints (foldW g zeroP (allW ns (xs.take i))))) ∧ ∀ w ∈ allW ns (xs.take i), w ≠ 0) (fun ρ H => xs.length - (iv (ρ 8)).toNat) ?_ ?_
  · simp (config := { maxSteps := 1000000 }) only [go_sem, appendA_U]
    exact ⟨0, rfl, by omega, b10, by simp [allW]⟩
  rintro ρ2 Hx ⟨i, h8, hi, hnx, hold, hg10, hnz⟩
  refine vc_sound _ _ _ (by rfl) ?_
  have p0 := get_live ((hold _ (by omega)).trans s0)
  have p1 := get_live ((hold _ (by omega)).trans s1)
  have p2 := get_live ((hold _ (by omega)).trans s2)
  have p10 := get_live hg10
  by_cases hb2 : (i : Int) < xs.length
  rotate_left
  · rw [List.take_of_length_le (by omega)] at hg10 hnz p10
    have fs := fold_small0 (g := g) (xs := xs) x40 nn8 xs.length
    rw [List.take_of_length_le (Nat.le_refl _)] at fs
    have ft := take18 fs.1
    have fl : (ints (foldW g zeroP (allW ns xs))).length = 18 := by rw [ints_length, fs.1]
    have fa := all_one_ints (foldW g zeroP (allW ns xs))
    have fl1 := fs.1
    simp (config := { maxSteps := 1000000 }) only [go_sem, h8, hb2, d3, p1, appendA_U]
    refine vc_sound _ _ _ (by rfl) ?_
    simp (config := { maxSteps := 1000000 }) only [go_sem, d4, d7, p2, p10, ft, fl, fa, fl1, zl, drop18, appendA_U]
    rw [likeV_ok hE0 hall hnz] at hK
    exact FinV.dropO G0_ok hcl ⟨by rw [upd_next]; omega, fun id h => by rw [upd_get, if_neg (by omega), hold id (by omega)]; exact oall.old id h⟩ (fz_pow _ _) hK
  obtain ⟨r, hr⟩ := get_of_lt (l := xs) (i := i) (by omega)
  have hrm := List.mem_of_getElem? hr
  have hr' := vecV_get hr
  have hrn := ne_of_get hr'
  have hfit : FitsC (cardsL ns) r := whole_fits (dok.row r hrm) (hall r hrm)
  obtain ⟨e, he⟩ : ∃ e, e = foldW g zeroP (allW ns (xs.take i)) := ⟨_, rfl⟩
  rw [← he] at hg10
  simp (config := { maxSteps := 1000000 }) only [go_sem, h8, hb2, d2, d3, p0, p1, appendA_U]
  refine W.loop0 9223372036317906464 (by rfl) (fun ρ3 Hy => ∃ v : Nat, ρ3 9 = lin v ∧ v ≤ ns.length ∧ Hy.next = Hx.next ∧ (∀ id, id < H.next + 3 → Hy.get id = Hs.get id) ∧ Hy.get (H.next + 3) = some (.arr 0 84 (ints (foldW g e ((wgtL ns r).take v)))) ∧ ∀ w ∈ (wgtL ns r).take v, w ≠ 0) (fun ρ3 H => ns.length - (iv (ρ3 9)).toNat) ?_ ?_
  · simp (config := { maxSteps := 1000000 }) only [go_sem, appendA_U]
    exact ⟨0, rfl, by omega, hold, hg10, by simp⟩
  rintro ρ3 Hy ⟨v, h9, hv, hny, holdy, hgy, hnzv⟩
  refine W.env fun E5 hE5 => ?_
  have f2 : E5 2 = .ptr H.next 0 0 := by rw [hE5]; simp (config := { maxSteps := 1000000 }) only [go_sem, d2, appendA_U]
  have f3 : E5 3 = .ptr (H.next + 1) 0 0 := by rw [hE5]; simp (config := { maxSteps := 1000000 }) only [go_sem, d3, appendA_U]
  have f4 : E5 4 = .ptr (H.next + 2) 0 0 := by rw [hE5]; simp (config := { maxSteps := 1000000 }) only [go_sem, d4, appendA_U]
  have f7 : E5 7 = .ptr (H.next + 3) 0 0 := by rw [hE5]; simp (config := { maxSteps := 1000000 }) only [go_sem, d7, appendA_U]
  have f8 : E5 8 = lin i := by rw [hE5]; simp (config := { maxSteps := 1000000 }) only [go_sem, h8, appendA_U]
  have f9 : E5 9 = lin v := by rw [hE5]; simp (config := { maxSteps := 1000000 }) only [go_sem, h9, appendA_U]
  clear hE5
  have y0 := get_live ((holdy _ (by omega)).trans s0)
  have y1 := get_live ((holdy _ (by omega)).trans s1)
  have y2 := get_live ((holdy _ (by omega)).trans s2)
  have y10 := get_live hgy
  refine vc_sound _ _ _ (by rfl) ?_
  by_cases hb3 : (v : Int) < ns.length
  rotate_left
  · obtain rfl : v = ns.length := by omega
    rw [List.take_of_length_le (by rw [wgtL_len]; omega)] at hgy hnzv
    have w1 := IntWalk.i64_in ((i : Int) + 1) (by omega)
    simp (config := { maxSteps := 1000000 }) only [go_sem, f2, f8, f9, y0, hb3, w1, appendA_U]
    refine ⟨by omega, ⟨i + 1, rfl, by omega, by omega, holdy, ?_, fun w hw => ?_⟩, by omega⟩
    · rw [allW_succ hr, foldW_app, ← he]; exact hgy
    · rw [allW_succ hr] at hw
      rcases List.mem_append.1 hw with hw | hw
      · exact hnz w hw
      · exact hnzv w hw
  obtain ⟨x, hx⟩ := get_of_lt (l := ns) (i := v) (by omega)
  obtain ⟨i0, row, a, w, hR⟩ := row_at nok hx hfit
  obtain ⟨a', rfl⟩ := Int.eq_ofNat_of_zero_le hR.a0
  have hra : row[a']? = some w := by have := hR.hw; rw [Int.toNat_natCast] at this; exact this
  have hrane := ne_of_get hra
  have hva := hR.val
  have hvne := ne_of_get hva
  have hvv : (v : Int) < r.length := by have := get_lt hva; omega
  have hal := hR.al
  simp (config := { maxSteps := 1000000 }) only [go_sem, f2, f9, y0, hb3, appendA_U]
  refine W.draw 16 [0, 0, 0, 4, 0, 28, 60, 127, 0, 256, 0, 1792, 3840, 0, 16128, 32512] Tryd.mixed (by kernel_rfl) (by kernel_rfl) ?_
  simp (config := { maxSteps := 1000000 }) only [go_sem, f2, f3, f8, f9, y0, y1, hb2, hr', hrn, appendA_U]
  refine ⟨vecI row, [], PCall.pure (fun H2 => row05_spec g ns nok r hfit v x hx H2 _ ⟨by rw [hR.rv], rfl⟩), ?_⟩
  simp (config := { maxSteps := 1000000 }) only [go_sem, f2, f3, f8, f9, y0, y1, hb2, hr', hrn, hva, hvne, hvv, hra, hrane, hal, appendA_U]
  have fsm := fold_small (g := g) (r := r) x40 nn8 (xs := xs) i v
  rw [← he] at fsm
  by_cases hw0 : w = 0
  · simp (config := { maxSteps := 1000000 }) only [go_sem, hw0, f4, y2, zt, zl, za, drop18, appendA_U]
    rw [likeV_zero hE0 hall (allW_zero hr (get_lt hx) (by rw [hR.eq, hw0]))] at hK
    exact FinV.dropO G0_ok hcl ⟨by rw [upd_next]; omega, fun id h => by rw [upd_get, if_neg (by omega), holdy id (by omega)]; exact oall.old id h⟩ (fz_pow zeroP _) hK
  have g60 := nok.g1
  have wb := hR.wb
  simp (config := { maxSteps := 1000000 }) only [go_sem, hw0, appendA_U]
  have tk := take18 fsm.1
  have t1 := times26_spec (foldW g e ((wgtL ns r).take v)) w 1 (by omega) (.inl rfl) fsm.1 (fsm.2.mono (by omega))
  have t2 := times26_spec (addP (foldW g e ((wgtL ns r).take v)) 1 w) g (-1) (by omega) (.inr rfl) (addP_len ..) ((fsm.2.add (by omega) (.inl rfl) w).mono (by omega))
  have sl := addP_len (addP (foldW g e ((wgtL ns r).take v)) 1 w) (-1) g
  have sk := take18 sl
  have si : (ints (addP (addP (foldW g e ((wgtL ns r).take v)) 1 w) (-1) g)).length = 18 := by rw [ints_length, sl]
  have sa := all_one_ints (addP (addP (foldW g e ((wgtL ns r).take v)) 1 w) (-1) g)
  have fl18 := fsm.1
  have dr : (ints (foldW g e ((wgtL ns r).take v))).drop 18 = [] := List.drop_of_length_le (by rw [ints_length, fl18]; omega)
  have w1 := IntWalk.i64_in ((v : Int) + 1) (by omega)
  refine W.draw 5 [0, 0, 3, 0, 8] Tryd.mixed (by kernel_rfl) (by kernel_rfl) ?_
  simp (config := { maxSteps := 1000000 }) only [go_sem, f2, f7, y10, tk, fl18, appendA_U]
  refine ⟨.agg (ints (addP (foldW g e ((wgtL ns r).take v)) 1 w)), [], PCall.pure (fun H2 => t1 H2 _ ⟨rfl, rfl⟩), ?_⟩
  simp (config := { maxSteps := 1000000 }) only [go_sem, f2, f7, y0, y10, tk, fl18, appendA_U]
  refine AApply.clo (t2 _ _ ⟨trivial, ?_⟩)
  simp (config := { maxSteps := 1000000 }) only [go_sem, f2, f7, f9, y0, y10, tk, fl18, sl, sk, si, sa, dr, w1, appendA_U]
  refine ⟨by rw [upd_next]; omega, ⟨v + 1, rfl, by omega, by rw [upd_next]; exact hny, fun id h => by rw [upd_get, if_neg (by omega)]; exact holdy id h, ?_, fun q hq => ?_⟩, by rw [h9]; simp only [lin, iv_int]; omega⟩
  · rw [take_succ_get (wgtL_get (get_lt hx)), foldW_snoc, hR.eq, upd_get, if_pos rfl]
    rfl
  · rw [take_succ_get (wgtL_get (get_lt hx)), hR.eq] at hq
    rcases List.mem_append.1 hq with hq | hq
    · exact hnzv q hq
    · obtain rfl := List.mem_singleton.1 hq; exact hw0
end Go.Proofs
namespace Go.Hx
open Go.Proofs.R01 (pureRun_bind)
variable {P : Program} {t e : TypeId} {x y : Operand} {k k' : IntKind}
theorem equalIn_int1 (n : Nat) (he : P.underlying e = some (.int k)) (a b : Int) : pureRun P (Op.equalIn (n + 1) e (.int k' a) (.int k' b)) = some (a == b) := by
  unfold Op.equalIn
  simp [underlying, program, he, pureRun, bind, Sem.bind, pure]
theorem forIn_const {σ : Type} {s : σ} {body : Nat → σ → Sem (ForInStep σ)} : ∀ (l : List Nat), (∀ i ∈ l, pureRun P (body i s) = some (.yield s)) → pureRun P (forIn l s body) = some s := by
  intro l
  induction l with
  | nil => intro _; rfl
  | cons i l ih =>
    intro h
    rw [List.forIn_cons, pureRun_bind (h i (by simp))]
    exact ih fun j hj => h j (by simp [hj])
theorem equalIn_same (n m : Nat) (l : List Int) (hl : l.length = m) (ht : P.underlying t = some (.array m e)) (he : P.underlying e = some (.int k)) (hs : P.cellsOf e = 1) :
    pureRun P (Op.equalIn (n + 2) t (.agg (l.map (.int k')).toArray) (.agg (l.map (.int k')).toArray)) = some true := by
  unfold Op.equalIn
  have e1 : ∀ {α : Type} (f : TypeDesc → Sem α), pureRun P (underlying t >>= f) = pureRun P (f (.array m e)) := fun f => pureRun_bind (by simp [underlying, program, ht, pureRun, bind, Sem.bind, pure])
  have hinf : ∃ i, P.info? e = some i ∧ i.size = 1 := by
    obtain ⟨i, hi⟩ := info_of_und he
    exact ⟨i, hi, by simpa [Program.cellsOf, hi] using hs⟩
  obtain ⟨i, hi, hi1⟩ := hinf
  have e2 : ∀ {α : Type} (f : Nat → Sem α), pureRun P (sizeOf e >>= f) = pureRun P (f 1) := fun f => pureRun_bind (by simp [sizeOf, typeInfo, program, hi, hi1, pureRun, bind, Sem.bind, pure])
  rw [e1]
  dsimp only
  rw [e2]
  rw [Std.Legacy.Range.forIn_eq_forIn_range']
  have e3 : ∀ {α : Type} (cs : Array Value) (o : Nat) (v : Value) (f : Value → Sem α), cs[o]? = some v → pureRun P (part e cs o >>= f) = pureRun P (f v) := fun cs o v f h => pureRun_bind (by simp [part, isAgg, underlying, program, he, h, pureRun, bind, Sem.bind, pure])
  rw [pureRun_bind (forIn_const _ fun j hj => ?_)]
  · rfl
  · have hjm : j < m := by
      have := List.mem_range'.1 hj
      obtain ⟨q, h1, h2⟩ := this
      have hz : [:m].size = m := by simp [Std.Legacy.Range.size]
      rw [hz] at h1
      have h3 : j = 0 + 1 * q := h2
      omega
    obtain ⟨v, hv⟩ : ∃ v, l[j]? = some v := ⟨_, List.getElem?_eq_getElem (by omega)⟩
    have hv' : (l.map (Value.int k')).toArray[j * 1]? = some (.int k' v) := by rw [Nat.mul_one]; simp [hv]
    rw [e3 _ _ _ _ hv', e3 _ _ _ _ hv', pureRun_bind (equalIn_int1 n he v v)]
    simp
    rfl
theorem bin_neq_same (m : Nat) (l : List Int) (hl : l.length = m) (ht : P.underlying t = some (.array m e)) (he : P.underlying e = some (.int .i64)) (hs : P.cellsOf e = 1) (hg : P.eqGuardType P.depth t = false) :
    binA P .neq t x y (.agg (Go.Hx.ints l)) (.agg (Go.Hx.ints l)) = some (.lit (.bool false)) := by
  have hv : AVal.toVal (.agg (Go.Hx.ints l)) = some (.agg (l.map (Value.int .i64)).toArray) := by
    have h : allLit (Go.Hx.ints l) = some (l.map (Value.int .i64)) := by
      clear hl
      induction l with
      | nil => rfl
      | cons a l ih => show (allLit (Go.Hx.ints l)).map _ = _; rw [ih]; rfl
    show (allLit (Go.Hx.ints l)).map _ = _
    rw [h]
    rfl
  unfold binA
  rw [hv]
  show (pureRun P (do eqGuard .neq t x y (.agg (l.map (Value.int .i64)).toArray) (.agg (l.map (Value.int .i64)).toArray); binOp .neq t (.agg (l.map (Value.int .i64)).toArray) (.agg (l.map (Value.int .i64)).toArray))).map _ = _
  have h0 : pureRun P (eqGuard .neq t x y (.agg (l.map (Value.int .i64)).toArray) (.agg (l.map (Value.int .i64)).toArray)) = some () := by
    simp [eqGuard, program, hg, pureRun, bind, Sem.bind, pure]
  have h1 : binOp .neq t (.agg (l.map (Value.int .i64)).toArray) (.agg (l.map (Value.int .i64)).toArray) = (Op.equalIn (9998 + 2) t (.agg (l.map (Value.int .i64)).toArray) (.agg (l.map (Value.int .i64)).toArray) >>= fun r => pure (Value.bool (!r))) := rfl
  rw [pureRun_bind h0, h1, pureRun_bind (equalIn_same 9998 m l hl ht he hs)]
  rfl
end Go.Hx
namespace Go.Proofs
open Go.Hx
theorem fz_netQ {S : Nat → Prop} {H : AHeap} {nx : Nat} {e : Nat → Prop} {ns : List NodeP} {cs : List AVal} (h : NodesQ e ns cs) (g : Int) : Fz S H nx (.agg [lin g, .vec ns.length cs]) (netV g ns) := by
  refine .agg rfl fun i hi _ => ?_
  match i, hi with
  | 0, _ => exact .lit _
  | 1, _ => exact .vec (by rw [h.len, nodesC_len]) fun i h1 h2 => h.fzA i h1 h2
theorem SmallN.fit {m : Nat} {ns : List NodeP} (h : SmallN m ns) (hm : m < 2 ^ 37) : NetFit ns := ⟨by have := h.len; omega, fun x hx => by have := h.node x hx; exact ⟨by omega, by omega, fun r hr => by have := (h.node x hx).2.2 r hr; omega⟩⟩
theorem likeV_form (g : Int) (ns : List NodeP) (cs : List Int) (xs : List (List Int)) : ∃ a b, a.length = 18 ∧ likeV g ns cs xs = .tup [.agg (ints a), lin b] := by
  unfold likeV
  split
  · exact ⟨zeroP, _, rfl, rfl⟩
  · split
    · split
      · exact ⟨_, 0, (foldW_ok g (allW ns xs) (e := zeroP) (b := 0) (by omega) rfl .zero).1, rfl⟩
      · exact ⟨zeroP, 7, rfl, rfl⟩
    · exact ⟨zeroP, 260, rfl, rfl⟩
theorem rowsN_fit {cs : List Int} {xs : List (List Int)} (hc : cs.length ≤ 64) (hx : xs.length ≤ 41) (hr : ∀ r ∈ xs, r.length ≤ 64) : DataFit cs xs := ⟨by omega, by omega, fun r h => by have := hr r h; omega⟩
theorem bendD_fit {w a n : Int} {cs : List Int} {xs : List (List Int)} (hc : 1 ≤ cs.length ∧ cs.length ≤ 64) (hx : xs.length ≤ 41) (hr : RowsN cs.length xs) : DataFit (bendD w a n cs xs).1 (bendD w a n cs xs).2 := by
  have r64 : ∀ r ∈ xs, r.length ≤ 64 := fun r h => by rw [hr r h]; exact hc.2
  have g64 : ∀ k, (xs.getD k []).length ≤ 64 := fun k => by
    rw [List.getD_eq_getElem?_getD]
    cases h : xs[k]? with
    | none => simp
    | some r => exact r64 r (List.mem_of_getElem? h)
  unfold bendD
  split
  · exact rowsN_fit (by simp; omega) hx r64
  · split
    · refine rowsN_fit hc.2 (by simp; omega) fun r h => ?_
      rcases List.mem_or_eq_of_mem_set h with h | rfl
      · exact r64 r h
      · rw [List.length_set]; exact g64 _
    · split
      · refine rowsN_fit hc.2 (by simp; omega) fun r h => ?_
        rcases List.mem_or_eq_of_mem_set h with h | rfl
        · exact r64 r h
        · rw [List.length_drop]; have := g64 (a % (xs.length : Int)).toNat; omega
      · split
        · refine rowsN_fit hc.2 (by simp; omega) fun r h => ?_
          rcases List.mem_append.1 h with h | h
          · exact r64 r h
          · rw [List.eq_of_mem_replicate h, List.length_replicate]; exact hc.2
        · split
          · exact rowsN_fit (by simp) (by simp) fun r h => by simp at h
          · exact rowsN_fit (by simp) hx r64
noncomputable def Tryd.epW : EP := { P := Tryd.prog, G := G0, gd := fun _ => none, known := knownOf [] }
theorem Tryd.epW_ok : EOk Tryd.epW := .of_known (l := []) rfl G0_ok Tryd.mixed (fun _ _ h => by cases h) trivial
theorem Tryd.works_chk : chk Tryd.epW 1000000 14 [] (.lit (.bool true)) = true := by kernel_rfl
theorem works_ok (H : AHeap) (K : ARes → AHeap → Prop) (hK : K (.ret (.lit (.bool true))) H) : ACall Tryd.prog G0 14 [] H K :=
  (ACall.frame (args' := []) G0_ok rfl (fun i h _ => absurd h (Nat.not_lt_zero _)) (chk_ok Tryd.epW_ok Tryd.works_chk)).mono fun r H' ⟨h1, h2⟩ => by rw [h1, h2]; exact hK
def u16L (l : List Int) : List AVal := l.map fun n => .lit (.int .u16 n)
theorem u16L_len (l : List Int) : (u16L l).length = l.length := by simp [u16L]
theorem u16L_get {l : List Int} {k : Nat} {a : Int} (h : l[k]? = some a) : (u16L l)[k]? = some (.lit (.int .u16 a)) := by unfold u16L; rw [List.getElem?_map, h]; rfl
def worldsL (cs ws : List Int) : List (List Int) := ws.map fun w => valsL cs (w % prodL cs)
theorem fz_nodesC' {S : Nat → Prop} {H : AHeap} {nx : Nat} (l : List NodeP) : ∀ c ∈ nodesC l, Fz S H nx c c := by
  intro c hc
  unfold nodesC at hc
  obtain ⟨r, hr, hc⟩ := List.mem_flatten.1 hc
  obtain ⟨x, _, rfl⟩ := List.mem_map.1 hr
  unfold NodeP.cells at hc
  simp only [List.mem_cons, List.not_mem_nil, or_false] at hc
  rcases hc with rfl | rfl | rfl
  · exact .lit _
  · exact .keepInts _
  · exact fz_vecV _
set_option maxHeartbeats 8000000 in
theorem likelihoods_spec (g0 : Int) (ps : List DrP) (ord : List Int) (hg0 : U8 g0) (hps : ∀ x ∈ ps, x.Ok) (hpl : (ps.length : Int) < 2 ^ 63) (hol : (ord.length : Int) < 2 ^ 63) (ho8 : ∀ x ∈ ord, U8 x)
    (cw ca cr cn : Int) (hcw : U8 cw) (hca : U8 ca) (hcr : U8 cr) (ws : List Int) (hwl : (ws.length : Int) < 2 ^ 63) (hw16 : ∀ x ∈ ws, 0 ≤ x ∧ x < 65536)
    (bw ba bn : Int) (hbw : U8 bw) (hba : U8 ba) (d : D25) (hd : d.Ok) (H : AHeap) (K : ARes → AHeap → Prop) (hK : ∀ H', H.next ≤ H'.next → K (.ret (.lit (.bool true))) H') :
    ACall Tryd.prog G0 5 [draft05V g0 ps ord, .agg (bendC cw ca cr cn), .vec ws.length (u16L ws), .agg (bend25C bw ba bn), .agg d.cells] H K := by
  refine ACall.of_bodyW (n := 92) (rs := [.tmp 10]) Tryd.func5 rfl rfl rfl (by decide) (by simp) ?_
  refine W.seq (vc_sound _ _ _ (by rfl) ?_)
  simp (config := { maxSteps := 1000000 }) only [go_sem, draft05V, bendC, bend25C, D25.cells, appendA_U]
  obtain ⟨H1, hH1⟩ : ∃ H1, H1 = ext H [.arr 0 72 [.lit (.int .u8 g0), .vec ps.length (drC ps), .vec ord.length (bytesL ord)], .arr 0 74 [.lit (.int .u8 cw), .lit (.int .u8 ca), .lit (.int .u8 cr), .lit (.int .i64 cn)], bend25B bw ba bn, data25B d] := ⟨_, rfl⟩
  have b0 : H1.get H.next = some (.arr 0 72 [.lit (.int .u8 g0), .vec ps.length (drC ps), .vec ord.length (bytesL ord)]) := by rw [hH1]; exact get_ext0 ..
  have b1 : H1.get (H.next + 1) = some (.arr 0 74 [.lit (.int .u8 cw), .lit (.int .u8 ca), .lit (.int .u8 cr), .lit (.int .i64 cn)]) := by rw [hH1]; exact get_ext H _ 1 (by simp)
  have b2 : H1.get (H.next + 2) = some (bend25B bw ba bn) := by rw [hH1]; exact get_ext H _ 2 (by simp)
  have b3 : H1.get (H.next + 3) = some (data25B d) := by rw [hH1]; exact get_ext H _ 3 (by simp)
  have n1 : H1.next = H.next + 4 := by rw [hH1]; rfl
  have o1 : Over H H1 := by rw [hH1]; exact .ext _ _
  refine W.env fun E hE => ?_
  have e2 : E 2 = .vec ws.length (u16L ws) := by rw [hE]; simp (config := { maxSteps := 1000000 }) only [go_sem, appendA_U]
  have e5 : E 5 = .ptr H.next 0 0 := by rw [hE]; simp (config := { maxSteps := 1000000 }) only [go_sem, appendA_U]
  have e6 : E 6 = .ptr (H.next + 1) 0 0 := by rw [hE]; simp (config := { maxSteps := 1000000 }) only [go_sem, appendA_U]
  have e8 : E 8 = .ptr (H.next + 2) 0 0 := by rw [hE]; simp (config := { maxSteps := 1000000 }) only [go_sem, appendA_U]
  have e9 : E 9 = .ptr (H.next + 3) 0 0 := by rw [hE]; simp (config := { maxSteps := 1000000 }) only [go_sem, appendA_U]
  clear hE
  show W _ _ _ _ _ _ ⟨E, ext H [.arr 0 72 [.lit (.int .u8 g0), .vec ps.length (drC ps), .vec ord.length (bytesL ord)], .arr 0 74 [.lit (.int .u8 cw), .lit (.int .u8 ca), .lit (.int .u8 cr), .lit (.int .i64 cn)], bend25B bw ba bn, data25B d]⟩
  rw [← hH1]
  clear hH1
  have l0 := get_live b0
  refine W.seq (vc_sound _ _ _ (by rfl) ?_)
  simp (config := { maxSteps := 1000000 }) only [go_sem, e5, l0, appendA_U]
  refine AApply.clo (net05_spec g0 ps ord hg0 hps hpl hol ho8 _ _ fun g ns N H2 o2 hN1 hN2 hN hok hn5 hp3 => ⟨trivial, ?_⟩)
  simp (config := { maxSteps := 1000000 }) only [go_sem, appendA_U]
  have o2n := o2.next
  have hob : (ext H2 [.arr 0 61 [.lit (.int .i64 g), .own N 0 0 ns.length 3]]).get H2.next = some (.arr 0 61 [.lit (.int .i64 g), .own N 0 0 ns.length 3]) := ext1_get_new
  refine W.weak (WeakS.melt G0_ok (rk := N) (ob := H2.next) (cells' := [.lit (.int .i64 g), .vec ns.length (nodesC ns)]) hob (by omega) rfl (fun i hi _ => ?_)) (Nat.le_refl _) trivial ?_
  · match i, hi with
    | 0, _ => exact .lit _
    | 1, _ => exact .frz (cells := nodesC ns) rfl (by show (ext H2 _).get N = _; rw [get_ext_old _ _ _ hN2]; exact hN) (nodesC_len ns) fun j h1 h2 h3 => by simp only [Nat.zero_add]; exact fz_nodesC' ns _ (List.getElem_mem _)
  obtain ⟨H3, hH3⟩ : ∃ H3, H3 = (ext H2 [.arr 0 61 [.lit (.int .i64 g), .own N 0 0 ns.length 3]]).melt N H2.next (.arr 0 61 [.lit (.int .i64 g), .vec ns.length (nodesC ns)]) := ⟨_, rfl⟩
  have n3 : H3.next = H2.next + 1 := by rw [hH3]; rfl
  have g3 : ∀ id, id < H.next + 4 → H3.get id = H1.get id := fun id h => by
    rw [hH3, melt_other (by omega) (by omega), get_ext_old _ _ _ (by omega)]
    exact o2.old id (by omega)
  have gn : H3.get H2.next = some (.arr 0 61 [.lit (.int .i64 g), .vec ns.length (nodesC ns)]) := by rw [hH3]; exact melt_ob (by omega)
  refine W.env fun E1 hE1 => ?_
  have f2 : E1 2 = .vec ws.length (u16L ws) := by rw [hE1]; simp (config := { maxSteps := 1000000 }) only [go_sem, e2, appendA_U]
  have f6 : E1 6 = .ptr (H.next + 1) 0 0 := by rw [hE1]; simp (config := { maxSteps := 1000000 }) only [go_sem, e6, appendA_U]
  have f8 : E1 8 = .ptr (H.next + 2) 0 0 := by rw [hE1]; simp (config := { maxSteps := 1000000 }) only [go_sem, e8, appendA_U]
  have f9 : E1 9 = .ptr (H.next + 3) 0 0 := by rw [hE1]; simp (config := { maxSteps := 1000000 }) only [go_sem, e9, appendA_U]
  have f11 : E1 11 = .ptr H2.next 0 0 := by rw [hE1]; simp (config := { maxSteps := 1000000 }) only [go_sem, appendA_U]
  clear hE1 e2 e5 e6 e8 e9
  rw [← hH3]
  clear hH3 hob
  have ln := get_live gn
  have nn8 := hok.n1.2
  refine W.seq (vc_sound _ _ _ (by rfl) ?_)
  simp (config := { maxSteps := 1000000 }) only [go_sem, f11, ln, appendA_U]
  refine AApply.clo (cards05_spec g ns (by omega) _ _ ⟨trivial, ?_⟩)
  simp (config := { maxSteps := 1000000 }) only [go_sem, appendA_U]
  obtain ⟨cs, hcs⟩ : ∃ cs, cs = cardsL ns := ⟨_, rfl⟩
  rw [← hcs]
  have csl : cs.length = ns.length := by rw [hcs, cards_len]
  obtain ⟨H4, hH4⟩ : ∃ H4, H4 = ext H3 [dBlk (vecI cs) (.lit (.slice none 0 0))] := ⟨_, rfl⟩
  have n4 : H4.next = H3.next + 1 := by rw [hH4]; rfl
  have o4 : Over H3 H4 := by rw [hH4]; exact .ext _ _
  have b12 : H4.get H3.next = some (dBlk (vecI cs) (.lit (.slice none 0 0))) := by rw [hH4]; exact ext1_get_new
  refine W.env fun E2 hE2 => ?_
  have h2 : E2 2 = .vec ws.length (u16L ws) := by rw [hE2]; simp (config := { maxSteps := 1000000 }) only [go_sem, f2, appendA_U]
  have h6 : E2 6 = .ptr (H.next + 1) 0 0 := by rw [hE2]; simp (config := { maxSteps := 1000000 }) only [go_sem, f6, appendA_U]
  have h8 : E2 8 = .ptr (H.next + 2) 0 0 := by rw [hE2]; simp (config := { maxSteps := 1000000 }) only [go_sem, f8, appendA_U]
  have h9 : E2 9 = .ptr (H.next + 3) 0 0 := by rw [hE2]; simp (config := { maxSteps := 1000000 }) only [go_sem, f9, appendA_U]
  have h11 : E2 11 = .ptr H2.next 0 0 := by rw [hE2]; simp (config := { maxSteps := 1000000 }) only [go_sem, f11, appendA_U]
  have h12 : E2 12 = .ptr H3.next 0 0 := by rw [hE2]; simp (config := { maxSteps := 1000000 }) only [go_sem, appendA_U]
  clear hE2 f2 f6 f8 f9 f11
  show W _ _ _ _ _ _ ⟨E2, ext H3 [dBlk (vecI cs) (.lit (.slice none 0 0))]⟩
  rw [← hH4]
  clear hH4
  obtain ⟨n, hn⟩ : ∃ n : Nat, n = min ws.length 40 := ⟨_, rfl⟩
  have hmn : (if 40 < (ws.length : Int) then 40 else (ws.length : Int)) = n := by split <;> omega
  have cpos : ∀ c ∈ cs, 1 ≤ c := fun c h => by
    rw [hcs] at h
    obtain ⟨y, hy, rfl⟩ := List.mem_map.1 h
    exact (hok.node y hy).1.1
  have cprod : 1 ≤ prodL cs ∧ prodL cs ≤ 1024 := ⟨prodL_pos cpos, by rw [hcs]; exact hok.size⟩
  refine W.midN (fun s' => s'.ρ 6 = .ptr (H.next + 1) 0 0 ∧ s'.ρ 8 = .ptr (H.next + 2) 0 0 ∧ s'.ρ 9 = .ptr (H.next + 3) 0 0 ∧ s'.ρ 11 = .ptr H2.next 0 0 ∧ s'.ρ 12 = .ptr H3.next 0 0 ∧ H4.next ≤ s'.H.next ∧ (∀ id, id < H3.next → s'.H.get id = H3.get id) ∧ s'.H.get H3.next = some (dBlk (vecI cs) (vecV (worldsL cs (ws.take n)))))
    (W.postWeak (Q' := fun e s' => e = .normal ∧ s'.ρ 6 = .ptr (H.next + 1) 0 0 ∧ s'.ρ 8 = .ptr (H.next + 2) 0 0 ∧ s'.ρ 9 = .ptr (H.next + 3) 0 0 ∧ s'.ρ 11 = .ptr H2.next 0 0 ∧ s'.ρ 12 = .ptr H3.next 0 0 ∧ H4.next ≤ s'.H.next ∧ (∀ id, id < H3.next → s'.H.get id = H3.get id) ∧ ∃ xv, s'.H.get H3.next = some (dBlk (vecI cs) xv) ∧ OwnG H4.next s'.H 22 xv ((worldsL cs (ws.take n)).map vecI)) ?_ ?_) ?_
  · refine W.seq (vc_sound _ _ _ (by rfl) ?_)
    simp (config := { maxSteps := 1000000 }) only [go_sem, h2, builtin_min, hmn, appendA_U]
    refine ⟨u16L_len ws, by omega, ?_⟩
    refine W.env fun E hE => ?_
    have e6 : E 6 = .ptr (H.next + 1) 0 0 := by rw [hE]; simp (config := { maxSteps := 1000000 }) only [go_sem, h6, appendA_U]
    have e8 : E 8 = .ptr (H.next + 2) 0 0 := by rw [hE]; simp (config := { maxSteps := 1000000 }) only [go_sem, h8, appendA_U]
    have e9 : E 9 = .ptr (H.next + 3) 0 0 := by rw [hE]; simp (config := { maxSteps := 1000000 }) only [go_sem, h9, appendA_U]
    have e11 : E 11 = .ptr H2.next 0 0 := by rw [hE]; simp (config := { maxSteps := 1000000 }) only [go_sem, h11, appendA_U]
    have e12 : E 12 = .ptr H3.next 0 0 := by rw [hE]; simp (config := { maxSteps := 1000000 }) only [go_sem, h12, appendA_U]
    have e32 : E 32 = .vec n (List.take n (u16L ws)) := by rw [hE]; simp (config := { maxSteps := 1000000 }) only [go_sem, hmn, appendA_U]
    have e33 : E 33 = lin n := by rw [hE]; simp (config := { maxSteps := 1000000 }) only [go_sem, hmn, appendA_U]
    have e34 : E 34 = lin 0 := by rw [hE]; simp (config := { maxSteps := 1000000 }) only [go_sem, appendA_U]
    clear hE
    refine W.block ?_
    refine W.loop0 2251782633832448 (by rfl) (fun ρ Hx => ∃ (i : Nat) (xv : AVal), ρ 34 = lin i ∧ i ≤ n ∧ H4.next ≤ Hx.next ∧ (∀ id, id < H3.next → Hx.get id = H3.get id) ∧ Hx.get H3.next = some (dBlk (vecI cs) xv) ∧ OwnG H4.next Hx 22 xv ((worldsL cs (ws.take i)).map vecI)) (fun ρ H => n - (iv (ρ 34)).toNat) ?_ ?_
    · exact ⟨0, _, e34, by omega, Nat.le_refl _, fun id h => o4.old id h, b12, .nil⟩
    rintro ρ Hx ⟨i, xv, h34, hi, hnx, hold, hbx, hO⟩
    refine W.env fun E hE => ?_
    have k6 : E 6 = .ptr (H.next + 1) 0 0 := by rw [hE]; simp (config := { maxSteps := 1000000 }) only [go_sem, e6, appendA_U]
    have k8 : E 8 = .ptr (H.next + 2) 0 0 := by rw [hE]; simp (config := { maxSteps := 1000000 }) only [go_sem, e8, appendA_U]
    have k9 : E 9 = .ptr (H.next + 3) 0 0 := by rw [hE]; simp (config := { maxSteps := 1000000 }) only [go_sem, e9, appendA_U]
    have k11 : E 11 = .ptr H2.next 0 0 := by rw [hE]; simp (config := { maxSteps := 1000000 }) only [go_sem, e11, appendA_U]
    have k12 : E 12 = .ptr H3.next 0 0 := by rw [hE]; simp (config := { maxSteps := 1000000 }) only [go_sem, e12, appendA_U]
    have k32 : E 32 = .vec n (List.take n (u16L ws)) := by rw [hE]; simp (config := { maxSteps := 1000000 }) only [go_sem, e32, appendA_U]
    have k33 : E 33 = lin n := by rw [hE]; simp (config := { maxSteps := 1000000 }) only [go_sem, e33, appendA_U]
    have k34 : E 34 = lin i := by rw [hE]; simp (config := { maxSteps := 1000000 }) only [go_sem, h34, appendA_U]
    clear hE
    refine vc_sound _ _ _ (by rfl) ?_
    by_cases hb : (i : Int) < n
    rotate_left
    · simp (config := { maxSteps := 1000000 }) only [go_sem, k33, k34, hb, k6, k8, k9, k11, k12, appendA_U]
      obtain rfl : i = n := by omega
      exact ⟨hnx, hold, xv, hbx, hO⟩
    obtain ⟨w, hw⟩ := get_of_lt (l := ws) (i := i) (by omega)
    have w16 := hw16 w (List.mem_of_getElem? hw)
    have hw' : (List.take n (u16L ws))[i]? = some (.lit (.int .u16 w)) := by rw [List.getElem?_take_of_lt (by omega), u16L_get hw]
    have hwn := ne_of_get hw'
    have lx := get_live hbx
    have lnx := get_live ((hold _ (by omega)).trans gn)
    have uw := IntWalk.i64_in w (by omega)
    have wm : w.tmod (prodL cs) = w % prodL cs := Int.tmod_eq_emod_of_nonneg w16.1
    have pz : ¬ prodL cs = 0 := by omega
    have mr := Int.emod_lt_of_pos w (show 0 < prodL cs by omega)
    have mn := Int.emod_nonneg w pz
    have um := IntWalk.i64_in (w % prodL cs) (by omega)
    have w1 := IntWalk.i64_in ((i : Int) + 1) (by omega)
    have wlen : (worldsL cs (ws.take i)).length ≤ i := by unfold worldsL; rw [List.length_map, List.length_take]; omega
    obtain ⟨xv2, H5, hA, hO5, hn5', hp⟩ := app_rowG (vecI (valsL cs (w % prodL cs))) rfl hO hnx (by rw [List.length_map]; omega)
    simp only [vecI] at hA
    have hone := hO5.one
    have hcells := hO5.cells
    have l5 : H5.live H3.next 0 = _ := get_live ((hp _ (by omega) (hO.ne (by omega))).trans hbx)
    simp (config := { maxSteps := 1000000 }) only [go_sem, k32, k33, k34, hb, hw', hwn, appendA_U]
    refine W.draw 10 [0, 1, 0, 0, 8, 0, 32, 120, 252, 508] Tryd.mixed (by kernel_rfl) (by kernel_rfl) ?_
    simp (config := { maxSteps := 1000000 }) only [go_sem, k11, k12, lx, lnx, uw]
    refine ⟨lin (prodL cs), [], PCall.pure (fun Hz => worlds05_spec g ns nn8 (fun y hy => (hok.node y hy).1) Hz _ ⟨by rw [hcs], rfl⟩), ?_⟩
    simp (config := { maxSteps := 1000000 }) only [go_sem, k11, k12, lx, lnx, uw, wm, pz]
    refine ⟨vecI (valsL cs (w % prodL cs)), [], PCall.pure (fun Hz => values05_spec g ns nn8 (fun y hy => (hok.node y hy).1) (w % prodL cs) ⟨by omega, by omega⟩ Hz _ ⟨by rw [hcs], rfl⟩), ?_⟩
    simp (config := { maxSteps := 1000000 }) only [go_sem, k11, k12, k34, lx, lnx, hA, hone, hcells, l5, w1]
    repeat (refine And.intro (by first | omega | (simp; done) | (simp; omega) | (intros; omega) | exact ⟨rfl, by omega, by omega, all_one_ints _⟩) ?_)
    refine ⟨by rw [upd_next]; omega, ⟨i + 1, xv2, rfl, by omega, by rw [upd_next]; omega, fun id h => by rw [upd_get, if_neg (by omega), hp id (by omega) (hO.ne (by omega))]; exact hold id h, by rw [upd_get, if_pos rfl], ?_⟩, by rw [h34]; simp only [lin, iv_int]; omega⟩
    rw [show worldsL cs (ws.take (i + 1)) = worldsL cs (ws.take i) ++ [valsL cs (w % prodL cs)] by unfold worldsL; rw [take_succ_get hw, List.map_append]; rfl, List.map_append]
    exact hO5.keep (Nat.le_refl _) (by rw [upd_next]; omega) fun id g h1 _ _ _ => by rw [upd_get, if_neg (by omega)]
  · rintro e ⟨ρ2, Hb⟩ ⟨rfl, q6, q8, q9, q11, q12, qn, qold, xv, qb, qO⟩
    simp only at q6 q8 q9 q11 q12 qn qold qb qO
    refine ⟨⟨ρ2, Hb.meltN H4.next H3.next (dBlk (vecI cs) (vecV (worldsL cs (ws.take n))))⟩, WeakS.meltN G0_ok qb (by omega) rfl (fun i hi _ => ?_), Nat.le_refl _, trivial, rfl, q6, q8, q9, q11, q12, qn, fun id h => by rw [meltN_other (by omega) (by omega)]; exact qold id h, meltN_ob (by omega)⟩
    match i, hi with
    | 0, _ => exact .keepInts _
    | 1, _ => exact OwnG.fzRows qO fun i h => h
  rintro ⟨ρ1, H5⟩ ⟨p6, p8, p9, p11, p12, hn5', hold, hbx⟩
  simp only at p6 p8 p9 p11 p12 hn5' hold hbx
  obtain ⟨xs, hxs⟩ : ∃ xs, xs = worldsL cs (ws.take n) := ⟨_, rfl⟩
  rw [← hxs] at hbx
  have xlen : xs.length ≤ 40 := by rw [hxs]; unfold worldsL; rw [List.length_map, List.length_take]; omega
  have xrow : RowsN cs.length xs := fun r hr => by
    rw [hxs] at hr
    obtain ⟨w, _, rfl⟩ := List.mem_map.1 hr
    exact valsL_len ..
  have g5 : ∀ id, id < H.next + 4 → H5.get id = H1.get id := fun id h => (hold id (by omega)).trans (g3 id h)
  have k0 := get_live ((g5 _ (by omega)).trans b1)
  have k2 := get_live ((g5 _ (by omega)).trans b2)
  have k3 := get_live ((g5 _ (by omega)).trans b3)
  have kn := get_live ((hold _ (by omega)).trans gn)
  have kx := get_live hbx
  have sm : SmallN 600 ns := by
    refine ⟨by omega, fun x hx => ?_⟩
    have hx3 := hp3 x hx
    have hrow := hok.rows x hx
    have hin : InRange x.parents ns.length := fun q hq => by have := (hok.node x hx).2.2 q hq; omega
    have hpc := parC_mem hin fun y hy => (hok.node y hy).1
    have hpl3 : (parC ns x).length ≤ 3 := by rw [show (parC ns x).length = _ from atL_len _ _]; exact hx3
    have hp := prodL_le_pow (b := 4) (by omega) (l := parC ns x) fun c hc => by have := hpc c hc; omega
    have h4 : (4 : Nat) ^ (parC ns x).length ≤ 4 ^ 3 := Nat.pow_le_pow_right (by decide) hpl3
    have h5 : ((4 : Int) ^ (parC ns x).length) ≤ 4 ^ 3 := by exact_mod_cast h4
    have h6 : (4 : Int) ^ 3 = 64 := by decide
    have hcard := (hok.node x hx).1
    exact ⟨by omega, by have := hrow.1; omega, fun r hr => by have := (hrow.2 r hr).1; exact ⟨fun e => by rw [e] at this; simp at this; omega, by omega⟩⟩
  obtain ⟨B, hB⟩ : ∃ B, B = bendN (cw % 12) (ca % (ns.length : Int)).toNat cr cn g ns := ⟨_, rfl⟩
  obtain ⟨bS, bQ, bL⟩ := bendN_ok (A := (ca % (ns.length : Int)).toNat) (c := cw % 12) (r := cr) (n := cn) (g := g) sm
  rw [← hB] at bS bQ bL
  refine W.seq (W.seq ?_)
  refine W.draw 6 [0, 0, 0, 6, 15, 0] Tryd.mixed (by kernel_rfl) (by kernel_rfl) ?_
  simp (config := { maxSteps := 1000000 }) only [go_sem, p6, p11, k0, kn, appendA_U]
  refine ⟨.agg [lin B.1, .vec B.2.1.length B.2.2], [], PCall.pure (fun Hz => bend05_spec cw ca cr cn (by unfold U8 at hcw; omega) (by unfold U8 at hca; omega) (by unfold U8 at hcr; omega) g ns 600 (by omega) sm Hz _ fun g2 ns2 cs2 he _ _ _ => ⟨by rw [hB, ← he], rfl⟩), ?_⟩
  simp (config := { maxSteps := 1000000 }) only [go_sem, p6, p11, k0, kn, appendA_U]
  refine W.block ?_
  obtain ⟨L4, hL4⟩ : ∃ L4, L4 = [AVal.lit (.int .i64 g), .vec ns.length (nodesC ns), .lit (.int .i64 B.1), .vec B.2.1.length B.2.2] := ⟨_, rfl⟩
  refine W.env fun E3 hE3 => ?_
  have m8 : E3 8 = .ptr (H.next + 2) 0 0 := by rw [hE3]; simp (config := { maxSteps := 1000000 }) only [go_sem, p8, appendA_U]
  have m9 : E3 9 = .ptr (H.next + 3) 0 0 := by rw [hE3]; simp (config := { maxSteps := 1000000 }) only [go_sem, p9, appendA_U]
  have m12 : E3 12 = .ptr H3.next 0 0 := by rw [hE3]; simp (config := { maxSteps := 1000000 }) only [go_sem, p12, appendA_U]
  have m55 : E3 55 = .agg L4 := by rw [hE3, hL4]; simp (config := { maxSteps := 1000000 }) only [go_sem, appendA_U]
  have m56 : E3 56 = lin 0 := by rw [hE3]; simp (config := { maxSteps := 1000000 }) only [go_sem, appendA_U]
  clear hE3 p6 p8 p9 p11 p12
  have dok := missD_ok d
  have cdl := cardsD_len d
  have nn1 := hok.n1.1
  have hcs1 : 1 ≤ cs.length ∧ cs.length ≤ 64 := by omega
  refine W.loop0 2475880078498702955768513536 (by rfl) (fun ρ Hx => Over H5 Hx ∧ ∃ k : Nat, ρ 56 = lin k ∧ k ≤ 2) (fun ρ H => 2 - (iv (ρ 56)).toNat) ?_ ?_
  · exact ⟨.refl _, 0, m56, by omega⟩
  rintro ρ2 Hx ⟨ov, k, h56, hk⟩
  have ovn := ov.next
  refine W.env fun E hE => ?_
  have q8 : E 8 = .ptr (H.next + 2) 0 0 := by rw [hE]; simp (config := { maxSteps := 1000000 }) only [go_sem, m8, appendA_U]
  have q9 : E 9 = .ptr (H.next + 3) 0 0 := by rw [hE]; simp (config := { maxSteps := 1000000 }) only [go_sem, m9, appendA_U]
  have q12 : E 12 = .ptr H3.next 0 0 := by rw [hE]; simp (config := { maxSteps := 1000000 }) only [go_sem, m12, appendA_U]
  have q55 : E 55 = .agg L4 := by rw [hE]; simp (config := { maxSteps := 1000000 }) only [go_sem, m55, appendA_U]
  have q56 : E 56 = lin k := by rw [hE]; simp (config := { maxSteps := 1000000 }) only [go_sem, h56, appendA_U]
  clear hE
  refine vc_sound _ _ _ (by rfl) ?_
  by_cases hb : (k : Int) < 2
  rotate_left
  · simp (config := { maxSteps := 1000000 }) only [go_sem, q56, hb, appendA_U]
    refine vc_sound _ _ _ (by rfl) ?_
    simp (config := { maxSteps := 1000000 }) only [go_sem, appendA_U]
    refine AApply.clo (works_ok _ _ ⟨trivial, ?_⟩)
    simp (config := { maxSteps := 1000000 }) only [go_sem, appendA_U]
    exact FinV.mk (by have := o1.next; omega) (hK _ (by have := o1.next; omega))
  obtain ⟨gk, nk, ck, hpart, fitN, eN, hQ⟩ : ∃ (gk : Int) (nk : List NodeP) (ck : List AVal), (L4.drop (k * 2)).take 2 = [.lit (.int .i64 gk), .vec nk.length ck] ∧ NetFit nk ∧ ∃ e : Nat → Prop, NodesQ e nk ck := by
    have hk2 : k = 0 ∨ k = 1 := by omega
    rcases hk2 with rfl | rfl
    · exact ⟨g, ns, nodesC ns, by rw [hL4]; rfl, sm.fit (by omega), fun _ => False, ⟨nodesC_len ns, fun v x hx => ⟨_, nodesC_0 hx, nodesC_1 hx, nodesC_2 hx, .inl rfl, fun h => h.elim⟩⟩⟩
    · exact ⟨B.1, B.2.1, B.2.2, by rw [hL4]; rfl, bS.fit (by omega), _, bQ⟩
  have l4 : L4.length = 4 := by rw [hL4]; rfl
  have kb : k * 2 + 2 ≤ 4 := by omega
  simp (config := { maxSteps := 1000000 }) only [go_sem, q55, q56, hb, hpart, l4, kb, appendA_U]
  obtain ⟨H6, hH6⟩ : ∃ H6, H6 = ext Hx [.arr 0 61 [.lit (.int .i64 gk), .vec nk.length ck]] := ⟨_, rfl⟩
  have n6 : H6.next = Hx.next + 1 := by rw [hH6]; rfl
  have o6 : Over Hx H6 := by rw [hH6]; exact .ext _ _
  have gm : H6.get Hx.next = some (.arr 0 61 [.lit (.int .i64 gk), .vec nk.length ck]) := by rw [hH6]; exact ext1_get_new
  have o56 := ov.trans o6
  have r2 := (o56.live (g := 0) (by omega : H.next + 2 < H5.next)).trans k2
  have r3 := (o56.live (g := 0) (by omega : H.next + 3 < H5.next)).trans k3
  have rx := (o56.live (g := 0) (by omega : H3.next < H5.next)).trans kx
  rw [← hH6]
  clear hH6
  obtain ⟨D, hD⟩ : ∃ D, D = bendD bw ba bn cs xs := ⟨_, rfl⟩
  have dfit := bendD_fit (w := bw) (a := ba) (n := bn) hcs1 (by omega) xrow
  rw [← hD] at dfit
  refine W.draw 8 [0, 0, 0, 6, 0, 30, 63, 0] Tryd.mixed (by kernel_rfl) (by kernel_rfl) ?_
  simp (config := { maxSteps := 1000000 }) only [go_sem, q8, q9, q12, r2, rx, appendA_U]
  refine ⟨dataV D.1 D.2, [], PCall.pure (fun Hz => bend25_spec bw ba bn hbw hba cs xs hcs1 (by omega) xrow Hz _ ⟨by rw [hD], rfl⟩), ?_⟩
  simp (config := { maxSteps := 1000000 }) only [go_sem, q8, q9, q12, r2, r3, rx, dataV, appendA_U]
  refine ⟨dataV (cardsD d) (missD d), [], PCall.pure (fun Hz => data25_spec d hd Hz _ ⟨rfl, rfl⟩), ?_⟩
  simp (config := { maxSteps := 1000000 }) only [go_sem, dataV, vecV, appendA_U]
  obtain ⟨L6, hL6⟩ : ∃ L6, L6 = [AVal.vec cs.length (ints cs), .vec xs.length (xs.map vecI), .vec D.1.length (ints D.1), .vec D.2.length (D.2.map vecI), .vec (cardsD d).length (ints (cardsD d)), .vec (missD d).length ((missD d).map vecI)] := ⟨_, rfl⟩
  refine W.env fun E2 hE2 => ?_
  have s8 : E2 8 = .ptr (H.next + 2) 0 0 := by rw [hE2]; simp (config := { maxSteps := 1000000 }) only [go_sem, q8, appendA_U]
  have s9 : E2 9 = .ptr (H.next + 3) 0 0 := by rw [hE2]; simp (config := { maxSteps := 1000000 }) only [go_sem, q9, appendA_U]
  have s12 : E2 12 = .ptr H3.next 0 0 := by rw [hE2]; simp (config := { maxSteps := 1000000 }) only [go_sem, q12, appendA_U]
  have s16 : E2 16 = .ptr Hx.next 0 0 := by rw [hE2]; simp (config := { maxSteps := 1000000 }) only [go_sem, appendA_U]
  have s55 : E2 55 = .agg L4 := by rw [hE2]; simp (config := { maxSteps := 1000000 }) only [go_sem, q55, appendA_U]
  have s56 : E2 56 = lin k := by rw [hE2]; simp (config := { maxSteps := 1000000 }) only [go_sem, q56, appendA_U]
  have s65 : E2 65 = .agg L6 := by rw [hE2, hL6]; simp (config := { maxSteps := 1000000 }) only [go_sem, vecV, appendA_U]
  have s66 : E2 66 = lin 0 := by rw [hE2]; simp (config := { maxSteps := 1000000 }) only [go_sem, appendA_U]
  clear hE2
  have w1 := IntWalk.i64_in ((k : Int) + 1) (by omega)
  refine W.loop0 1237939965498403980069045248 (by rfl) (fun ρ Hy => Over H6 Hy ∧ ∃ j : Nat, ρ 66 = lin j ∧ j ≤ 3) (fun ρ H => 3 - (iv (ρ 66)).toNat) ?_ ?_
  · exact ⟨.refl _, 0, s66, by omega⟩
  rintro ρ4 Hy ⟨ovy, j, h66, hj⟩
  have ovyn := ovy.next
  refine W.env fun E hE => ?_
  have t16 : E 16 = .ptr Hx.next 0 0 := by rw [hE]; simp (config := { maxSteps := 1000000 }) only [go_sem, s16, appendA_U]
  have t56 : E 56 = lin k := by rw [hE]; simp (config := { maxSteps := 1000000 }) only [go_sem, s56, appendA_U]
  have t65 : E 65 = .agg L6 := by rw [hE]; simp (config := { maxSteps := 1000000 }) only [go_sem, s65, appendA_U]
  have t66 : E 66 = lin j := by rw [hE]; simp (config := { maxSteps := 1000000 }) only [go_sem, h66, appendA_U]
  clear hE
  refine vc_sound _ _ _ (by rfl) ?_
  by_cases hb2 : (j : Int) < 3
  rotate_left
  · simp (config := { maxSteps := 1000000 }) only [go_sem, t66, hb2, t56, w1, appendA_U]
    exact ⟨by omega, ⟨o56.trans ovy, k + 1, rfl, by omega⟩, by rw [h56]; simp only [lin, iv_int]; omega⟩
  obtain ⟨yc, yx, hpart2, fitD⟩ : ∃ (yc : List Int) (yx : List (List Int)), (L6.drop (j * 2)).take 2 = [.vec yc.length (ints yc), .vec yx.length (yx.map vecI)] ∧ DataFit yc yx := by
    have hj3 : j = 0 ∨ j = 1 ∨ j = 2 := by omega
    rcases hj3 with rfl | rfl | rfl
    · exact ⟨cs, xs, by rw [hL6]; rfl, rowsN_fit hcs1.2 (by omega) fun r hr => by rw [xrow r hr]; exact hcs1.2⟩
    · exact ⟨D.1, D.2, by rw [hL6]; rfl, dfit⟩
    · exact ⟨cardsD d, missD d, by rw [hL6]; rfl, rowsN_fit (by omega) (by omega) fun r hr => by rw [dok.2 r hr]; omega⟩
  have l6 : L6.length = 6 := by rw [hL6]; rfl
  have jb : j * 2 + 2 ≤ 6 := by omega
  have gmy := get_live ((ovy.old _ (by omega : Hx.next < H6.next)).trans gm)
  have gmye : ∀ L, (ext Hy L).live Hx.next 0 = _ := fun L => (ext_live_old (by omega)).trans gmy
  obtain ⟨la, lb, la18, hlv⟩ := likeV_form gk nk yc yx
  have fzn : ∀ (Hz : AHeap) (i : Nat) (h : i < [AVal.agg [.lit (.int .i64 gk), .vec nk.length ck], .agg [.vec yc.length (ints yc), .vec yx.length (yx.map vecI)]].length) (h' : i < [netV gk nk, dataV yc yx].length), Fz (fun _ => False) Hz Hz.next [AVal.agg [.lit (.int .i64 gk), .vec nk.length ck], .agg [.vec yc.length (ints yc), .vec yx.length (yx.map vecI)]][i] [netV gk nk, dataV yc yx][i] := fun Hz i h h' => by
    match i, h with
    | 0, _ => exact fz_netQ hQ gk
    | 1, _ => exact fz_data (.keepInts _) (fz_vecV yx)
  have lt18 := take18 la18
  have li18 : (ints la).length = 18 := by rw [ints_length, la18]
  have laa := all_one_ints la
  simp (config := { maxSteps := 1000000 }) only [go_sem, t16, t65, t66, hb2, hpart2, l6, jb, gmye, appendA_U]
  refine AApply.clo (ACall.weakArgs (args' := [netV gk nk, dataV yc yx]) G0_ok rfl (fzn _) (likelihood_spec gk nk yc yx fitN fitD _ _ ⟨trivial, ?_⟩))
  rw [hlv]
  have hneq : ∀ (o1 o2 : Operand), binA Tryd.prog .neq 84 o1 o2 (.agg (ints la)) (.agg (ints la)) = some (.lit (.bool false)) := fun o1 o2 => bin_neq_same 18 la la18 Tryd.underlying84 Tryd.underlying3 Tryd.cells3 (by kernel_rfl)
  simp (config := { maxSteps := 1000000 }) only [go_sem, lt18, li18, laa, la18, t16, gmye, appendA_U]
  refine AApply.clo (ACall.weakArgs (args' := [netV gk nk, dataV yc yx]) G0_ok rfl (fzn _) (like26_spec gk nk yc yx fitN fitD _ _ ⟨trivial, ?_⟩))
  rw [hlv]
  have w2 := IntWalk.i64_in ((j : Int) + 1) (by omega)
  simp (config := { maxSteps := 1000000 }) only [go_sem, lt18, li18, laa, la18, hneq, guardA_undef, t66, w2, appendA_U]
  exact ⟨by omega, ⟨ovy.trans (.ext _ _), j + 1, rfl, by omega⟩, by rw [h66]; simp only [lin, iv_int]; omega⟩
end Go.Proofs
namespace Go.Proofs.YtikgmgmphkalkaaDoor
open Go.ChangeShapes Go.WideShapes Go.ChangeAt Go.RowKit Go.Hx

theorem Tryd.own : ownKnob Tryd.prog.godebug = none := by kernel_rfl
theorem Tryd.laidOut : laidOutB Tryd.prog = true := by kernel_rfl
theorem Tryd.boolT : Tryd.prog.underlying 4 = some .bool := by kernel_rfl
def nameF : String := match (Rows.fitKnownRow.laid) with
  | p :: _ => p.1
  | [] => Tryd.f0.name
theorem Tryd.gFact : Tryd.prog.globalNamed nameF = some 0 := by kernel_rfl
theorem Tryd.tFact : (Tryd.prog.globals[0]?).map (·.type) = some 83 := by kernel_rfl
theorem Tryd.uFact : Tryd.prog.underlying 83 = some (.array 18 3) := by kernel_rfl
theorem Tryd.cFact : Tryd.prog.cellsOf 83 = 18 * Tryd.prog.cellsOf 3 := by kernel_rfl
theorem Tryd.door_met (os : Os) (args : Array Value) : laidMetH Tryd.prog Rows.fitKnownRow.laid ((World.doorLaid Tryd.prog 400 os).forCall (fun _ _ => 0) ⟨#[], args, []⟩).memory :=
  laidMetH_of_parts3 (fuel := 8) (laidMet_of_run' 8 (by kernel_rfl) (by kernel_rfl)) (by kernel_rfl) (by kernel_rfl)
theorem Tryd.glob_ok {W : World} (h : laidMetH Tryd.prog Rows.fitKnownRow.laid W) : GlobOk Tryd.prog G0 W := by
  rw [MakeChecks.laidMetH_plain _ _ _ (by kernel_rfl)] at h
  obtain ⟨ps, hL, _⟩ := h
  have hL' : DataW.LaidVars Tryd.prog W [(nameF, .agg (primesL.map fun n => .lit (.int .i64 n)))] ps := hL
  obtain ⟨h1, _⟩ := table_glob Tryd.gFact Tryd.tFact Tryd.uFact Tryd.underlying3 Tryd.cFact hL'
  intro g cells hg
  unfold G0 at hg
  split at hg
  · rename_i h0
    subst h0
    cases hg
    exact h1
  · cases hg
section
variable {W : World} {H : Type} {enc : TypeId × Value → H} {spare : Nat → Bool} {held : Bool}
end
end Go.Proofs.YtikgmgmphkalkaaDoor
namespace Go.Proofs
open Go.Hx
structure D05 where
  g : Int
  ps : List DrP
  ord : List Int
def D05.val (d : D05) : AVal := draft05V d.g d.ps d.ord
structure D05.Ok (d : D05) : Prop where
  g : U8 d.g
  ps : ∀ x ∈ d.ps, x.Ok
  pl : (d.ps.length : Int) < 2 ^ 63
  ol : (d.ord.length : Int) < 2 ^ 63
  o8 : ∀ x ∈ d.ord, U8 x
end Go.Proofs
namespace Go.Proofs.YtikgmgmphkalkaaDoor
open Go.ChangeShapes Go.WideShapes Go.ChangeAt Go.RowKit Go.Hx
section
variable {W : World} {H : Type} {enc : TypeId × Value → H} {spare : Nat → Bool} {held : Bool}
theorem max63 {n : Nat} (h : n ≤ maxLen) : (n : Int) < 2 ^ 63 := by
  have : maxLen = 9223372036854775807 := by decide
  omega
theorem wfU {n : Int} (h : (Lit.int .u8 n).wf = true) : U8 n := by
  have := wf_u8 h
  unfold U8; omega
theorem wfU16 {n : Int} (h : (Lit.int .u16 n).wf = true) : 0 ≤ n ∧ n < 65536 := by
  have : 0 ≤ n ∧ n ≤ 65535 := by simpa [Lit.wf, IntKind.min, IntKind.max, IntKind.signed, IntKind.bits] using h
  omega
theorem opens_DrP : Opens enc Tryd.prog W spare held 131 fun _ zs => ∃ x : DrP, zs = x.cells ∧ x.Ok := by
  have hu := Tryd.underlying131
  have c1 := Tryd.cells5
  have c2 := Tryd.cells23
  refine (opens_struct (φ := fun i _ xs => if i = 2 then ∃ l : List Int, xs = [.vec l.length (intL .u8 l)] ∧ l.length ≤ maxLen ∧ ∀ c, c ∈ l → (Lit.int .u8 c).wf = true else ∃ n, xs = [.lit (.int .u8 n)] ∧ (Lit.int .u8 n).wf = true) hu
    (fun cs hcs => by
      have hc : Tryd.prog.cellsOf 131 = 3 := by kernel_rfl
      rw [hc] at hcs
      match cs, hcs with
      | [a, b, c], _ => simp [c1, c2])
    (fun i hi => match i, hi with
      | 0, _ => (opens_int Tryd.underlying5).mono fun _ _ ⟨n, _, h, w⟩ => ⟨n, h, w⟩
      | 1, _ => (opens_int Tryd.underlying5).mono fun _ _ ⟨n, _, h, w⟩ => ⟨n, h, w⟩
      | 2, _ => (opens_ints Tryd.underlying23 Tryd.underlying5 c1).mono fun _ _ h => h)).mono fun d zs ⟨ds, rows, _, e, hl1, hl2, hall⟩ => ?_
  match rows, ds, hl2, hl1, hall with
  | [x, y, z], [d0, d1, d2], _, _, hall =>
    obtain ⟨n0, e0, w0⟩ := hall 0 (by simp) (by simp)
    obtain ⟨n1, e1, w1⟩ := hall 1 (by simp) (by simp)
    obtain ⟨l, e2, w2, w3⟩ := hall 2 (by simp) (by simp)
    simp only [List.getElem_cons_zero, List.getElem_cons_succ] at e0 e1 e2
    subst e0; subst e1; subst e2
    refine ⟨⟨n0, n1, l⟩, by rw [e]; rfl, ?_⟩
    exact ⟨wfU w0, wfU w1, max63 w2, fun c hc => wfU (w3 c hc)⟩
theorem opens_of {α : Type} {t e : TypeId} {f : α → List AVal} {q : α → Prop} (ht : Tryd.prog.underlying t = some (.slice e)) (hz : 0 < Tryd.prog.cellsOf e) (he : Opens enc Tryd.prog W spare held e fun _ zs => ∃ x : α, zs = f x ∧ q x) :
    Opens enc Tryd.prog W spare held t fun _ zs => ∃ l : List α, zs = [.vec l.length (l.map f).flatten] ∧ l.length ≤ maxLen ∧ ∀ x ∈ l, q x :=
  (opens_slice ht hz he).mono fun d zs h => by
    rcases h with ⟨_, rfl⟩ | ⟨ds, rest, rows, _, rfl, hr, _, hl⟩
    · exact ⟨[], rfl, Nat.zero_le _, fun c h => by cases h⟩
    · obtain ⟨l, rfl, hq⟩ := rows_each (f := f) (q := q) (fun d zs h => h) hr
      exact ⟨l, by rw [List.length_map], by simpa using hl, hq⟩
theorem opens_D05 : Opens enc Tryd.prog W spare held 72 fun _ zs => ∃ (g : Int) (ps : List DrP) (ord : List Int), zs = [.lit (.int .u8 g), .vec ps.length (drC ps), .vec ord.length (bytesL ord)] ∧ U8 g ∧ (∀ x ∈ ps, x.Ok) ∧ (ps.length : Int) < 2 ^ 63 ∧ (ord.length : Int) < 2 ^ 63 ∧ ∀ x ∈ ord, U8 x := by
  have hu := Tryd.underlying72
  have c1 := Tryd.cells5
  have c2 := Tryd.cells23
  have c3 := Tryd.cells70
  have c4 := Tryd.cells131
  refine (opens_struct (φ := fun i _ xs => if i = 2 then ∃ l : List Int, xs = [.vec l.length (intL .u8 l)] ∧ l.length ≤ maxLen ∧ ∀ c, c ∈ l → (Lit.int .u8 c).wf = true else if i = 1 then ∃ l : List DrP, xs = [.vec l.length (l.map DrP.cells).flatten] ∧ l.length ≤ maxLen ∧ ∀ x ∈ l, x.Ok else ∃ n, xs = [.lit (.int .u8 n)] ∧ (Lit.int .u8 n).wf = true) hu
    (fun cs hcs => by
      have hc : Tryd.prog.cellsOf 72 = 3 := by kernel_rfl
      rw [hc] at hcs
      match cs, hcs with
      | [a, b, c], _ => simp [c1, c2, c3])
    (fun i hi => match i, hi with
      | 0, _ => (opens_int Tryd.underlying5).mono fun _ _ ⟨n, _, h, w⟩ => ⟨n, h, w⟩
      | 1, _ => (opens_of Tryd.underlying70 (by rw [c4]; decide) opens_DrP).mono fun _ _ h => h
      | 2, _ => (opens_ints Tryd.underlying23 Tryd.underlying5 c1).mono fun _ _ h => h)).mono fun d zs ⟨ds, rows, _, e, hl1, hl2, hall⟩ => ?_
  match rows, ds, hl2, hl1, hall with
  | [x, y, z], [d0, d1, d2], _, _, hall =>
    obtain ⟨n0, e0, w0⟩ := hall 0 (by simp) (by simp)
    obtain ⟨ps, e1, w1, w1'⟩ := hall 1 (by simp) (by simp)
    obtain ⟨l, e2, w2, w3⟩ := hall 2 (by simp) (by simp)
    simp only [List.getElem_cons_zero, List.getElem_cons_succ] at e0 e1 e2
    subst e0; subst e1; subst e2
    exact ⟨n0, ps, l, by rw [e]; rfl, wfU w0, w1', max63 w1, max63 w2, fun c hc => wfU (w3 c hc)⟩
theorem wfB {n : Int} (h : (Lit.int .u8 n).wf = true) : 0 ≤ n ∧ n ≤ 255 := by
  have := wfU h
  unfold U8 at this; omega
theorem opens_B05 : Opens enc Tryd.prog W spare held 74 fun _ zs => ∃ w a r n : Int, zs = bendC w a r n ∧ (0 ≤ w ∧ w ≤ 255) ∧ (0 ≤ a ∧ a ≤ 255) ∧ (0 ≤ r ∧ r ≤ 255) := by
  have hu := Tryd.underlying74
  have c1 := Tryd.cells5
  have c2 := Tryd.cells3
  refine (opens_struct (φ := fun i _ xs => if i = 3 then ∃ n, xs = [.lit (.int .i64 n)] else ∃ n, xs = [.lit (.int .u8 n)] ∧ (Lit.int .u8 n).wf = true) hu
    (fun cs hcs => by
      have hc : Tryd.prog.cellsOf 74 = 4 := by kernel_rfl
      rw [hc] at hcs
      match cs, hcs with
      | [a, b, c, d], _ => simp [c1, c2])
    (fun i hi => match i, hi with
      | 0, _ => (opens_int Tryd.underlying5).mono fun _ _ ⟨n, _, h, w⟩ => ⟨n, h, w⟩
      | 1, _ => (opens_int Tryd.underlying5).mono fun _ _ ⟨n, _, h, w⟩ => ⟨n, h, w⟩
      | 2, _ => (opens_int Tryd.underlying5).mono fun _ _ ⟨n, _, h, w⟩ => ⟨n, h, w⟩
      | 3, _ => (opens_int Tryd.underlying3).mono fun _ _ ⟨n, _, h, _⟩ => ⟨n, h⟩)).mono fun d zs ⟨ds, rows, _, e, hl1, hl2, hall⟩ => ?_
  match rows, ds, hl2, hl1, hall with
  | [x, y, z, u], [d0, d1, d2, d3], _, _, hall =>
    obtain ⟨n0, e0, w0⟩ := hall 0 (by simp) (by simp)
    obtain ⟨n1, e1, w1⟩ := hall 1 (by simp) (by simp)
    obtain ⟨n2, e2, w2⟩ := hall 2 (by simp) (by simp)
    obtain ⟨n3, e3⟩ := hall 3 (by simp) (by simp)
    simp only [List.getElem_cons_zero, List.getElem_cons_succ] at e0 e1 e2 e3
    subst e0; subst e1; subst e2; subst e3
    exact ⟨n0, n1, n2, n3, by rw [e]; rfl, wfB w0, wfB w1, wfB w2⟩
theorem opens_B25 : Opens enc Tryd.prog W spare held 39 fun _ zs => ∃ w a n : Int, zs = bend25C w a n ∧ U8 w ∧ U8 a := by
  have hu := Tryd.underlying39
  have c1 := Tryd.cells5
  have c2 := Tryd.cells3
  refine (opens_struct (φ := fun i _ xs => if i = 2 then ∃ n, xs = [.lit (.int .i64 n)] else ∃ n, xs = [.lit (.int .u8 n)] ∧ (Lit.int .u8 n).wf = true) hu
    (fun cs hcs => by
      have hc : Tryd.prog.cellsOf 39 = 3 := by kernel_rfl
      rw [hc] at hcs
      match cs, hcs with
      | [a, b, c], _ => simp [c1, c2])
    (fun i hi => match i, hi with
      | 0, _ => (opens_int Tryd.underlying5).mono fun _ _ ⟨n, _, h, w⟩ => ⟨n, h, w⟩
      | 1, _ => (opens_int Tryd.underlying5).mono fun _ _ ⟨n, _, h, w⟩ => ⟨n, h, w⟩
      | 2, _ => (opens_int Tryd.underlying3).mono fun _ _ ⟨n, _, h, _⟩ => ⟨n, h⟩)).mono fun d zs ⟨ds, rows, _, e, hl1, hl2, hall⟩ => ?_
  match rows, ds, hl2, hl1, hall with
  | [x, y, z], [d0, d1, d2], _, _, hall =>
    obtain ⟨n0, e0, w0⟩ := hall 0 (by simp) (by simp)
    obtain ⟨n1, e1, w1⟩ := hall 1 (by simp) (by simp)
    obtain ⟨n2, e2⟩ := hall 2 (by simp) (by simp)
    simp only [List.getElem_cons_zero, List.getElem_cons_succ] at e0 e1 e2
    subst e0; subst e1; subst e2
    exact ⟨n0, n1, n2, by rw [e]; rfl, wfU w0, wfU w1⟩
theorem opens_five : Opens enc Tryd.prog W spare held 112 fun _ zs => ∃ l : List Int, zs = bytesL l ∧ l.length = 5 ∧ ∀ x ∈ l, U8 x :=
  (opens_intArr Tryd.underlying112 Tryd.underlying5 Tryd.cells5 (by kernel_rfl)).mono fun _ _ ⟨l, h1, h2, h3⟩ => ⟨l, h1, h2, fun c hc => wfU (h3 c hc)⟩
theorem opens_D25 : Opens enc Tryd.prog W spare held 37 fun _ zs => ∃ d : D25, zs = d.cells ∧ d.Ok := by
  have hu := Tryd.underlying37
  have c1 := Tryd.cells5
  have c2 := Tryd.cells23
  have c3 := Tryd.cells35
  have c4 : Tryd.prog.cellsOf 112 = 5 := by kernel_rfl
  refine (opens_struct (φ := fun i _ xs => if i = 1 then ∃ l : List (List Int), xs = [.vec l.length (l.map bytesL).flatten] ∧ l.length ≤ maxLen ∧ ∀ r ∈ l, r.length = 5 ∧ ∀ x ∈ r, U8 x else if i = 2 then ∃ n, xs = [.lit (.int .u8 n)] ∧ (Lit.int .u8 n).wf = true else ∃ l : List Int, xs = [.vec l.length (intL .u8 l)] ∧ l.length ≤ maxLen ∧ ∀ c, c ∈ l → (Lit.int .u8 c).wf = true) hu
    (fun cs hcs => by
      have hc : Tryd.prog.cellsOf 37 = 4 := by kernel_rfl
      rw [hc] at hcs
      match cs, hcs with
      | [a, b, c, d], _ => simp [c1, c2, c3])
    (fun i hi => match i, hi with
      | 0, _ => (opens_ints Tryd.underlying23 Tryd.underlying5 c1).mono fun _ _ h => h
      | 1, _ => (opens_of Tryd.underlying35 (by rw [c4]; decide) opens_five).mono fun _ _ h => h
      | 2, _ => (opens_int Tryd.underlying5).mono fun _ _ ⟨n, _, h, w⟩ => ⟨n, h, w⟩
      | 3, _ => (opens_ints Tryd.underlying23 Tryd.underlying5 c1).mono fun _ _ h => h)).mono fun d zs ⟨ds, rows, _, e, hl1, hl2, hall⟩ => ?_
  match rows, ds, hl2, hl1, hall with
  | [x, y, z, u], [d0, d1, d2, d3], _, _, hall =>
    obtain ⟨l0, e0, w0, v0⟩ := hall 0 (by simp) (by simp)
    obtain ⟨l1, e1, w1, v1⟩ := hall 1 (by simp) (by simp)
    obtain ⟨n2, e2, w2⟩ := hall 2 (by simp) (by simp)
    obtain ⟨l3, e3, w3, v3⟩ := hall 3 (by simp) (by simp)
    simp only [List.getElem_cons_zero, List.getElem_cons_succ] at e0 e1 e2 e3
    subst e0; subst e1; subst e2; subst e3
    exact ⟨⟨l0, l1, n2, l3⟩, by rw [e]; rfl, ⟨max63 w0, fun c hc => wfU (v0 c hc), max63 w1, v1, wfU w2, max63 w3, fun c hc => wfU (v3 c hc)⟩⟩
theorem arg_d05 {r : Reach} {b : Nat} {v : Value} {d : DataW H} {ps : List MemPlace} (hval : Value.okWide Tryd.prog W r b 72 v) (hd : DataW.Trod enc Tryd.prog W 0 spare held 72 v d ps) :
    ∃ x : D05, RelV Tryd.prog noG noH W x.val v ∧ x.Ok := by
  obtain ⟨xs, h1, g, ps, ord, rfl, h2, h3, h4, h5, h6⟩ := arg_agg opens_D05 (.inl ⟨_, Tryd.underlying72⟩) hval hd
  exact ⟨⟨g, ps, ord⟩, h1, ⟨h2, h3, h4, h5, h6⟩⟩
theorem arg_b05 {r : Reach} {b : Nat} {v : Value} {d : DataW H} {ps : List MemPlace} (hval : Value.okWide Tryd.prog W r b 74 v) (hd : DataW.Trod enc Tryd.prog W 0 spare held 74 v d ps) :
    ∃ w a q n : Int, RelV Tryd.prog noG noH W (.agg (bendC w a q n)) v ∧ U8 w ∧ U8 a ∧ U8 q := by
  obtain ⟨xs, h1, w, a, q, n, rfl, h2, h3, h4⟩ := arg_agg opens_B05 (.inl ⟨_, Tryd.underlying74⟩) hval hd
  exact ⟨w, a, q, n, h1, ⟨h2.1, by omega⟩, ⟨h3.1, by omega⟩, ⟨h4.1, by omega⟩⟩
theorem arg_b25 {r : Reach} {b : Nat} {v : Value} {d : DataW H} {ps : List MemPlace} (hval : Value.okWide Tryd.prog W r b 39 v) (hd : DataW.Trod enc Tryd.prog W 0 spare held 39 v d ps) :
    ∃ w a n : Int, RelV Tryd.prog noG noH W (.agg (bend25C w a n)) v ∧ U8 w ∧ U8 a := by
  obtain ⟨xs, h1, w, a, n, rfl, h2, h3⟩ := arg_agg opens_B25 (.inl ⟨_, Tryd.underlying39⟩) hval hd
  exact ⟨w, a, n, h1, h2, h3⟩
theorem arg_d25 {r : Reach} {b : Nat} {v : Value} {d : DataW H} {ps : List MemPlace} (hval : Value.okWide Tryd.prog W r b 37 v) (hd : DataW.Trod enc Tryd.prog W 0 spare held 37 v d ps) :
    ∃ x : D25, RelV Tryd.prog noG noH W (.agg x.cells) v ∧ x.Ok := by
  obtain ⟨xs, h1, x, rfl, h2⟩ := arg_agg opens_D25 (.inl ⟨_, Tryd.underlying37⟩) hval hd
  exact ⟨x, h1, h2⟩
theorem arg_u16s {r : Reach} {b : Nat} {v : Value} {d : DataW H} {ps : List MemPlace} (hval : Value.okWide Tryd.prog W r b 75 v) (hd : DataW.Trod enc Tryd.prog W 0 spare held 75 v d ps) :
    ∃ l : List Int, RelV Tryd.prog noG noH W (.vec l.length (u16L l)) v ∧ (l.length : Int) < 2 ^ 63 ∧ ∀ x ∈ l, 0 ≤ x ∧ x < 65536 := by
  obtain ⟨l, h1, h2, h3⟩ := arg_ints Tryd.underlying75 Tryd.underlying41 Tryd.cells41 hval hd
  exact ⟨l, h1, max63 h2, fun c hc => wfU16 (h3 c hc)⟩
end
end Go.Proofs.YtikgmgmphkalkaaDoor
