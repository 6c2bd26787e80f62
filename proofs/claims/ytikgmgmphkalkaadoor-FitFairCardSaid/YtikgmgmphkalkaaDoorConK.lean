/- Own work: contracts. -/
import Derived.Test.YtikgmgmphkalkaaDoorConJ
import Derived.Test.YtikgmgmphkalkaaDoorLibE
import Derived.Test.YtikgmgmphkalkaaDoorConI
set_option linter.all false
set_option maxRecDepth 100000
namespace Go.Proofs
open Go.Hx
theorem clone2_nil (H : AHeap) (K : ARes → AHeap → Prop) (hK : K (.ret (.vec 0 [])) H) : ACall Tryd.prog G0 38 [.vec 0 []] H K := by
  refine ACall.clo ⟨_, Tryd.func38, rfl, rfl⟩ fun hc => ?_
  refine ACall.of_body (n := 8) (rs := [.tmp 2]) Tryd.func38 rfl rfl rfl (by decide) (by kernel_rfl) (by simp) ?_
  simp (config := { maxSteps := 1000000 }) only [go_sem, appendA_U]
  intro b
  cases b with
  | true =>
    simp (config := { maxSteps := 1000000 }) only [go_sem, appendA_U]
    exact FinV.drop0 G0_ok hc .nil hK
  | false =>
    simp (config := { maxSteps := 1000000 }) only [go_sem, appendA_U]
    refine ⟨rfl, FinV.drop (v' := .vec 0 []) G0_ok hc ?_ hK⟩
    exact .frz (Nat.le_refl _) (get_ext0 ..) rfl fun i hi => absurd hi (by omega)
theorem reverse_nil (H : AHeap) (K : ARes → AHeap → Prop) (hK : K (.ret (.tup [])) H) : ACall Tryd.prog G0 39 [.vec 0 []] H K := by
  refine ACall.of_bodyW (n := 28) (rs := []) Tryd.func39 rfl rfl rfl (by decide) (by simp) ?_
  refine W.seq (vc_sound _ _ _ (by rfl) ?_)
  have w1 : IntKind.i64.wrap (-1) = -1 := by decide
  simp (config := { maxSteps := 1000000 }) only [go_sem, w1, appendA_U]
  refine W.env fun E hE => ?_
  have e2 : E 2 = lin 0 := by rw [hE]; simp (config := { maxSteps := 1000000 }) only [go_sem, appendA_U]
  have e3 : E 3 = lin (-1) := by rw [hE]; simp (config := { maxSteps := 1000000 }) only [go_sem, w1, appendA_U]
  clear hE
  refine W.block ?_
  refine W.loop0 268435340 (by rfl) (fun ρ Hx => ρ 2 = lin 0 ∧ ρ 3 = lin (-1) ∧ Hx = H) (fun ρ Hx => 0) ?_ ?_
  · exact ⟨e2, e3, rfl⟩
  rintro ρ Hx ⟨h2, h3, hHx⟩
  refine W.env fun E1 hE1 => ?_
  have f2 : E1 2 = lin 0 := by rw [hE1]; simp (config := { maxSteps := 1000000 }) only [go_sem, h2, appendA_U]
  have f3 : E1 3 = lin (-1) := by rw [hE1]; simp (config := { maxSteps := 1000000 }) only [go_sem, h3, appendA_U]
  clear hE1
  refine vc_sound _ _ _ (by rfl) ?_
  simp (config := { maxSteps := 1000000 }) only [go_sem, f2, f3, appendA_U]
  rw [hHx]
  exact FinV.mk (Nat.le_refl _) hK

set_option maxHeartbeats 8000000 in
theorem fair_spec (d : D25) (hd : d.Ok) (pn : Nat) (ord : List Int) (ed : Nat) (ho : ord.length = 6) (ho8 : ∀ x ∈ ord, U8 x) (he : ed < 65536) (s0 s1 s2 : Int) (h0 : U8 s0) (h1 : U8 s1) (h2 : U8 s2) (H : AHeap) (K : ARes → AHeap → Prop) (hK : ∀ H', H.next ≤ H'.next → K (.ret (.lit (.bool true))) H') :
    ACall Tryd.prog G0 8 [.agg d.cells, .agg (planC pn ord ed), .agg (bytesL [s0, s1, s2])] H K := by
  obtain ⟨DC, hDC⟩ : ∃ DC, DC = d.cells := ⟨_, rfl⟩
  have dcl : DC.length = 4 := by rw [hDC]; rfl
  obtain ⟨PC, hPC⟩ : ∃ PC, PC = planC pn ord ed := ⟨_, rfl⟩
  have pcl : PC.length = 8 := by rw [hPC]; unfold planC; simp [bytesL_len, ho]
  obtain ⟨XC, hXC⟩ : ∃ XC, XC = bytesL [s0, s1, s2] := ⟨_, rfl⟩
  have xcl : XC.length = 3 := by rw [hXC]; rfl
  have x0 : XC[0]? = some (.lit (.int .u8 s0)) := by rw [hXC]; rfl
  have x1 : XC[1]? = some (.lit (.int .u8 s1)) := by rw [hXC]; rfl
  have x2 : XC[2]? = some (.lit (.int .u8 s2)) := by rw [hXC]; rfl
  have xn := ne_of_get x0
  rw [← hDC, ← hPC, ← hXC]
  clear hXC
  obtain ⟨cs, hcs⟩ : ∃ cs, cs = cardsD d := ⟨_, rfl⟩
  obtain ⟨xs, hxs⟩ : ∃ xs, xs = missD d := ⟨_, rfl⟩
  have cl5 := cardsD_len d
  have mok := missD_ok d
  have hdok := missD_data hd
  have crng := cardsD_rng d
  rw [← hcs] at cl5 mok hdok crng
  rw [← hxs] at mok hdok
  refine ACall.of_bodyW (n := 168) (rs := [.tmp 6]) Tryd.func8 rfl rfl rfl (by decide) (by simp) ?_
  refine W.seq (vc_sound _ _ _ (by rfl) ?_)
  simp (config := { maxSteps := 1000000 }) only [go_sem, appendA_U]
  obtain ⟨H1, hH1⟩ : ∃ H1, H1 = ext H [.arr 0 37 DC, .arr 0 43 PC, .arr 0 45 XC] := ⟨_, rfl⟩
  have n1 : H1.next = H.next + 3 := by rw [hH1]; rfl
  have b0 : H1.get H.next = some (.arr 0 37 DC) := by rw [hH1]; exact get_ext0 ..
  have b1 : H1.get (H.next + 1) = some (.arr 0 43 PC) := by rw [hH1]; exact get_ext H _ 1 (by simp)
  have b2 : H1.get (H.next + 2) = some (.arr 0 45 XC) := by rw [hH1]; exact get_ext H _ 2 (by simp)
  refine W.env fun E hE => ?_
  have e3 : E 3 = .ptr H.next 0 0 := by rw [hE]; simp (config := { maxSteps := 1000000 }) only [go_sem, appendA_U]
  have e4 : E 4 = .ptr (H.next + 1) 0 0 := by rw [hE]; simp (config := { maxSteps := 1000000 }) only [go_sem, appendA_U]
  have e5 : E 5 = .ptr (H.next + 2) 0 0 := by rw [hE]; simp (config := { maxSteps := 1000000 }) only [go_sem, appendA_U]
  clear hE
  show W _ _ _ _ _ _ ⟨E, ext H [.arr 0 37 DC, .arr 0 43 PC, .arr 0 45 XC]⟩
  rw [← hH1]
  clear hH1
  refine W.seq ?_
  refine vc_sound _ _ _ (by rfl) ?_
  simp (config := { maxSteps := 1000000 }) only [go_sem, appendA_U]
  refine AApply.clo (works_ok _ _ ⟨trivial, ?_⟩)
  simp (config := { maxSteps := 1000000 }) only [go_sem, appendA_U]
  have l0 := get_live b0
  have dt : DC.take 4 = DC := List.take_of_length_le (by omega)
  refine W.seq (vc_sound _ _ _ (by rfl) ?_)
  simp (config := { maxSteps := 1000000 }) only [go_sem, e3, l0, dcl, dt, appendA_U]
  rw [hDC]
  refine AApply.clo (data25_spec d hd H1 _ ⟨trivial, ?_⟩)
  rw [← hDC, ← hcs, ← hxs]
  simp (config := { maxSteps := 1000000 }) only [go_sem, dataV, vecV, appendA_U]
  obtain ⟨H2, hH2⟩ : ∃ H2, H2 = ext H1 [.arr 0 50 [.vec cs.length (ints cs), .vec xs.length (xs.map vecI)]] := ⟨_, rfl⟩
  have n2 : H2.next = H1.next + 1 := by rw [hH2]; rfl
  have o2 : Over H1 H2 := by rw [hH2]; exact .ext _ _
  have gd : H2.get H1.next = some (.arr 0 50 [.vec cs.length (ints cs), .vec xs.length (xs.map vecI)]) := by rw [hH2]; exact ext1_get_new
  have ld := get_live gd
  have l2 := get_live ((o2.old (H.next + 1) (by omega)).trans b1)
  refine W.env fun E1 hE1 => ?_
  have f4 : E1 4 = .ptr (H.next + 1) 0 0 := by rw [hE1]; simp (config := { maxSteps := 1000000 }) only [go_sem, e4, appendA_U]
  have f5 : E1 5 = .ptr (H.next + 2) 0 0 := by rw [hE1]; simp (config := { maxSteps := 1000000 }) only [go_sem, e5, appendA_U]
  have f7 : E1 7 = .ptr H1.next 0 0 := by rw [hE1]; simp (config := { maxSteps := 1000000 }) only [go_sem, appendA_U]
  clear hE1
  show W _ _ _ _ _ _ ⟨E1, ext H1 [.arr 0 50 [.vec cs.length (ints cs), .vec xs.length (xs.map vecI)]]⟩
  rw [← hH2]
  clear hH2
  obtain ⟨m, hm⟩ : ∃ m, cs.length = m + 1 := ⟨cs.length - 1, by omega⟩
  have w1 : IntKind.i64.wrap ((cs.length : Int) - 1) = (m : Int) := by rw [IntWalk.i64_in _ (by omega)]; omega
  have w2 : IntKind.u8.wrap (m : Int) = (m : Int) := IntWalk.u8_in _ (by omega)
  have pst : AVal.lit (.int .u8 (m : Int)) :: PC.drop 1 = planC m ord ed := by rw [hPC]; rfl
  have pcl2 : (planC m ord ed).length = 8 := by unfold planC; simp [bytesL_len, ho]
  have ptk : (planC m ord ed).take 8 = planC m ord ed := List.take_of_length_le (by omega)
  refine W.seq (vc_sound _ _ _ (by rfl) ?_)
  simp (config := { maxSteps := 1000000 }) only [go_sem, f4, f7, ld, l2, w1, w2, pcl, appendA_U]
  rw [pst]
  obtain ⟨H3, hH3⟩ : ∃ H3, H3 = H2.upd (H.next + 1) (.arr 0 43 (planC m ord ed)) := ⟨_, rfl⟩
  have n3 : H3.next = H2.next := by rw [hH3]; rfl
  have g3 : ∀ id, id ≠ H.next + 1 → H3.get id = H2.get id := fun id h => by rw [hH3, upd_get, if_neg h]
  have gp : H3.get (H.next + 1) = some (.arr 0 43 (planC m ord ed)) := by rw [hH3, upd_get, if_pos rfl]
  rw [← hH3]
  clear hH3
  have lp := get_live gp
  have gd3 := (g3 H1.next (by omega)).trans gd
  have ld3 := get_live gd3
  have lx3 := get_live ((g3 (H.next + 2) (by omega)).trans ((o2.old _ (by omega)).trans b2))
  refine W.seq (vc_sound _ _ _ (by rfl) ?_)
  simp (config := { maxSteps := 1000000 }) only [go_sem, f4, lp, pcl2, ptk, appendA_U]
  refine AApply.clo (graphP_spec m (m + 1) ord ed (by omega) ho ho8 he (by omega) H3 _ fun ps hg => ⟨trivial, ?_⟩)
  simp (config := { maxSteps := 1000000 }) only [go_sem, appendA_U]
  refine W.env fun E2 hE2 => ?_
  have a5 : E2 5 = .ptr (H.next + 2) 0 0 := by rw [hE2]; simp (config := { maxSteps := 1000000 }) only [go_sem, f5, appendA_U]
  have a7 : E2 7 = .ptr H1.next 0 0 := by rw [hE2]; simp (config := { maxSteps := 1000000 }) only [go_sem, f7, appendA_U]
  have a8 : E2 8 = vecB ps := by rw [hE2]; simp (config := { maxSteps := 1000000 }) only [go_sem, appendA_U]
  clear hE2
  unfold U8 at h0 h1 h2
  obtain ⟨gr, hgr⟩ : ∃ gr, gr = 6 + s0 % 55 := ⟨_, rfl⟩
  obtain ⟨pr, hpr⟩ : ∃ pr, pr = s1 % 11 := ⟨_, rfl⟩
  obtain ⟨le, hle⟩ : ∃ le, le = s2 % 3 := ⟨_, rfl⟩
  have r0 : s0.tmod 55 = s0 % 55 := Int.tmod_eq_emod_of_nonneg h0.1
  have r1 : s1.tmod 11 = pr := by rw [hpr]; exact Int.tmod_eq_emod_of_nonneg h1.1
  have r2 : s2.tmod 3 = le := by rw [hle]; exact Int.tmod_eq_emod_of_nonneg h2.1
  have v0 := IntWalk.i64_in s0 (by omega)
  have v1 := IntWalk.i64_in (s0 % 55) (by omega)
  have v2 : IntKind.i64.wrap (6 + s0 % 55) = gr := by rw [hgr]; exact IntWalk.i64_in _ (by omega)
  have v3 : IntKind.u8.wrap pr = pr := IntWalk.u8_in _ (by omega)
  have v4 : IntKind.u8.wrap le = le := IntWalk.u8_in _ (by omega)
  have v5 := IntWalk.i64_in pr (by omega)
  have v6 := IntWalk.i64_in le (by omega)
  have hw : WantOk cs gr pr le := by
    refine ⟨by omega, by omega, by omega, fun c hc => ?_⟩
    have h3 := crng c hc
    have : le * c ≤ 2 * 3 := Int.mul_le_mul (by omega) h3.2 (by omega) (by omega)
    omega
  refine W.seq ?_
  refine W.draw 15 [0, 1, 3, 7, 15, 0, 32, 96, 224, 0, 512, 1536, 3584, 31, 8703] Tryd.mixed (by kernel_rfl) (by kernel_rfl) ?_
  simp (config := { maxSteps := 1000000 }) only [go_sem, a5, lx3, xcl, x0, x1, x2, xn, r0, r1, r2, v0, v1, v2, v3, v4, v5, v6, appendA_U]
  refine W.env fun E3 hE3 => ?_
  have c7 : E3 7 = .ptr H1.next 0 0 := by rw [hE3]; simp (config := { maxSteps := 1000000 }) only [go_sem, a7, appendA_U]
  have c8 : E3 8 = vecB ps := by rw [hE3]; simp (config := { maxSteps := 1000000 }) only [go_sem, a8, appendA_U]
  have c9 : E3 9 = lin gr := by rw [hE3]; simp (config := { maxSteps := 1000000 }) only [go_sem, v0, r0, v1, v2, appendA_U]
  have c10 : E3 10 = lin pr := by rw [hE3]; simp (config := { maxSteps := 1000000 }) only [go_sem, r1, v3, v5, appendA_U]
  have c11 : E3 11 = lin le := by rw [hE3]; simp (config := { maxSteps := 1000000 }) only [go_sem, r2, v4, v6, appendA_U]
  clear hE3
  have hx40 := mok.1
  have df : DataFit cs xs := rowsN_fit (by omega) (by omega) fun r hr => by rw [mok.2 r hr]; omega
  have dfp : ∀ {ys : List (List Int)}, ys.Perm xs → DataFit cs ys := fun {ys} hp => rowsN_fit (by omega) (by rw [hp.length_eq]; omega) fun r hr => by rw [mok.2 r (hp.mem_iff.1 hr)]; omega
  have hgc : GraphOk ps cs.length := by rw [hm]; exact hg
  rcases Nat.eq_zero_or_pos xs.length with hx0 | hx0
  · have hx0 := List.eq_nil_of_length_eq_zero hx0
    subst hx0
    refine W.seq ?_
    refine W.draw 7 [0, 1, 0, 4, 12, 31, 0] Tryd.mixed (by kernel_rfl) (by kernel_rfl) ?_
    simp (config := { maxSteps := 1000000 }) only [go_sem, c7, ld3, appendA_U]
    refine ⟨.vec 0 [], [], PCall.pure fun Hz => clone2_nil Hz _ ⟨rfl, rfl⟩, ?_⟩
    simp (config := { maxSteps := 1000000 }) only [go_sem, appendA_U]
    refine ⟨by repeat' (first | refine And.intro ?_ ?_ | (intro x hx; omega)), ?_⟩
    obtain ⟨H4, hH4⟩ : ∃ H4, H4 = ext H3 [.arr 0 50 [.vec cs.length (ints cs), .vec 0 []]] := ⟨_, rfl⟩
    have n4 : H4.next = H3.next + 1 := by rw [hH4]; rfl
    have o4 : Over H3 H4 := by rw [hH4]; exact .ext _ _
    have gz : H4.get H3.next = some (.arr 0 50 [.vec cs.length (ints cs), .vec 0 []]) := by rw [hH4]; exact ext1_get_new
    have gy := (o4.old H1.next (by omega)).trans gd3
    refine W.env fun E4 hE4 => ?_
    have k7 : E4 7 = .ptr H1.next 0 0 := by rw [hE4]; simp (config := { maxSteps := 1000000 }) only [go_sem, c7, appendA_U]
    have k8 : E4 8 = vecB ps := by rw [hE4]; simp (config := { maxSteps := 1000000 }) only [go_sem, c8, appendA_U]
    have k9 : E4 9 = lin gr := by rw [hE4]; simp (config := { maxSteps := 1000000 }) only [go_sem, c9, appendA_U]
    have k10 : E4 10 = lin pr := by rw [hE4]; simp (config := { maxSteps := 1000000 }) only [go_sem, c10, appendA_U]
    have k11 : E4 11 = lin le := by rw [hE4]; simp (config := { maxSteps := 1000000 }) only [go_sem, c11, appendA_U]
    have k12 : E4 12 = .ptr H3.next 0 0 := by rw [hE4]; simp (config := { maxSteps := 1000000 }) only [go_sem, appendA_U]
    clear hE4

    rw [← hH4]
    clear hH4
    have lz := get_live gz
    refine W.seq (vc_sound _ _ _ (by rfl) ?_)
    simp (config := { maxSteps := 1000000 }) only [go_sem, k12, lz, appendA_U]
    refine AApply.clo (reverse_nil _ _ ⟨trivial, ?_⟩)
    simp (config := { maxSteps := 1000000 }) only [go_sem, appendA_U]
    refine W.env fun E5 hE5 => ?_
    have q7 : E5 7 = .ptr H1.next 0 0 := by rw [hE5]; simp (config := { maxSteps := 1000000 }) only [go_sem, k7, appendA_U]
    have q8 : E5 8 = vecB ps := by rw [hE5]; simp (config := { maxSteps := 1000000 }) only [go_sem, k8, appendA_U]
    have q9 : E5 9 = lin gr := by rw [hE5]; simp (config := { maxSteps := 1000000 }) only [go_sem, k9, appendA_U]
    have q10 : E5 10 = lin pr := by rw [hE5]; simp (config := { maxSteps := 1000000 }) only [go_sem, k10, appendA_U]
    have q11 : E5 11 = lin le := by rw [hE5]; simp (config := { maxSteps := 1000000 }) only [go_sem, k11, appendA_U]
    have q12 : E5 12 = .ptr H3.next 0 0 := by rw [hE5]; simp (config := { maxSteps := 1000000 }) only [go_sem, k12, appendA_U]
    clear hE5
    exact fair_tail hdok (.refl _) hgc hw df df (Y := H1.next) (Z := H3.next) (H := H) gy gz (by omega) (by omega) (by omega) K hK q7 q8 q9 q10 q11 q12 _ rfl
  refine W.seq ?_
  refine Ev.W.drawE 7 [0, 1, 0, 4, 12, 31, 0] Tryd.mixed (by kernel_rfl) (by kernel_rfl) ?_
  simp (config := { maxSteps := 1000000 }) only [go_sem, c7, ld3, E_nil, E_plain, E_call, E_move, E_load, E_nilCheck, E_fieldAddr, E_makeSlice, E_buildSlice, E_build, E_box, E_binOp, E_alloc, E_store, appendA_U]
  refine ⟨_, _, _, _, clone2_ecall (by omega) hx0, ?_⟩
  simp (config := { maxSteps := 1000000 }) only [go_sem, effE_new, newL_one, appendA_U]
  refine ⟨by repeat' (first | refine And.intro ?_ ?_ | (intro x hx; omega)), by repeat' (first | refine And.intro ?_ ?_ | (intro x hx; omega)), ?_⟩
  obtain ⟨H4, hH4⟩ : ∃ H4, H4 = ext (ext H3 [.arr 1 22 (xs.map vecI)]) [.arr 0 50 [.vec cs.length (ints cs), .own H3.next 1 0 xs.length 1]] := ⟨_, rfl⟩
  have n4 : H4.next = H3.next + 2 := by rw [hH4]; rfl
  have o4 : Over H3 H4 := by rw [hH4]; exact (Over.ext _ _).trans (.ext _ _)
  have gc : H4.get H3.next = some (.arr 1 22 (xs.map vecI)) := by rw [hH4, ext_ext]; exact get_ext H3 _ 0 (by simp)
  have gz : H4.get (H3.next + 1) = some (.arr 0 50 [.vec cs.length (ints cs), .own H3.next 1 0 xs.length 1]) := by rw [hH4, ext_ext]; exact get_ext H3 _ 1 (by simp)
  have gy := (o4.old H1.next (by omega)).trans gd3
  refine W.env fun E4 hE4 => ?_
  have k7 : E4 7 = .ptr H1.next 0 0 := by rw [hE4]; simp (config := { maxSteps := 1000000 }) only [go_sem, c7, appendA_U]
  have k8 : E4 8 = vecB ps := by rw [hE4]; simp (config := { maxSteps := 1000000 }) only [go_sem, c8, appendA_U]
  have k9 : E4 9 = lin gr := by rw [hE4]; simp (config := { maxSteps := 1000000 }) only [go_sem, c9, appendA_U]
  have k10 : E4 10 = lin pr := by rw [hE4]; simp (config := { maxSteps := 1000000 }) only [go_sem, c10, appendA_U]
  have k11 : E4 11 = lin le := by rw [hE4]; simp (config := { maxSteps := 1000000 }) only [go_sem, c11, appendA_U]
  have k12 : E4 12 = .ptr (H3.next + 1) 0 0 := by rw [hE4]; simp (config := { maxSteps := 1000000 }) only [go_sem, appendA_U]
  clear hE4
  rw [← hH4]
  clear hH4
  have lz := get_live gz
  refine W.seq (vc_sound _ _ _ (by rfl) ?_)
  simp (config := { maxSteps := 1000000 }) only [go_sem, k12, lz, appendA_U]
  refine AApply.clo (reverse_own (by omega) _ gc _ fun ys hys => ⟨trivial, ?_⟩)
  simp (config := { maxSteps := 1000000 }) only [go_sem, appendA_U]
  obtain ⟨H5, hH5⟩ : ∃ H5, H5 = H4.upd H3.next (.arr 1 22 (ys.map vecI)) := ⟨_, rfl⟩
  have n5 : H5.next = H4.next := by rw [hH5]; rfl
  have g5 : ∀ id, id ≠ H3.next → H5.get id = H4.get id := fun id h => by rw [hH5, upd_get, if_neg h]
  have gc5 : H5.get H3.next = some (.arr 1 22 (ys.map vecI)) := by rw [hH5, upd_get, if_pos rfl]
  rw [← hH5]
  clear hH5
  have gz5 := (g5 (H3.next + 1) (by omega)).trans gz
  have gy5 := (g5 H1.next (by omega)).trans gy
  refine W.weak (WeakS.melt G0_ok (rk := H3.next) (ob := H3.next + 1) (cells' := [vecI cs, vecV ys]) gz5 (by omega) rfl (fun i hi _ => ?_)) (Nat.le_refl _) trivial ?_
  · have : i = 0 ∨ i = 1 := by simp at hi; omega
    rcases this with rfl | rfl
    · exact .keepInts _
    · have yl := hys.length_eq
      simp only [List.getElem_cons_succ, List.getElem_cons_zero]
      rw [← yl]
      refine .frz rfl gc5 (by simp) fun i hi h2 h' => ?_
      simp only [Nat.zero_add, List.getElem_map, vecI]
      exact .keepInts _
  refine W.env fun E5 hE5 => ?_
  have q7 : E5 7 = .ptr H1.next 0 0 := by rw [hE5]; simp (config := { maxSteps := 1000000 }) only [go_sem, k7, appendA_U]
  have q8 : E5 8 = vecB ps := by rw [hE5]; simp (config := { maxSteps := 1000000 }) only [go_sem, k8, appendA_U]
  have q9 : E5 9 = lin gr := by rw [hE5]; simp (config := { maxSteps := 1000000 }) only [go_sem, k9, appendA_U]
  have q10 : E5 10 = lin pr := by rw [hE5]; simp (config := { maxSteps := 1000000 }) only [go_sem, k10, appendA_U]
  have q11 : E5 11 = lin le := by rw [hE5]; simp (config := { maxSteps := 1000000 }) only [go_sem, k11, appendA_U]
  have q12 : E5 12 = .ptr (H3.next + 1) 0 0 := by rw [hE5]; simp (config := { maxSteps := 1000000 }) only [go_sem, k12, appendA_U]
  clear hE5
  exact fair_tail hdok hys hgc hw df (dfp hys) (Y := H1.next) (Z := H3.next + 1) (H := H) ((melt_other (by omega) (by omega)).trans gy5) (melt_ob (by omega)) (by rw [melt_next]; omega) (by rw [melt_next]; omega) (by rw [melt_next]; omega) K hK q7 q8 q9 q10 q11 q12 _ rfl
theorem fair_call (d : D25) (hd : d.Ok) (pn : Nat) (ord : List Int) (ed : Nat) (ho : ord.length = 6) (ho8 : ∀ x ∈ ord, U8 x) (he : ed < 65536) (l : List Int) (hl : l.length = 3) (h8 : ∀ x ∈ l, (Lit.int .u8 x).wf = true) (H : AHeap) (K : ARes → AHeap → Prop) (hK : ∀ H', H.next ≤ H'.next → K (.ret (.lit (.bool true))) H') :
    ACall Tryd.prog G0 8 [.agg d.cells, .agg (planC pn ord ed), .agg (intL .u8 l)] H K := by
  have u : ∀ {x : Int}, (Lit.int .u8 x).wf = true → U8 x := fun h => by have := wf_u8 h; unfold U8; omega
  match l, hl with
  | [a, b, c], _ => exact fair_spec d hd pn ord ed ho ho8 he a b c (u (h8 a (by simp))) (u (h8 b (by simp))) (u (h8 c (by simp))) H K hK
end Go.Proofs

