/- Own work: contracts. -/
import Derived.Test.YtikgmgmphkalkaaDoorConF
import Derived.Test.YtikgmgmphkalkaaDoorConG
import Derived.Test.YtikgmgmphkalkaaDoorConC
import Derived.Test.YtikgmgmphkalkaaDoorConD
import Derived.Test.YtikgmgmphkalkaaDoorConB
import Derived.Test.YtikgmgmphkalkaaDoorConE
set_option linter.all false
set_option maxRecDepth 100000
namespace Go.Proofs
open Go.Hx
def rbOf : Code → Option Code
  | .seq a b => match rbOf a with
    | some c => some c
    | none => rbOf b
  | .block _ c => rbOf c
  | .rangeFunc _ _ _ body => some body
  | _ => none

set_option maxHeartbeats 8000000 in
theorem fit_round {cs : List Int} {xs : List (List Int)} {grain prior least : Int} {n v s : Nat} (hd : DataOk cs xs) (hw : WantOk cs grain prior least) (hn : n = cs.length) (hv : v < n) (hs : s < 2 ^ n)
    {LB D GB PB LeB NT NB lo : Nat} {Bb : Blk} {Hr : AHeap} {C : List AVal} {J : AHeap → Prop} {Stop : AX → AHeap → Prop} {E : Nat → AVal}
    (hBb : ∃ st pd n' en ps' as' bo, Bb = Blk.loop st pd n' en ps' as' bo) (hLB : Hr.get LB = some Bb) (hlt : LB < Hr.next) (hlo : lo ≤ Hr.next)
    (gD : Hr.get D = some (.arr 0 50 [vecI cs, vecV xs])) (gG : Hr.get GB = some (.arr 0 3 [lin grain])) (gP : Hr.get PB = some (.arr 0 3 [lin prior])) (gL : Hr.get LeB = some (.arr 0 3 [lin least]))
    (gT : Hr.get NT = some (.arr 0 61 [lin grain, .own NB 0 0 n 3])) (gB : Hr.get NB = some (.arr 0 91 C)) (hC : C.length = n * 3) (hCf : ∀ c ∈ C, ∀ (S : Nat → Prop) (Hz : AHeap) (nx : Nat), Fz S Hz nx c c)
    (hids : D < Hr.next ∧ GB < Hr.next ∧ PB < Hr.next ∧ LeB < Hr.next ∧ NT < Hr.next ∧ NB < Hr.next) (hne : NB ≠ LB ∧ NB ≠ D ∧ NB ≠ GB ∧ NB ≠ PB ∧ NB ≠ LeB ∧ NB ≠ NT)
    (e5 : E 5 = .ptr D 0 0) (e7 : E 7 = .ptr GB 0 0) (e8 : E 8 = .ptr PB 0 0) (e9 : E 9 = .ptr LeB 0 0) (e15 : E 15 = .ptr NT 0 0) (e16 : E 16 = lin v) (e17 : E 17 = vecI (parsL n s))
    (hJ : ∀ Hf x, FitN cs xs grain prior least n v s x → Hr.next ≤ Hf.next → (∀ id, id < Hr.next → id ≠ NB → Hf.get id = Hr.get id) → Hf.get NB = some (.arr 0 91 (setAt C (v * 3) x.cells)) → J Hf)
    (code : Code) (hcode : rbOf (bodyOf Tryd.f19) = some code) : W Tryd.prog G0 146 (some LB) code (bodyIt LB Bb lo J Stop) ⟨E, Hr⟩ := by
  simp only [rbOf, bodyOf, Tryd.f19, Option.getD_some] at hcode
  obtain rfl := Option.some.inj hcode
  clear hcode
  obtain ⟨st, pd, n', en, ps', as', bo, hBe⟩ := hBb
  have rdH : ∀ Hz : AHeap, Hz.get LB = some Bb → RdIn Hz (some LB) := fun Hz h => ⟨st, pd, n', en, ps', as', bo, by rw [h, hBe]⟩
  obtain ⟨⟨g1, g60⟩, ⟨p0, p10⟩, ⟨l0, lg⟩, lc⟩ := hw
  obtain ⟨P, hP⟩ : ∃ P, P = parsL n s := ⟨_, rfl⟩
  rw [← hP] at e17
  have c6 := hd.c1
  have hpar : ParIn cs P := ⟨fun p hp => by rw [hP] at hp; have := parsL_rng p hp; omega, by rw [hP]; have := parsL_len n s; omega, hd.card⟩
  obtain ⟨c, hcv⟩ := get_of_lt (l := cs) (i := v) (by omega)
  have hcn := ne_of_get hcv
  have c4 := hd.card c (List.mem_of_getElem? hcv)
  have hcd := getD_of_get (d := 0) hcv
  have hvc : (v : Int) < cs.length := by omega
  have lD := get_live gD
  obtain ⟨R, hR⟩ : ∃ R : Nat, (R : Int) = prodL (atL cs P) := ⟨(prodL (atL cs P)).toNat, by have := hpar.prod (atL cs P).length; rw [List.take_of_length_le (Nat.le_refl _)] at this; omega⟩
  have hRb : R ≤ 4096 := by have := hpar.prod (atL cs P).length; rw [List.take_of_length_le (Nat.le_refl _)] at this; omega
  obtain ⟨cn, hcn'⟩ : ∃ cn : Nat, (cn : Int) = c := ⟨c.toNat, by omega⟩
  obtain ⟨T, hT⟩ : ∃ T : Nat → List Int, T = fun j => cntsL cs P v xs prior j := ⟨_, rfl⟩
  have Tl : ∀ j, (T j).length = cn := fun j => by rw [hT]; show (cntsL _ _ _ _ _ _).length = _; rw [cntsL_len, hcd]; omega
  have Tg : ∀ j k, k < cn → (T j)[k]? = some (prior + (cntF cs P v xs ((j : Int) * c + k) : Int)) := fun j k hk => by rw [hT]; show (cntsL _ _ _ _ _ _)[k]? = _; rw [cntsL_get (by rw [hcd]; omega), hcd]
  have Tr : ∀ j, ∀ x ∈ T j, 0 ≤ x ∧ x ≤ 50 := fun j => by rw [hT]; exact cntsL_rng ⟨p0, p10⟩ hd.x1
  refine W.postWeak (Q' := fun e s2 => e = .normal ∧ Hr.next ≤ s2.H.next ∧ (∀ id, id < Hr.next → id ≠ NB → s2.H.get id = Hr.get id) ∧ ∃ (rv : AVal) (rows : List (List Int)), s2.H.get NB = some (.arr 0 91 (setAt C (v * 3) [lin c, vecI P, rv])) ∧ OwnD2 Hr.next s2.H 22 3 rv (rows.map ints) ∧ rows.length = R ∧ ∀ (j : Nat) (r : List Int), rows[j]? = some r → ShareOk least (spareOf grain least (T j)) (T j) r) ?_ ?_
  · refine W.block ?_
    refine W.seq (vc_sound _ _ _ (by rfl) ?_)
    simp (config := { maxSteps := 1000000 }) only [go_sem, e5, e16, e17, lD, hcv, hcn, hvc, appendA_U]
    obtain ⟨H1, hH1⟩ : ∃ H1, H1 = ext Hr [.arr 0 91 [.lit (.int .i64 c), .vec P.length (ints P), .lit (.slice none 0 0)]] := ⟨_, rfl⟩
    have n1 : H1.next = Hr.next + 1 := by rw [hH1]; rfl
    have o1 : Over Hr H1 := by rw [hH1]; exact .ext _ _
    have g18 : H1.get Hr.next = some (.arr 0 91 [.lit (.int .i64 c), .vec P.length (ints P), .lit (.slice none 0 0)]) := by rw [hH1]; exact ext1_get_new
    refine W.env fun E1 hE1 => ?_
    have f5 : E1 5 = .ptr D 0 0 := by rw [hE1]; simp (config := { maxSteps := 1000000 }) only [go_sem, e5, appendA_U]
    have f7 : E1 7 = .ptr GB 0 0 := by rw [hE1]; simp (config := { maxSteps := 1000000 }) only [go_sem, e7, appendA_U]
    have f8 : E1 8 = .ptr PB 0 0 := by rw [hE1]; simp (config := { maxSteps := 1000000 }) only [go_sem, e8, appendA_U]
    have f9 : E1 9 = .ptr LeB 0 0 := by rw [hE1]; simp (config := { maxSteps := 1000000 }) only [go_sem, e9, appendA_U]
    have f15 : E1 15 = .ptr NT 0 0 := by rw [hE1]; simp (config := { maxSteps := 1000000 }) only [go_sem, e15, appendA_U]
    have f16 : E1 16 = lin v := by rw [hE1]; simp (config := { maxSteps := 1000000 }) only [go_sem, e16, appendA_U]
    have f17 : E1 17 = vecI P := by rw [hE1]; simp (config := { maxSteps := 1000000 }) only [go_sem, e17, appendA_U]
    have f18 : E1 18 = .ptr Hr.next 0 0 := by rw [hE1]; simp (config := { maxSteps := 1000000 }) only [go_sem, appendA_U]
    clear hE1
    rw [← hH1]
    clear hH1
    have lD1 := (o1.live (g := 0) hids.1).trans lD
    refine W.seq (vc_sound _ _ _ (by rfl) ?_)
    simp (config := { maxSteps := 1000000 }) only [go_sem, f5, f16, f17, lD1, appendA_U]
    refine AApply.clo (tally_spec hpar hd (v := v) (by omega) _ _ fun m H4 es o4 m1 m2 gm hes => ⟨rdH _ ((o4.old _ (by omega)).trans ((o1.old _ hlt).trans hLB)), ?_⟩)
    simp (config := { maxSteps := 1000000 }) only [go_sem, appendA_U]
    refine W.env fun E2 hE2 => ?_
    have a5 : E2 5 = .ptr D 0 0 := by rw [hE2]; simp (config := { maxSteps := 1000000 }) only [go_sem, f5, appendA_U]
    have a7 : E2 7 = .ptr GB 0 0 := by rw [hE2]; simp (config := { maxSteps := 1000000 }) only [go_sem, f7, appendA_U]
    have a8 : E2 8 = .ptr PB 0 0 := by rw [hE2]; simp (config := { maxSteps := 1000000 }) only [go_sem, f8, appendA_U]
    have a9 : E2 9 = .ptr LeB 0 0 := by rw [hE2]; simp (config := { maxSteps := 1000000 }) only [go_sem, f9, appendA_U]
    have a15 : E2 15 = .ptr NT 0 0 := by rw [hE2]; simp (config := { maxSteps := 1000000 }) only [go_sem, f15, appendA_U]
    have a16 : E2 16 = lin v := by rw [hE2]; simp (config := { maxSteps := 1000000 }) only [go_sem, f16, appendA_U]
    have a18 : E2 18 = .ptr Hr.next 0 0 := by rw [hE2]; simp (config := { maxSteps := 1000000 }) only [go_sem, f18, appendA_U]
    have a19 : E2 19 = .yld m := by rw [hE2]; simp (config := { maxSteps := 1000000 }) only [go_sem, appendA_U]
    have a20 : E2 20 = lin R := by rw [hE2, hR]; simp (config := { maxSteps := 1000000 }) only [go_sem, appendA_U]
    clear hE2
    have o4n := o4.next
    have h4 : ∀ id, id < Hr.next → H4.get id = Hr.get id := fun id h => (o4.old id (by omega)).trans (o1.old id h)
    have g418 : H4.get Hr.next = some (.arr 0 91 [.lit (.int .i64 c), .vec P.length (ints P), .lit (.slice none 0 0)]) := (o4.old _ (by omega)).trans g18
    refine W.midN (fun s' => s'.ρ 15 = .ptr NT 0 0 ∧ s'.ρ 16 = lin v ∧ s'.ρ 18 = .ptr Hr.next 0 0 ∧ H4.next ≤ s'.H.next ∧ (∀ id, id < H4.next → id ≠ Hr.next → s'.H.get id = H4.get id) ∧ ∃ (rv : AVal) (rows : List (List Int)), s'.H.get Hr.next = some (.arr 0 91 [.lit (.int .i64 c), .vec P.length (ints P), rv]) ∧ OwnD2 H4.next s'.H 22 3 rv (rows.map ints) ∧ rows.length = R ∧ ∀ (j : Nat) (r : List Int), rows[j]? = some r → ShareOk least (spareOf grain least (T j)) (T j) r) ?_ ?_
    · refine W.seq (vc_sound _ _ _ (by rfl) ?_)
      simp (config := { maxSteps := 1000000 }) only [go_sem, a20, appendA_U]
      refine W.block ?_
      refine W.loop0 1393796574908005490020953863365335571234816 (by rfl) (fun ρ Hy => ∃ (j : Nat) (rv : AVal) (rows : List (List Int)), ρ 97 = lin j ∧ j ≤ R ∧ H4.next ≤ Hy.next ∧ (∀ id, id < H4.next → id ≠ Hr.next → Hy.get id = H4.get id) ∧ Hy.get Hr.next = some (.arr 0 91 [.lit (.int .i64 c), .vec P.length (ints P), rv]) ∧ OwnD2 H4.next Hy 22 3 rv (rows.map ints) ∧ rows.length = j ∧ ∀ (i : Nat) (r : List Int), rows[i]? = some r → ShareOk least (spareOf grain least (T i)) (T i) r) (fun ρ H => R - (iv (ρ 97)).toNat) ?_ ?_
      · simp (config := { maxSteps := 1000000 }) only [go_sem, appendA_U]
        exact ⟨0, _, [], rfl, by omega, g418, .nil, rfl, fun i r h => by simp at h⟩
      rintro ρ Hy ⟨j, rv, rows, h97, hj, hny, holdy, gy, hD2, hrl, hrow⟩
      refine W.env fun E3 hE3 => ?_
      have b7 : E3 7 = .ptr GB 0 0 := by rw [hE3]; simp (config := { maxSteps := 1000000 }) only [go_sem, a7, appendA_U]
      have b8 : E3 8 = .ptr PB 0 0 := by rw [hE3]; simp (config := { maxSteps := 1000000 }) only [go_sem, a8, appendA_U]
      have b9 : E3 9 = .ptr LeB 0 0 := by rw [hE3]; simp (config := { maxSteps := 1000000 }) only [go_sem, a9, appendA_U]
      have b15 : E3 15 = .ptr NT 0 0 := by rw [hE3]; simp (config := { maxSteps := 1000000 }) only [go_sem, a15, appendA_U]
      have b16 : E3 16 = lin v := by rw [hE3]; simp (config := { maxSteps := 1000000 }) only [go_sem, a16, appendA_U]
      have b18 : E3 18 = .ptr Hr.next 0 0 := by rw [hE3]; simp (config := { maxSteps := 1000000 }) only [go_sem, a18, appendA_U]
      have b19 : E3 19 = .yld m := by rw [hE3]; simp (config := { maxSteps := 1000000 }) only [go_sem, a19, appendA_U]
      have b96 : E3 96 = lin R := by rw [hE3]; simp (config := { maxSteps := 1000000 }) only [go_sem, a20, appendA_U]
      have b97 : E3 97 = lin j := by rw [hE3]; simp (config := { maxSteps := 1000000 }) only [go_sem, h97, appendA_U]
      clear hE3
      have ly := get_live gy
      by_cases hb : (j : Int) < R
      rotate_left
      · refine vc_sound _ _ _ (by rfl) ?_
        simp (config := { maxSteps := 1000000 }) only [go_sem, b15, b16, b18, b96, b97, hb, appendA_U]
        exact ⟨hny, holdy, rv, rows, gy, hD2, by omega, hrow⟩
      refine W.seq (vc_sound _ _ _ (by rfl) ?_)
      simp (config := { maxSteps := 1000000 }) only [go_sem, b96, b97, hb, appendA_U]
      refine W.seq (vc_sound _ _ _ (by rfl) ?_)
      simp (config := { maxSteps := 1000000 }) only [go_sem, appendA_U]
      refine W.seq (W.block ?_)
      refine W.seq (vc_sound _ _ _ (by rfl) ?_)
      simp (config := { maxSteps := 1000000 }) only [go_sem, b97, appendA_U]
      refine W.seq (vc_sound _ _ _ (by rfl) ?_)
      simp (config := { maxSteps := 1000000 }) only [go_sem, b18, ly, ← hcn', appendA_U]
      refine ⟨by omega, ?_⟩
      obtain ⟨Hc, hHc⟩ : ∃ Hc, Hc = ext Hy [.arr 0 3 (List.replicate cn (AVal.lit (.int .i64 0)))] := ⟨_, rfl⟩
      have nc : Hc.next = Hy.next + 1 := by rw [hHc]; rfl
      have oc : Over Hy Hc := by rw [hHc]; exact .ext _ _
      have gc0 : Hc.get Hy.next = some (.arr 0 3 (ints (List.replicate cn 0))) := by rw [hHc, show ints (List.replicate cn 0) = List.replicate cn (AVal.lit (.int .i64 0)) by simp [ints, lin]]; exact ext1_get_new
      refine W.env fun E4 hE4 => ?_
      have d7 : E4 7 = .ptr GB 0 0 := by rw [hE4]; simp (config := { maxSteps := 1000000 }) only [go_sem, b7, appendA_U]
      have d8 : E4 8 = .ptr PB 0 0 := by rw [hE4]; simp (config := { maxSteps := 1000000 }) only [go_sem, b8, appendA_U]
      have d9 : E4 9 = .ptr LeB 0 0 := by rw [hE4]; simp (config := { maxSteps := 1000000 }) only [go_sem, b9, appendA_U]
      have d15 : E4 15 = .ptr NT 0 0 := by rw [hE4]; simp (config := { maxSteps := 1000000 }) only [go_sem, b15, appendA_U]
      have d16 : E4 16 = lin v := by rw [hE4]; simp (config := { maxSteps := 1000000 }) only [go_sem, b16, appendA_U]
      have d18 : E4 18 = .ptr Hr.next 0 0 := by rw [hE4]; simp (config := { maxSteps := 1000000 }) only [go_sem, b18, appendA_U]
      have d19 : E4 19 = .yld m := by rw [hE4]; simp (config := { maxSteps := 1000000 }) only [go_sem, b19, appendA_U]
      have d21 : E4 21 = lin j := by rw [hE4]; simp (config := { maxSteps := 1000000 }) only [go_sem, b97, appendA_U]
      have d22 : E4 22 = .own Hy.next 0 0 cn 1 := by rw [hE4]; simp (config := { maxSteps := 1000000 }) only [go_sem, appendA_U]
      have d96 : E4 96 = lin R := by rw [hE4]; simp (config := { maxSteps := 1000000 }) only [go_sem, b96, appendA_U]
      have d97 : E4 97 = lin j := by rw [hE4]; simp (config := { maxSteps := 1000000 }) only [go_sem, b97, appendA_U]
      clear hE4
      rw [← hHc]
      clear hHc
      have hpl : ∀ id, id < Hr.next → Hc.get id = Hr.get id := fun id h => (oc.old id (by omega)).trans ((holdy id (by omega) (by omega)).trans (h4 id h))
      refine W.midN (fun s' => s'.ρ 7 = .ptr GB 0 0 ∧ s'.ρ 9 = .ptr LeB 0 0 ∧ s'.ρ 15 = .ptr NT 0 0 ∧ s'.ρ 16 = lin v ∧ s'.ρ 18 = .ptr Hr.next 0 0 ∧ s'.ρ 22 = .own Hy.next 0 0 cn 1 ∧ s'.ρ 96 = lin R ∧ s'.ρ 97 = lin j ∧ s'.H.next = Hc.next ∧ (∀ id, id < Hy.next → s'.H.get id = Hy.get id) ∧ s'.H.get Hy.next = some (.arr 0 3 (ints (T j)))) ?_ ?_
      · have lc0 := get_live gc0
        refine W.seq (vc_sound _ _ _ (by rfl) ?_)
        simp (config := { maxSteps := 1000000 }) only [go_sem, d22, lc0, appendA_U]
        refine W.block ?_
        refine W.loop0 5316871418320456188274380346627194880 (by rfl) (fun ρ2 Hz => ∃ (k : Nat) (C2 : List Int), ρ2 105 = lin k ∧ k ≤ cn ∧ Hz.next = Hc.next ∧ (∀ id, id < Hy.next → Hz.get id = Hy.get id) ∧ Hz.get Hy.next = some (.arr 0 3 (ints C2)) ∧ C2.length = cn ∧ C2.take k = (T j).take k) (fun ρ2 H => cn - (iv (ρ2 105)).toNat) ?_ ?_
        · simp (config := { maxSteps := 1000000 }) only [go_sem, appendA_U]
          exact ⟨0, _, rfl, by omega, fun id h => oc.old id h, gc0, by simp, rfl⟩
        rintro ρ2 Hz ⟨k, C2, h105, hk, hnz, holdz, gz, hc2, htk⟩
        have hold2 : ∀ id, id < Hr.next → Hz.get id = Hr.get id := fun id h => (holdz id (by omega)).trans ((holdy id (by omega) (by omega)).trans (h4 id h))
        have rdz : RdIn Hz (some LB) := rdH _ ((hold2 _ hlt).trans hLB)
        refine W.env fun E5 hE5 => ?_
        have k7 : E5 7 = .ptr GB 0 0 := by rw [hE5]; simp (config := { maxSteps := 1000000 }) only [go_sem, d7, appendA_U]
        have k8 : E5 8 = .ptr PB 0 0 := by rw [hE5]; simp (config := { maxSteps := 1000000 }) only [go_sem, d8, appendA_U]
        have k9 : E5 9 = .ptr LeB 0 0 := by rw [hE5]; simp (config := { maxSteps := 1000000 }) only [go_sem, d9, appendA_U]
        have k15 : E5 15 = .ptr NT 0 0 := by rw [hE5]; simp (config := { maxSteps := 1000000 }) only [go_sem, d15, appendA_U]
        have k16 : E5 16 = lin v := by rw [hE5]; simp (config := { maxSteps := 1000000 }) only [go_sem, d16, appendA_U]
        have k18 : E5 18 = .ptr Hr.next 0 0 := by rw [hE5]; simp (config := { maxSteps := 1000000 }) only [go_sem, d18, appendA_U]
        have k19 : E5 19 = .yld m := by rw [hE5]; simp (config := { maxSteps := 1000000 }) only [go_sem, d19, appendA_U]
        have k21 : E5 21 = lin j := by rw [hE5]; simp (config := { maxSteps := 1000000 }) only [go_sem, d21, appendA_U]
        have k22 : E5 22 = .own Hy.next 0 0 cn 1 := by rw [hE5]; simp (config := { maxSteps := 1000000 }) only [go_sem, d22, appendA_U]
        have k96 : E5 96 = lin R := by rw [hE5]; simp (config := { maxSteps := 1000000 }) only [go_sem, d96, appendA_U]
        have k97 : E5 97 = lin j := by rw [hE5]; simp (config := { maxSteps := 1000000 }) only [go_sem, d97, appendA_U]
        have k104 : E5 104 = lin cn := by rw [hE5]; simp (config := { maxSteps := 1000000 }) only [go_sem, appendA_U]
        have k105 : E5 105 = lin k := by rw [hE5]; simp (config := { maxSteps := 1000000 }) only [go_sem, h105, appendA_U]
        clear hE5
        have lz := get_live gz
        have lz18 := get_live ((holdz _ (by omega)).trans gy)
        have lzP := get_live ((hold2 _ hids.2.2.1).trans gP)
        have gzm : Hz.get m = some (.mp es) := (holdz m (by omega)).trans ((holdy m (by omega) (by omega)).trans gm)
        refine vc_sound _ _ _ (by rfl) ?_
        by_cases hb3 : (k : Int) < cn
        rotate_left
        · simp (config := { maxSteps := 1000000 }) only [go_sem, k7, k9, k15, k16, k18, k22, k96, k97, k104, k105, hb3, appendA_U]
          obtain rfl : k = cn := by omega
          rw [List.take_of_length_le (by omega), List.take_of_length_le (by rw [Tl]; exact Nat.le_refl _)] at htk
          rw [htk] at gz
          exact ⟨hnz, holdz, gz⟩
        have ct := cntF_le cs P v xs ((j : Int) * c + k)
        have x40 := hd.x1
        have mj : 0 ≤ (j : Int) * c ∧ (j : Int) * c ≤ 4096 * 4 := ⟨Int.mul_nonneg (by omega) (by omega), Int.mul_le_mul (by omega) (by omega) (by omega) (by omega)⟩
        have u1 := IntWalk.i64_in ((j : Int) * c) (by omega)
        have u2 := IntWalk.i64_in ((j : Int) * c + k) (by omega)
        have u3 := IntWalk.i64_in (prior + (cntF cs P v xs ((j : Int) * c + k) : Int)) (by omega)
        have w1 := IntWalk.i64_in ((k : Int) + 1) (by omega)
        have isM : isIntMap Tryd.prog 119 = true := by kernel_rfl
        have hlk : lookupA Tryd.prog Hz 119 (.yld m) (.lit (.int .i64 ((j : Int) * c + k))) false = some (.lit (.int .i64 (cntF cs P v xs ((j : Int) * c + k) : Int))) := by
          unfold lookupA
          rw [if_pos isM]
          simp only [gzm]
          rw [mpRes_V, hes]
        have hkc2 : (k : Int) < C2.length := by omega
        simp (config := { maxSteps := 1000000 }) only [go_sem, k8, k18, k19, k21, k22, k104, k105, hb3, lz, lz18, lzP, u1, u2, hlk, u3, hc2, w1, appendA_U]
        refine ⟨by omega, by rw [upd_next]; omega, rdH _ (by rw [upd_get, if_neg (by omega)]; exact (hold2 _ hlt).trans hLB), ⟨k + 1, C2.set k (prior + (cntF cs P v xs ((j : Int) * c + k) : Int)), rfl, by omega, by rw [upd_next]; exact hnz, fun id h => by rw [upd_get, if_neg (by omega)]; exact holdz id h, by rw [upd_get, if_pos rfl, setAt_ints (by omega)], by rw [List.length_set]; exact hc2, take_set_eq htk (by omega) (Tg j k (by omega))⟩, by rw [h105]; simp only [lin, iv_int]; omega⟩
      rintro ⟨ρ2, Hz⟩ ⟨m7, m9, m15, m16, m18, m22, m96, m97, hnz, holdz, gz⟩
      simp only at m7 m9 m15 m16 m18 m22 m96 m97 hnz holdz gz
      have hold2 : ∀ id, id < Hr.next → Hz.get id = Hr.get id := fun id h => (holdz id (by omega)).trans ((holdy id (by omega) (by omega)).trans (h4 id h))
      have lzG := get_live ((hold2 _ hids.2.1).trans gG)
      have lzL := get_live ((hold2 _ hids.2.2.2.1).trans gL)
      refine W.seq (vc_sound _ _ _ (by rfl) ?_)
      simp (config := { maxSteps := 1000000 }) only [go_sem, m7, m9, m22, lzG, lzL, appendA_U]
      have lcc := lc c (List.mem_of_getElem? hcv)
      refine AApply.clo (round_own (Tl j) (by omega) (by omega) (fun x h => by have := Tr j x h; omega) (by omega) (by omega) Hz gz (by omega) _ (fun hbad => absurd hbad (by rw [hcn']; omega)) fun sh sv H5 hfit hS o5 hO5 => ⟨rdH _ ((o5.old _ (by omega)).trans ((hold2 _ hlt).trans hLB)), ?_⟩)
      have o5n := o5.next
      simp (config := { maxSteps := 1000000 }) only [go_sem, appendA_U]
      have hold5 : ∀ id, id < Hy.next → H5.get id = Hy.get id := fun id h => (o5.old id (by omega)).trans (holdz id h)
      have o5y : Over Hy H5 := ⟨by omega, hold5⟩
      have hsv : OwnG Hy.next H5 3 sv (ints sh) := hO5.keep (by omega) (Nat.le_refl _) fun _ _ _ _ _ _ => rfl
      obtain ⟨rv2, H6, hA, hD6, hn6, hp⟩ := OwnD2.app (P := Tryd.prog) (n := H5.next + 1) (t := 48) Tryd.underlying48 Tryd.cells22 Tryd.zero22 Tryd.bytes22 (by decide) (by rw [List.length_map]; omega) hD2 o5y hny hsv rfl
      have l5 := get_live ((hold5 Hr.next (by omega)).trans gy)
      have l5e : ∀ L, (ext H5 L).live Hr.next 0 = _ := fun L => (ext_live_old (by omega)).trans l5
      have l6 : H6.live Hr.next 0 = _ := get_live ((hp _ (by omega) (by omega)).trans ((hold5 Hr.next (by omega)).trans gy))
      have svo := hO5.one
      have svc := hO5.cells
      obtain ⟨rvo, rvc⟩ := ownD2_one hD6
      have w1 := IntWalk.i64_in ((j : Int) + 1) (by omega)
      refine vc_sound _ _ _ (by rfl) ?_
      simp (config := { maxSteps := 1000000 }) only [go_sem, m18, l5, l5e, l6, svo, svc, hA, rvo, rvc]
      refine vc_sound _ _ _ (by rfl) ?_
      simp (config := { maxSteps := 1000000 }) only [go_sem, m97, w1, appendA_U]
      refine ⟨by rw [upd_next]; omega, rdH _ (by rw [upd_get, if_neg (by omega), hp _ (by omega) (by omega), hold5 _ (by omega), holdy _ (by omega) (by omega), h4 _ hlt]; exact hLB), ⟨j + 1, rv2, rows ++ [sh], rfl, by omega, by rw [upd_next]; omega, fun id h1 h2 => by rw [upd_get, if_neg h2, hp _ (by omega) h1, hold5 _ (by omega)]; exact holdy id h1 h2, by rw [upd_get, if_pos rfl, hcn'], ?_, by simp [hrl], fun i r hr => ?_⟩, by rw [h97]; simp only [lin, iv_int]; omega⟩
      · rw [List.map_append]
        exact ownD2_upd hD6 (by omega)
      · rcases Nat.lt_or_ge i rows.length with h | h
        · rw [List.getElem?_append_left h] at hr
          exact hrow i r hr
        · have := get_lt hr
          rw [List.length_append, List.length_singleton] at this
          obtain rfl : i = j := by omega
          rw [List.getElem?_append_right h, hrl, Nat.sub_self] at hr
          cases hr
          exact hS
    rintro ⟨ρ3, H7⟩ ⟨q15, q16, q18, n7, hold7, rv, rows, g7, hD7, hrl, hrow⟩
    simp only at q15 q16 q18 n7 hold7 g7 hD7
    have hold8 : ∀ id, id < Hr.next → H7.get id = Hr.get id := fun id h => (hold7 id (by omega) (by omega)).trans (h4 id h)
    have l7 := get_live g7
    have lT7 := get_live ((hold8 _ hids.2.2.2.2.1).trans gT)
    have lB7 := get_live ((hold8 _ hids.2.2.2.2.2).trans gB)
    obtain ⟨rvo, rvc⟩ := ownD2_one hD7
    have hvn : (v : Int) < n := by omega
    have hCv : v * 3 + 3 ≤ C.length := by omega
    refine vc_sound _ _ _ (by rfl) ?_
    simp (config := { maxSteps := 1000000 }) only [go_sem, q15, q16, q18, l7, lT7, lB7, rvo, rvc, hvn, hCv, appendA_U]
    exact ⟨by rw [upd_next]; omega, fun id h1 h2 => by rw [upd_get, if_neg h2]; exact hold8 id h1, rv, rows, by rw [upd_get, if_pos rfl], ownD2_upd (hD7.lo (by omega)) hids.2.2.2.2.2, hrl, hrow⟩
  · rintro e ⟨ρ2, Hb⟩ ⟨rfl, qn, qold, rv, rows, qB, qD, qrl, qrow⟩
    simp only at qn qold qB qD
    have hob : (setAt C (v * 3) [lin c, vecI P, vecV rows]).length = (setAt C (v * 3) [lin c, vecI P, rv]).length := by simp [setAt]
    refine ⟨⟨ρ2, Hb.meltN Hr.next NB (.arr 0 91 (setAt C (v * 3) [lin c, vecI P, vecV rows]))⟩, WeakS.meltN G0_ok qB hids.2.2.2.2.2 hob ?_, Nat.le_refl _, rdH _ (by show (Hb.meltN _ _ _).get LB = _; rw [meltN_other hlt (fun e => hne.1 e.symm)]; exact (qold _ hlt (fun e => hne.1 e.symm)).trans hLB), ?_⟩
    · have hfz : Fz (fun id => Hr.next ≤ id) Hb Hb.next rv (vecV rows) := fz_rows qD.toG fun i h => h
      have e1 : setAt C (v * 3) [lin c, vecI P, rv] = (C.take (v * 3) ++ [lin c, vecI P]) ++ rv :: C.drop (v * 3 + 3) := by simp [setAt]
      have e2 : setAt C (v * 3) [lin c, vecI P, vecV rows] = (C.take (v * 3) ++ [lin c, vecI P]) ++ vecV rows :: C.drop (v * 3 + 3) := by simp [setAt]
      rw [e1, e2]
      refine fz_mid (fun z hz => ?_) hfz fun z hz => hCf z (List.mem_of_mem_drop hz) _ _ _
      rcases List.mem_append.1 hz with hz | hz
      · exact hCf z (List.mem_of_mem_take hz) _ _ _
      · simp only [List.mem_cons, List.not_mem_nil, or_false] at hz
        rcases hz with rfl | rfl
        · exact .lit _
        · exact .keepInts _
    · refine ⟨by show (Hb.meltN _ _ _).get LB = _; rw [meltN_other hlt (fun e => hne.1 e.symm)]; exact (qold _ hlt (fun e => hne.1 e.symm)).trans hLB, by show lo ≤ Hb.next; omega, ?_⟩
      refine hJ _ ⟨c, P, rows⟩ ⟨by rw [hcd], hP, by rw [← hP]; show (rows.length : Int) = _; rw [qrl, hR], fun j r hr => ?_⟩ (by show Hr.next ≤ Hb.next; exact qn) (fun id h1 h2 => by rw [meltN_other h1 h2]; exact qold id h1 h2) (meltN_ob hids.2.2.2.2.2)
      have := qrow j r hr
      rw [hT, hP] at this
      exact this
def zeroN (n : Nat) : List AVal := (List.replicate n [AVal.lit (.int .i64 0), .lit (.slice none 0 0), .lit (.slice none 0 0)]).flatten
theorem zeroN_succ (n : Nat) : zeroN (n + 1) = [AVal.lit (.int .i64 0), .lit (.slice none 0 0), .lit (.slice none 0 0)] ++ zeroN n := by unfold zeroN; rw [List.replicate_succ, List.flatten_cons]
theorem zeroN_len : ∀ n : Nat, (zeroN n).length = n * 3
  | 0 => rfl
  | n + 1 => by rw [zeroN_succ, List.length_append, zeroN_len n]; simp; omega
def fitC (n : Nat) (ns : List NodeP) : List AVal := nodesC ns ++ zeroN (n - ns.length)
theorem fitC_len {n : Nat} {ns : List NodeP} (h : ns.length ≤ n) : (fitC n ns).length = n * 3 := by unfold fitC; rw [List.length_append, nodesC_len, zeroN_len, ← Nat.add_mul]; congr 1; omega
theorem fitC_set {n : Nat} {ns : List NodeP} {x : NodeP} (h : ns.length < n) : setAt (fitC n ns) (ns.length * 3) x.cells = fitC n (ns ++ [x]) := by
  obtain ⟨k, hk⟩ : ∃ k, n - ns.length = k + 1 := ⟨n - ns.length - 1, by omega⟩
  have hk2 : n - (ns ++ [x]).length = k := by simp; omega
  have hl := nodesC_len ns
  unfold fitC setAt
  rw [hk, hk2, zeroN_succ, show nodesC (ns ++ [x]) = nodesC ns ++ x.cells by unfold nodesC; simp]
  rw [List.take_append_of_le_length (by omega), List.take_of_length_le (by omega), List.drop_append, List.drop_of_length_le (by rw [hl]; omega), List.nil_append]
  congr 1
  rw [show ns.length * 3 + x.cells.length - (nodesC ns).length = 3 by rw [hl]; show ns.length * 3 + 3 - _ = 3; omega]
  rfl
theorem fitC_fz {n : Nat} {ns : List NodeP} : ∀ c ∈ fitC n ns, ∀ (S : Nat → Prop) (Hz : AHeap) (nx : Nat), Fz S Hz nx c c := fun c hc S Hz nx => by
  unfold fitC at hc
  rcases List.mem_append.1 hc with hc | hc
  · unfold nodesC at hc
    obtain ⟨r, hr, hc⟩ := List.mem_flatten.1 hc
    obtain ⟨x, _, rfl⟩ := List.mem_map.1 hr
    unfold NodeP.cells at hc
    simp only [List.mem_cons, List.not_mem_nil, or_false] at hc
    rcases hc with rfl | rfl | rfl
    · exact .lit _
    · exact .keepInts _
    · exact fz_vecV _
  · unfold zeroN at hc
    obtain ⟨r, hr, hc⟩ := List.mem_flatten.1 hc
    obtain rfl := List.eq_of_mem_replicate hr
    simp only [List.mem_cons, List.not_mem_nil, or_false] at hc
    rcases hc with rfl | rfl | rfl <;> exact .lit _
theorem fitC_all (ns : List NodeP) : fitC ns.length ns = nodesC ns := by unfold fitC; rw [Nat.sub_self]; exact List.append_nil _
theorem fz_netT {S : Nat → Prop} {H : AHeap} {nx : Nat} {g e : Int} {nv : AVal} {ns : List NodeP} (h : Fz S H nx nv (nodesV ns)) : Fz S H nx (.tup [.agg [.lit (.int .i64 g), nv], .lit (.int .i64 e)]) (.tup [netV g ns, lin e]) := by
  refine .tup rfl fun i hi _ => ?_
  match i, hi with
  | 0, _ =>
    refine .agg rfl fun i hi _ => ?_
    match i, hi with
    | 0, _ => exact .lit _
    | 1, _ => exact h
  | 1, _ => exact .lit _
theorem want_card {cs : List Int} {grain least : Int} (hc : ∀ c ∈ cs, 2 ≤ c ∧ c ≤ 4) : (∀ c ∈ cs, least ≤ grain / c) ↔ ∀ c ∈ cs, least * c ≤ grain := by
  constructor
  · intro h c hm
    exact (Int.le_ediv_iff_mul_le (by have := hc c hm; omega)).1 (h c hm)
  · intro h c hm
    exact (Int.le_ediv_iff_mul_le (by have := hc c hm; omega)).2 (h c hm)
set_option maxHeartbeats 4000000 in
theorem fit_spec (cs : List Int) (xs : List (List Int)) (hf : DataFit cs xs) (ps : List Nat) (hpl : (ps.length : Int) < 2 ^ 39) (hp : ∀ p ∈ ps, p < 2 ^ 64) (grain prior least : Int) (H : AHeap) (K : ARes → AHeap → Prop)
    (hK : ∀ g ns, (fitE cs xs ps grain prior least = 0 → g = grain ∧ FitK cs xs ps grain prior least ps.length ns) → (fitE cs xs ps grain prior least ≠ 0 → g = 0 ∧ ns = []) → K (.ret (.tup [netV g ns, lin (fitE cs xs ps grain prior least)])) H) :
    ACall Tryd.prog G0 19 [dataV cs xs, vecB ps, lin grain, lin prior, lin least] H K := by
  refine ACall.clo ⟨_, Tryd.func19, rfl, rfl⟩ fun hcl => ?_
  have hf' := hf
  obtain ⟨f1, f2, f3⟩ := hf
  have fail : ∀ (c : Int) (Hx : AHeap), fitE cs xs ps grain prior least = c → c ≠ 0 → Over H Hx → FinV Tryd.prog G0 H K (.tup [.agg [.lit (.int .i64 0), .lit (.slice none 0 0)], .lit (.int .i64 c)]) Hx := fun c Hx h h0 o => by
    have := hK 0 [] (fun e => absurd (h.symm.trans e) h0) (fun _ => ⟨rfl, rfl⟩)
    rw [h] at this
    exact FinV.dropO G0_ok hcl o (fz_netT .nil) this
  refine ACall.of_bodyW (n := 146) (rs := [.cell 10 61, .cell 11 27]) Tryd.func19 rfl rfl rfl (by decide) (by simp) ?_
  refine W.seq (vc_sound _ _ _ (by rfl) ?_)
  simp (config := { maxSteps := 1000000 }) only [go_sem, dataV, vecV, appendA_U]
  obtain ⟨H1, hH1⟩ : ∃ H1, H1 = ext H [.arr 0 50 [vecI cs, vecV xs], .arr 0 3 [lin grain], .arr 0 3 [lin prior], .arr 0 3 [lin least], .arr 0 61 [.lit (.int .i64 0), .lit (.slice none 0 0)], .arr 0 27 [.lit (.int .i64 0)]] := ⟨_, rfl⟩
  have b0 : H1.get H.next = some (.arr 0 50 [vecI cs, vecV xs]) := by rw [hH1]; exact get_ext0 ..
  have b1 : H1.get (H.next + 1) = some (.arr 0 3 [lin grain]) := by rw [hH1]; exact get_ext H _ 1 (by simp)
  have b2 : H1.get (H.next + 2) = some (.arr 0 3 [lin prior]) := by rw [hH1]; exact get_ext H _ 2 (by simp)
  have b3 : H1.get (H.next + 3) = some (.arr 0 3 [lin least]) := by rw [hH1]; exact get_ext H _ 3 (by simp)
  have b4 : H1.get (H.next + 4) = some (.arr 0 61 [.lit (.int .i64 0), .lit (.slice none 0 0)]) := by rw [hH1]; exact get_ext H _ 4 (by simp)
  have b5 : H1.get (H.next + 5) = some (.arr 0 27 [.lit (.int .i64 0)]) := by rw [hH1]; exact get_ext H _ 5 (by simp)
  have n1 : H1.next = H.next + 6 := by rw [hH1]; rfl
  have o1 : Over H H1 := by rw [hH1]; exact .ext _ _
  refine W.env fun E hE => ?_
  have e1 : E 1 = vecB ps := by rw [hE]; simp (config := { maxSteps := 1000000 }) only [go_sem, appendA_U]
  have e5 : E 5 = .ptr H.next 0 0 := by rw [hE]; simp (config := { maxSteps := 1000000 }) only [go_sem, appendA_U]
  have e7 : E 7 = .ptr (H.next + 1) 0 0 := by rw [hE]; simp (config := { maxSteps := 1000000 }) only [go_sem, appendA_U]
  have e8 : E 8 = .ptr (H.next + 2) 0 0 := by rw [hE]; simp (config := { maxSteps := 1000000 }) only [go_sem, appendA_U]
  have e9 : E 9 = .ptr (H.next + 3) 0 0 := by rw [hE]; simp (config := { maxSteps := 1000000 }) only [go_sem, appendA_U]
  have e10 : E 10 = .ptr (H.next + 4) 0 0 := by rw [hE]; simp (config := { maxSteps := 1000000 }) only [go_sem, appendA_U]
  have e11 : E 11 = .ptr (H.next + 5) 0 0 := by rw [hE]; simp (config := { maxSteps := 1000000 }) only [go_sem, appendA_U]
  clear hE
  show W _ _ _ _ _ _ ⟨E, ext H [.arr 0 50 [vecI cs, vecV xs], .arr 0 3 [lin grain], .arr 0 3 [lin prior], .arr 0 3 [lin least], .arr 0 61 [.lit (.int .i64 0), .lit (.slice none 0 0)], .arr 0 27 [.lit (.int .i64 0)]]⟩
  rw [← hH1]
  clear hH1
  have l0 := get_live b0
  have l1 := get_live b1
  have l2 := get_live b2
  have l3 := get_live b3
  have l4 := get_live b4
  have l5 := get_live b5
  have u5 : ∀ b, (H1.upd (H.next + 4) b).live (H.next + 5) 0 = _ := fun b => (live_upd_other (by omega)).trans l5
  have u4 : ∀ b c, ((H1.upd (H.next + 4) b).upd (H.next + 5) c).live (H.next + 4) 0 = (H1.upd (H.next + 4) b).live (H.next + 4) 0 := fun b c => live_upd_other (by omega)
  have oF : ∀ b c, Over H ((H1.upd (H.next + 4) b).upd (H.next + 5) c) := fun b c => (o1.upd (by omega) _).upd (by omega) _
  refine W.seq (vc_sound _ _ _ (by rfl) ?_)
  simp (config := { maxSteps := 1000000 }) only [go_sem, e5, l0, appendA_U]
  refine AApply.clo (check25_spec cs xs hf' _ _ ⟨trivial, ?_⟩)
  cases hD : dataB cs xs
  · simp (config := { maxSteps := 1000000 }) only [go_sem, e10, e11, l4, l5, u5, u4, appendA_U]
    exact fail 250 _ (fitE_data hD) (by decide) (oF _ _)
  simp (config := { maxSteps := 1000000 }) only [go_sem, appendA_U]
  have dok := dataB_iff.1 hD
  have c6 := dok.c1
  have bad : ¬ (GraphOk ps cs.length ∧ WantOk cs grain prior least) → ∀ b c, FinV Tryd.prog G0 H K (.tup [.agg [.lit (.int .i64 0), .lit (.slice none 0 0)], .lit (.int .i64 2)]) ((H1.upd (H.next + 4) b).upd (H.next + 5) c) := fun h b c => fail 2 _ (fitE_arg hD h) (by decide) (oF b c)
  refine W.seq (vc_sound _ _ _ (by rfl) ?_)
  simp (config := { maxSteps := 1000000 }) only [go_sem, e1, e5, l0, appendA_U]
  refine AApply.clo (isGraph_spec ps cs.length c6 hpl hp _ _ ⟨trivial, ?_⟩)
  cases hG : graphB ps cs.length
  · simp (config := { maxSteps := 1000000 }) only [go_sem, e10, e11, l4, l5, u5, u4, guardA_undef, appendA_U]
    exact bad (fun h => by rw [graphB_true h.1] at hG; cases hG) _ _
  have gok := graphB_iff.1 hG
  by_cases c1 : grain < 1
  · simp (config := { maxSteps := 1000000 }) only [go_sem, e7, l1, e10, e11, l4, l5, u5, u4, c1, guardA_undef, appendA_U]
    exact bad (fun h => by have := h.2.1; omega) _ _
  by_cases c2 : grain > 60
  · simp (config := { maxSteps := 1000000 }) only [go_sem, e7, l1, e10, e11, l4, l5, u5, u4, c1, c2, guardA_undef, appendA_U]
    exact bad (fun h => by have := h.2.1; omega) _ _
  simp (config := { maxSteps := 1000000 }) only [go_sem, e7, l1, c1, c2, guardA_undef, appendA_U]
  refine W.env fun E2 hE2 => ?_
  have a1 : E2 1 = vecB ps := by rw [hE2]; simp (config := { maxSteps := 1000000 }) only [go_sem, e1, appendA_U]
  have a5 : E2 5 = .ptr H.next 0 0 := by rw [hE2]; simp (config := { maxSteps := 1000000 }) only [go_sem, e5, appendA_U]
  have a7 : E2 7 = .ptr (H.next + 1) 0 0 := by rw [hE2]; simp (config := { maxSteps := 1000000 }) only [go_sem, e7, appendA_U]
  have a8 : E2 8 = .ptr (H.next + 2) 0 0 := by rw [hE2]; simp (config := { maxSteps := 1000000 }) only [go_sem, e8, appendA_U]
  have a9 : E2 9 = .ptr (H.next + 3) 0 0 := by rw [hE2]; simp (config := { maxSteps := 1000000 }) only [go_sem, e9, appendA_U]
  have a10 : E2 10 = .ptr (H.next + 4) 0 0 := by rw [hE2]; simp (config := { maxSteps := 1000000 }) only [go_sem, e10, appendA_U]
  have a11 : E2 11 = .ptr (H.next + 5) 0 0 := by rw [hE2]; simp (config := { maxSteps := 1000000 }) only [go_sem, e11, appendA_U]
  clear hE2
  refine W.seq (vc_sound _ _ _ (by rfl) ?_)
  by_cases c3 : prior < 0
  · simp (config := { maxSteps := 1000000 }) only [go_sem, a8, l2, a10, a11, l4, l5, u5, u4, c3, guardA_undef, appendA_U]
    exact bad (fun h => by have := h.2.2.1; omega) _ _
  by_cases c4 : prior > 10
  · simp (config := { maxSteps := 1000000 }) only [go_sem, a8, l2, a10, a11, l4, l5, u5, u4, c3, c4, guardA_undef, appendA_U]
    exact bad (fun h => by have := h.2.2.1; omega) _ _
  by_cases c5 : least < 0
  · simp (config := { maxSteps := 1000000 }) only [go_sem, a8, a9, l2, l3, a10, a11, l4, l5, u5, u4, c3, c4, c5, guardA_undef, appendA_U]
    exact bad (fun h => by have := h.2.2.2.1; omega) _ _
  simp (config := { maxSteps := 1000000 }) only [go_sem, a8, a9, l2, l3, c3, c4, c5, guardA_undef, appendA_U]
  refine W.env fun E3 hE3 => ?_
  have d1 : E3 1 = vecB ps := by rw [hE3]; simp (config := { maxSteps := 1000000 }) only [go_sem, a1, appendA_U]
  have d5 : E3 5 = .ptr H.next 0 0 := by rw [hE3]; simp (config := { maxSteps := 1000000 }) only [go_sem, a5, appendA_U]
  have d7 : E3 7 = .ptr (H.next + 1) 0 0 := by rw [hE3]; simp (config := { maxSteps := 1000000 }) only [go_sem, a7, appendA_U]
  have d8 : E3 8 = .ptr (H.next + 2) 0 0 := by rw [hE3]; simp (config := { maxSteps := 1000000 }) only [go_sem, a8, appendA_U]
  have d9 : E3 9 = .ptr (H.next + 3) 0 0 := by rw [hE3]; simp (config := { maxSteps := 1000000 }) only [go_sem, a9, appendA_U]
  have d10 : E3 10 = .ptr (H.next + 4) 0 0 := by rw [hE3]; simp (config := { maxSteps := 1000000 }) only [go_sem, a10, appendA_U]
  have d11 : E3 11 = .ptr (H.next + 5) 0 0 := by rw [hE3]; simp (config := { maxSteps := 1000000 }) only [go_sem, a11, appendA_U]
  clear hE3
  refine W.seq (vc_sound _ _ _ (by rfl) ?_)
  simp (config := { maxSteps := 1000000 }) only [go_sem, d5, l0, appendA_U]
  refine W.loop0 4720060639860431536128 (by rfl) (fun ρ H' => H' = H1 ∧ ∃ k : Nat, ρ 61 = lin k ∧ k ≤ cs.length ∧ ∀ c ∈ cs.take k, least ≤ grain / c) (fun ρ H => cs.length - (iv (ρ 61)).toNat) ?_ ?_
  · simp (config := { maxSteps := 1000000 }) only [go_sem, appendA_U]
    exact ⟨0, rfl, by omega, by simp⟩
  rintro ρ H' ⟨rfl, k, h61, hk, hall⟩
  refine vc_sound _ _ _ (by rfl) ?_
  by_cases hb : (k : Int) < cs.length
  · obtain ⟨c, hc⟩ := get_of_lt (l := cs) (i := k) (by omega)
    have hcm := List.mem_of_getElem? hc
    have hcn := ne_of_get hc
    have c24 := dok.card c hcm
    have td : grain.tdiv c = grain / c := Int.tdiv_eq_ediv_of_nonneg (by omega)
    have cz : ¬ c = 0 := by omega
    have q1 : 0 ≤ grain / c := Int.ediv_nonneg (by omega) (by omega)
    have q2 : grain / c ≤ grain := Int.ediv_le_self _ (by omega)
    have wq := IntWalk.i64_in (grain / c) (by omega)
    simp (config := { maxSteps := 1000000 }) only [go_sem, h61, hb, hc, hcn, appendA_U]
    refine W.draw 4 [0, 0, 0, 6] Tryd.mixed (by kernel_rfl) (by kernel_rfl) ?_
    by_cases hle : least > grain / c
    · simp (config := { maxSteps := 1000000 }) only [go_sem, d7, d9, d10, d11, l1, l3, l4, l5, u5, u4, td, cz, wq, hle, appendA_U]
      exact bad (fun h => by have := (want_card dok.card).2 h.2.2.2.2 c hcm; omega) _ _
    · have w1 := IntWalk.i64_in ((k : Int) + 1) (by omega)
      simp (config := { maxSteps := 1000000 }) only [go_sem, d7, d9, l1, l3, td, cz, wq, hle, h61, w1, appendA_U]
      refine ⟨⟨k + 1, rfl, by omega, fun q hq => ?_⟩, by omega⟩
      rw [take_succ_get hc] at hq
      rcases List.mem_append.1 hq with hq | hq
      · exact hall q hq
      · obtain rfl := List.mem_singleton.1 hq; omega
  rw [List.take_of_length_le (by omega)] at hall
  have hlec := (want_card dok.card).1 hall
  have wok : WantOk cs grain prior least := by
    refine ⟨by omega, by omega, ⟨by omega, ?_⟩, hlec⟩
    obtain ⟨c, hc⟩ := get_of_lt (l := cs) (i := 0) (by omega)
    have h1 := hlec c (List.mem_of_getElem? hc)
    have h2 := dok.card c (List.mem_of_getElem? hc)
    have h3 : least * 1 ≤ least * c := Int.mul_le_mul_of_nonneg_left (by omega) (by omega)
    omega
  have hE0 := fitE_ok (xs := xs) hD ⟨gok, wok⟩
  simp (config := { maxSteps := 1000000 }) only [go_sem, h61, hb, appendA_U]
  refine W.env fun E4 hE4 => ?_
  have f1' : E4 1 = vecB ps := by rw [hE4]; simp (config := { maxSteps := 1000000 }) only [go_sem, d1, appendA_U]
  have f5 : E4 5 = .ptr H.next 0 0 := by rw [hE4]; simp (config := { maxSteps := 1000000 }) only [go_sem, d5, appendA_U]
  have f7 : E4 7 = .ptr (H.next + 1) 0 0 := by rw [hE4]; simp (config := { maxSteps := 1000000 }) only [go_sem, d7, appendA_U]
  have f8 : E4 8 = .ptr (H.next + 2) 0 0 := by rw [hE4]; simp (config := { maxSteps := 1000000 }) only [go_sem, d8, appendA_U]
  have f9 : E4 9 = .ptr (H.next + 3) 0 0 := by rw [hE4]; simp (config := { maxSteps := 1000000 }) only [go_sem, d9, appendA_U]
  have f10 : E4 10 = .ptr (H.next + 4) 0 0 := by rw [hE4]; simp (config := { maxSteps := 1000000 }) only [go_sem, d10, appendA_U]
  have f11 : E4 11 = .ptr (H.next + 5) 0 0 := by rw [hE4]; simp (config := { maxSteps := 1000000 }) only [go_sem, d11, appendA_U]
  clear hE4
  obtain ⟨n, hn⟩ : ∃ n, n = cs.length := ⟨_, rfl⟩
  rw [hn.symm] at c6
  refine W.seq ?_
  refine W.draw 7 [0, 0, 2, 6, 14, 31, 0] Tryd.mixed (by kernel_rfl) (by kernel_rfl) ?_
  simp (config := { maxSteps := 1000000 }) only [go_sem, f5, f7, l0, l1, hn.symm, appendA_U]
  refine ⟨⟨by omega, by omega⟩, fun _ h => by omega, ⟨fun _ h => by omega, fun _ h => by omega, fun _ h => by omega⟩, ?_⟩
  obtain ⟨H2, hH2⟩ : ∃ H2, H2 = ext (ext H' [.arr 0 91 (zeroN n)]) [.arr 0 61 [.lit (.int .i64 grain), .own H'.next 0 0 n 3]] := ⟨_, rfl⟩
  have n2 : H2.next = H'.next + 2 := by rw [hH2]; rfl
  have o2 : Over H' H2 := by rw [hH2]; exact (Over.ext _ _).trans (.ext _ _)
  have g6 : H2.get H'.next = some (.arr 0 91 (zeroN n)) := by rw [hH2, ext1_get_old (by rw [ext_next]; simp)]; exact ext1_get_new
  have g7 : H2.get (H'.next + 1) = some (.arr 0 61 [.lit (.int .i64 grain), .own H'.next 0 0 n 3]) := by rw [hH2]; exact ext1_get_new (H := ext H' [_])
  refine W.env fun E5 hE5 => ?_
  have h1 : E5 1 = vecB ps := by rw [hE5]; simp (config := { maxSteps := 1000000 }) only [go_sem, f1', appendA_U]
  have h5 : E5 5 = .ptr H.next 0 0 := by rw [hE5]; simp (config := { maxSteps := 1000000 }) only [go_sem, f5, appendA_U]
  have h7 : E5 7 = .ptr (H.next + 1) 0 0 := by rw [hE5]; simp (config := { maxSteps := 1000000 }) only [go_sem, f7, appendA_U]
  have h8 : E5 8 = .ptr (H.next + 2) 0 0 := by rw [hE5]; simp (config := { maxSteps := 1000000 }) only [go_sem, f8, appendA_U]
  have h9 : E5 9 = .ptr (H.next + 3) 0 0 := by rw [hE5]; simp (config := { maxSteps := 1000000 }) only [go_sem, f9, appendA_U]
  have h10 : E5 10 = .ptr (H.next + 4) 0 0 := by rw [hE5]; simp (config := { maxSteps := 1000000 }) only [go_sem, f10, appendA_U]
  have h11 : E5 11 = .ptr (H.next + 5) 0 0 := by rw [hE5]; simp (config := { maxSteps := 1000000 }) only [go_sem, f11, appendA_U]
  have h15 : E5 15 = .ptr (H'.next + 1) 0 0 := by rw [hE5]; simp (config := { maxSteps := 1000000 }) only [go_sem, appendA_U]
  clear hE5
  show W _ _ _ _ _ _ ⟨E5, ext (ext H' [.arr 0 91 (zeroN n)]) [.arr 0 61 [.lit (.int .i64 grain), .own H'.next 0 0 n 3]]⟩
  rw [← hH2]
  clear hH2
  refine W.seq (vc_sound _ _ _ (by rfl) ?_)
  simp (config := { maxSteps := 1000000 }) only [go_sem, h1, appendA_U]
  refine AApply.clo (fam_clo ps _ _ ⟨trivial, ?_⟩)
  simp (config := { maxSteps := 1000000 }) only [go_sem, appendA_U]
  obtain ⟨H3, hH3⟩ : ∃ H3, H3 = ext H2 [.arr 0 44 [vecB ps]] := ⟨_, rfl⟩
  have n3 : H3.next = H2.next + 1 := by rw [hH3]; rfl
  have o3 : Over H2 H3 := by rw [hH3]; exact .ext _ _
  have g8 : H3.get H2.next = some (.arr 0 44 [vecB ps]) := by rw [hH3]; exact ext1_get_new
  have o23 := o2.trans o3
  refine W.env fun E6 hE6 => ?_
  have k5 : E6 5 = .ptr H.next 0 0 := by rw [hE6]; simp (config := { maxSteps := 1000000 }) only [go_sem, h5, appendA_U]
  have k7 : E6 7 = .ptr (H.next + 1) 0 0 := by rw [hE6]; simp (config := { maxSteps := 1000000 }) only [go_sem, h7, appendA_U]
  have k8 : E6 8 = .ptr (H.next + 2) 0 0 := by rw [hE6]; simp (config := { maxSteps := 1000000 }) only [go_sem, h8, appendA_U]
  have k9 : E6 9 = .ptr (H.next + 3) 0 0 := by rw [hE6]; simp (config := { maxSteps := 1000000 }) only [go_sem, h9, appendA_U]
  have k10 : E6 10 = .ptr (H.next + 4) 0 0 := by rw [hE6]; simp (config := { maxSteps := 1000000 }) only [go_sem, h10, appendA_U]
  have k11 : E6 11 = .ptr (H.next + 5) 0 0 := by rw [hE6]; simp (config := { maxSteps := 1000000 }) only [go_sem, h11, appendA_U]
  have k15 : E6 15 = .ptr (H'.next + 1) 0 0 := by rw [hE6]; simp (config := { maxSteps := 1000000 }) only [go_sem, h15, appendA_U]
  have k79 : E6 79 = .clo 82 [] [.ptr H2.next 0 0] := by rw [hE6]; simp (config := { maxSteps := 1000000 }) only [go_sem, appendA_U]
  clear hE6
  show W _ _ _ _ _ _ ⟨E6, ext H2 [.arr 0 44 [vecB ps]]⟩
  rw [← hH3]
  clear hH3
  have hpl6 : ps.length = n := by rw [hn]; exact gok.1
  have hps2 : ∀ p ∈ ps, p < 2 ^ n := by rw [hn]; exact gok.2.1
  have hit := fam_it ps hp (by omega) H2.next (H3.next + 1) (by omega)
  have base : ∀ id, id < H2.next → H3.get id = H2.get id := fun id h => o3.old id h
  refine W.rangeItG (f := 82) (first := []) (cap := [.ptr H2.next 0 0]) (by show E6 79 = _; exact k79) hit
    (fun k Hx => H3.next < Hx.next ∧ (∀ id, id < H3.next → id ≠ H'.next → Hx.get id = H3.get id) ∧ ∃ ns, FitK cs xs ps grain prior least k ns ∧ Hx.get H'.next = some (.arr 0 91 (fitC n ns)))
    (fun _ _ => False)
    (fun k Hx h => (h.2.1 _ (by omega) (by omega)).trans g8)
    (fun k Ha Hb h hw => ⟨by have := hw.1; have := h.1; omega, fun id h1 h2 => (hw.2 _ (by omega) (by have := h.1; omega)).trans (h.2.1 id h1 h2), by
      obtain ⟨ns, a1, a2⟩ := h.2.2
      exact ⟨ns, a1, (hw.2 _ (by omega) (by have := h.1; omega)).trans a2⟩⟩)
    (fun k Hx h => h.1)
    (fun k Ha b h => ⟨h.1, fun id h1 h2 => by rw [upd_get, if_neg (by omega)]; exact h.2.1 id h1 h2, by
      obtain ⟨ns, a1, a2⟩ := h.2.2
      exact ⟨ns, a1, by rw [upd_get, if_neg (by omega)]; exact a2⟩⟩)
    (fun _ _ _ h => h) (fun _ _ _ _ => trivial)
    (fun b => ⟨by rw [ext_next]; simp, fun id h1 h2 => ext1_get_old h1, [], ⟨rfl, fun v s x _ h => by simp at h⟩, by rw [ext1_get_old (by omega), base _ (by omega), g6]; rfl⟩) (by decide)
    (fun x hx => by
      obtain ⟨v, _, rfl⟩ := List.mem_map.1 hx
      rfl) (fun _ _ _ => trivial) (fun _ _ _ => trivial) (fun k y Hx B Bb hy hj _ hnn hB hBb => ?_) (fun Hx hj hnn => ?_) (fun _ hs _ => hs.elim) (fun _ _ hs _ => hs.elim)
  · have hk : k < ps.length := by have := get_lt hy; rw [famX_len] at this; exact this
    obtain ⟨s, hs⟩ := get_of_lt hk
    rw [famX_get hs] at hy
    cases hy
    refine vc_sound _ _ _ (by rfl) ?_
    simp (config := { maxSteps := 1000000 }) only [go_sem, setPs, envN, asgIt, List.foldl_cons, List.foldl_nil, List.zip_cons_cons, List.zip_nil_right, hB, appendA_U]
    obtain ⟨Hr, hHr⟩ : ∃ Hr, Hr = Hx.upd H3.next Bb := ⟨_, rfl⟩
    have nr : Hr.next = Hx.next := by rw [hHr]; rfl
    have or3 : ∀ id, id ≠ H3.next → Hr.get id = Hx.get id := fun id h => by rw [hHr, upd_get, if_neg h]
    have jB : Hr.get H3.next = some Bb := by rw [hHr, upd_get, if_pos rfl]
    obtain ⟨hj1, hj2, ns, hfk, hgB⟩ := hj
    have old : ∀ id, id < H'.next → Hr.get id = H'.get id := fun id h => (or3 _ (by omega)).trans ((hj2 id (by omega) (by omega)).trans (o23.old id h))
    rw [← hHr]
    have hnl : ns.length = k := hfk.1
    have hs2 := hps2 s (List.mem_of_getElem? hs)
    rw [hpl6]
    refine fit_round (v := k) (s := s) (n := n) (C := fitC n ns) (NT := H'.next + 1) (NB := H'.next) dok wok hn (by omega) hs2 hBb jB (by omega) (by omega) ((old _ (by omega)).trans b0) ((old _ (by omega)).trans b1) ((old _ (by omega)).trans b2) ((old _ (by omega)).trans b3) ((or3 _ (by omega)).trans ((hj2 _ (by omega) (by omega)).trans ((base _ (by omega)).trans g7))) ((or3 _ (by omega)).trans hgB) (fitC_len (by omega)) fitC_fz ⟨by omega, by omega, by omega, by omega, by omega, by omega⟩ ⟨by omega, by omega, by omega, by omega, by omega, by omega⟩ (by simp (config := { maxSteps := 1000000 }) only [go_sem, envN, k5, appendA_U]) (by simp (config := { maxSteps := 1000000 }) only [go_sem, envN, k7, appendA_U]) (by simp (config := { maxSteps := 1000000 }) only [go_sem, envN, k8, appendA_U]) (by simp (config := { maxSteps := 1000000 }) only [go_sem, envN, k9, appendA_U]) (by simp (config := { maxSteps := 1000000 }) only [go_sem, envN, k15, appendA_U]) (by simp (config := { maxSteps := 1000000 }) only [go_sem, appendA_U]) (by simp (config := { maxSteps := 1000000 }) only [go_sem, appendA_U]) (fun Hf x hx hq1 hq2 hq3 => ?_) _ (by kernel_rfl)
    refine ⟨by omega, fun id h1 h2 => ?_, ns ++ [x], hfk.snoc hs (by rw [hpl6]; exact hx), ?_⟩
    · rw [hq2 id (by omega) h2, or3 id (by omega)]
      exact hj2 id h1 h2
    · rw [hq3, ← hnl, fitC_set (by omega)]
  · rw [famX_len] at hj
    obtain ⟨hj1, hj2, ns, hfk, hgB⟩ := hj
    have hnl : ns.length = n := by rw [← hpl6]; exact hfk.1
    have old : ∀ id, id < H'.next → Hx.get id = H'.get id := fun id h => (hj2 id (by omega) (by omega)).trans (o23.old id h)
    have x7 := get_live ((hj2 (H'.next + 1) (by omega) (by omega)).trans ((base _ (by omega)).trans g7))
    have x4 := get_live ((old (H.next + 4) (by omega)).trans b4)
    have x5 := get_live ((old (H.next + 5) (by omega)).trans b5)
    have v5 : ∀ b, (Hx.upd (H.next + 4) b).live (H.next + 5) 0 = _ := fun b => (live_upd_other (by omega)).trans x5
    have v4 : ∀ b c, ((Hx.upd (H.next + 4) b).upd (H.next + 5) c).live (H.next + 4) 0 = (Hx.upd (H.next + 4) b).live (H.next + 4) 0 := fun b c => live_upd_other (by omega)
    rw [← hnl, fitC_all] at hgB
    simp (config := { maxSteps := 1000000 }) only [go_sem, appendA_U]
    refine vc_sound _ _ _ (by rfl) ?_
    simp (config := { maxSteps := 1000000 }) only [go_sem, k10, k11, k15, x7, x4, x5, v5, v4, appendA_U]
    have hKK := hK grain ns (fun _ => ⟨rfl, by rw [hpl6, ← hpl6]; exact hfk⟩) (fun e => absurd hE0 e)
    rw [hE0] at hKK
    have oX : Over H Hx := ⟨by omega, fun id h => (old id (by omega)).trans (o1.old id h)⟩
    refine FinV.dropO G0_ok hcl ((oX.upd (by omega) _).upd (by omega) _) (fz_netT ?_) hKK
    rw [← hnl]
    exact .frz (by omega) (by rw [upd_get, if_neg (by omega), upd_get, if_neg (by omega)]; exact hgB) (nodesC_len ns) fun j h1 h2 h3 => by simp only [Nat.zero_add]; exact fitC_fz (n := ns.length) (ns := ns) _ (by rw [fitC_all]; exact List.getElem_mem _) _ _ _
end Go.Proofs
namespace Go.Hx
variable {P : Program}
structure Own2 (lo : Nat) (H : AHeap) (e : TypeId) (v : AVal) (l : List AVal) (u : AVal) (m : List AVal) : Prop where
  a : OwnG lo H e v l
  b : OwnG lo H e u m
  ne : ∀ i g n g' n', v = .own i g 0 n 1 → u ≠ .own i g' 0 n' 1
theorem Own2.symm {lo : Nat} {H : AHeap} {e : TypeId} {v u : AVal} {l m : List AVal} (h : Own2 lo H e v l u m) : Own2 lo H e u m v l := ⟨h.b, h.a, fun i g n g' n' h1 h2 => h.ne i g' n' g n h2 h1⟩
theorem Own2.nil {lo : Nat} {H : AHeap} {e : TypeId} : Own2 lo H e (.lit (.slice none 0 0)) [] (.lit (.slice none 0 0)) [] := ⟨.nil, .nil, fun _ _ _ _ _ h => (by cases h)⟩
theorem Own2.keep {lo : Nat} {H H' : AHeap} {e : TypeId} {v u : AVal} {l m : List AVal} (h : Own2 lo H e v l u m) (hn : H.next ≤ H'.next) (hk : ∀ id, lo ≤ id → id < H.next → H'.get id = H.get id) : Own2 lo H' e v l u m :=
  ⟨h.a.keep (Nat.le_refl _) hn fun id _ h1 h2 _ _ => hk id h1 h2, h.b.keep (Nat.le_refl _) hn fun id _ h1 h2 _ _ => hk id h1 h2, h.ne⟩
end Go.Hx
namespace Go.Proofs
open Go.Hx

end Go.Proofs
namespace Go.Hx
theorem OwnG.neF {lo : Nat} {H : AHeap} {e : TypeId} {v : AVal} {cs : List AVal} (h : OwnG lo H e v cs) {k : Nat} (hk : k < lo) : ∀ g n, v ≠ .own k g 0 n 1 := fun g n he => by
  rcases h with ⟨h, _⟩ | ⟨id, g', a, _, h, _⟩
  · rw [h] at he; cases he
  · rw [h] at he; have := (AVal.own.inj he).1; omega
end Go.Hx
namespace Go.Proofs
open Go.Hx
theorem least_ex {r : Nat → Int} {M : Nat → Bool} : ∀ m, (∃ j, j < m ∧ M j = false) → ∃ b, b < m ∧ M b = false ∧ ∀ j, j < m → M j = false → j ≠ b → before r b j
  | 0, ⟨j, h, _⟩ => absurd h (Nat.not_lt_zero _)
  | m + 1, ⟨j, hj, hM⟩ => by
    by_cases hex : ∃ j, j < m ∧ M j = false
    · obtain ⟨b, hb, hMb, hmin⟩ := least_ex m hex
      cases hm : M m with
      | true => exact ⟨b, by omega, hMb, fun j hj h1 h2 => hmin j (by have : j ≠ m := (by rintro rfl; rw [hm] at h1; cases h1); omega) h1 h2⟩
      | false =>
        by_cases hlt : r b < r m
        · refine ⟨m, by omega, hm, fun j hj h1 h2 => ?_⟩
          have hjm : j < m := by omega
          by_cases hjb : j = b
          · subst hjb; exact .inl hlt
          · have := hmin j hjm h1 hjb
            unfold before at this ⊢
            omega
        · refine ⟨b, by omega, hMb, fun j hj h1 h2 => ?_⟩
          by_cases hjm : j = m
          · subst hjm; unfold before; omega
          · exact hmin j (by omega) h1 h2
    · have : j = m := by
        refine Classical.byContradiction fun h => hex ⟨j, by omega, hM⟩
      subst this
      exact ⟨j, by omega, hM, fun i hi h1 h2 => absurd ⟨i, by omega, h1⟩ hex⟩
theorem Top.some {r : Nat → Int} {n k : Nat} {M : Nat → Bool} (h : Top r n k M) (hk : k < n) : ∃ j, j < n ∧ M j = false := by
  refine Classical.byContradiction fun hno => ?_
  have := h.count
  have e : (List.range n).countP M = (List.range n).length := List.countP_eq_length.2 fun x hx => by
    rcases Bool.eq_false_or_eq_true (M x) with e | e
    · exact e
    · exact absurd ⟨x, List.mem_range.1 hx, e⟩ hno
  rw [e, List.length_range] at this
  omega
theorem Top.ex (r : Nat → Int) (n : Nat) : ∀ k, k ≤ n → ∃ M, Top r n k M
  | 0, _ => ⟨_, .zero⟩
  | k + 1, h => by
    obtain ⟨M, hM⟩ := Top.ex r n k (by omega)
    obtain ⟨b, hb, hMb, hmin⟩ := least_ex (r := r) n (hM.some (by omega))
    exact ⟨_, hM.step hb hMb hmin⟩
end Go.Proofs
