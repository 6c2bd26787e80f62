/- Own work: contracts. -/
import Derived.Test.YtikgmgmphkalkaaDoorConF
set_option linter.all false
set_option maxRecDepth 100000
namespace Go.Proofs
open Go.Hx
def bendC (w a r n : Int) : List AVal := [.lit (.int .u8 w), .lit (.int .u8 a), .lit (.int .u8 r), .lit (.int .i64 n)]
def copyC (ns : List NodeP) (a k : Nat) (pv rv : AVal) : List AVal := ((nodesE (ns.take k)).set (a * 3 + 1) pv).set (a * 3 + 2) rv
theorem copyC_len (ns : List NodeP) (a k : Nat) (pv rv : AVal) : (copyC ns a k pv rv).length = (ns.take k).length * 3 := by unfold copyC; rw [List.length_set, List.length_set, nodesE_len]
theorem copyC_self {ns : List NodeP} {k : Nat} {x : NodeP} (h : ns[k]? = some x) (pv rv pk rk : AVal) : copyC ns k k pv rv ++ [lin x.card, pk, rk] = copyC ns k (k + 1) pk rk := by
  have hk := get_lt h
  have hl := nodesE_len (ns.take k)
  have hkl : (ns.take k).length = k := by rw [List.length_take]; omega
  unfold copyC
  rw [List.set_eq_of_length_le (l := nodesE (ns.take k)) (by omega), List.set_eq_of_length_le (by omega), take_succ_get h, nodesE_snoc, List.set_append_right _ _ (by omega), List.set_append_right _ _ (by omega), hl, hkl, show k * 3 + 1 - k * 3 = 1 by omega, show k * 3 + 2 - k * 3 = 2 by omega]
  rfl
theorem copyC_other {ns : List NodeP} {a k : Nat} {x : NodeP} (h : ns[k]? = some x) (hne : k ≠ a) (pv rv : AVal) : copyC ns a (k + 1) pv rv = copyC ns a k pv rv ++ [lin x.card, vecI x.parents, rowsE x] := by
  have hk := get_lt h
  have hl := nodesE_len (ns.take k)
  have hkl : (ns.take k).length = k := by rw [List.length_take]; omega
  unfold copyC
  rw [take_succ_get h, nodesE_snoc]
  by_cases ha : a < k
  · rw [List.set_append_left _ _ (by omega), List.set_append_left _ _ (by rw [List.length_set]; omega)]
  · rw [List.set_eq_of_length_le (by simp [hl]; omega), List.set_eq_of_length_le (by simp [hl]; omega), List.set_eq_of_length_le (l := nodesE (ns.take k)) (by omega), List.set_eq_of_length_le (by omega)]
def CopyI (ns : List NodeP) (a lo : Nat) (k : Nat) (H : AHeap) (nh : AVal) : Prop :=
  ∃ pv rv, OwnZ lo H 91 3 nh k (copyC ns a k pv rv) ∧ pv.one = true ∧ rv.one = true ∧ (a < k → ∃ x, ns[a]? = some x ∧ ∃ ids, NodO lo H pv rv ids x)
set_option maxHeartbeats 4000000 in
theorem bend05_spec (w a r n : Int) (hw : 0 ≤ w ∧ w ≤ 255) (ha : 0 ≤ a ∧ a ≤ 255) (hr : 0 ≤ r ∧ r ≤ 255) (g : Int) (ns : List NodeP) (m : Nat) (hm : m < 2 ^ 30) (hs : SmallN m ns) (H : AHeap) (K : ARes → AHeap → Prop)
    (hK : ∀ g' ns' cs, (g', ns', cs) = bendN (w % 12) (a % (ns.length : Int)).toNat r n g ns → SmallN (m + 1) ns' → NodesQ (fun v => ¬ w % 12 = 5 ∨ ∀ x, ns[v]? = some x → x.rows = []) ns' cs → (w % 12 = 0 → ns' = ns) ∧ ns'.length ≤ ns.length + 1 → K (.ret (.agg [lin g', .vec ns'.length cs])) H) :
    ACall Tryd.prog G0 29 [.agg (bendC w a r n), netV g ns] H K := by
  refine ACall.clo ⟨_, Tryd.func29, rfl, rfl⟩ fun hcl => ?_
  refine ACall.of_bodyW (n := 323) (rs := [.cell 4 61]) Tryd.func29 rfl rfl rfl (by decide) (by simp) ?_
  refine W.seq (vc_sound _ _ _ (by rfl) ?_)
  simp (config := { maxSteps := 1000000 }) only [go_sem, bendC, netV, nodesV, appendA_U]
  obtain ⟨Hb, hHb⟩ : ∃ Hb, Hb = ext H [.arr 0 74 [.lit (.int .u8 w), .lit (.int .u8 a), .lit (.int .u8 r), .lit (.int .i64 n)], .arr 0 61 [.lit (.int .i64 g), .vec ns.length (nodesC ns)], .arr 0 61 [.lit (.int .i64 0), .lit (.slice none 0 0)]] := ⟨_, rfl⟩
  have b0 : Hb.get H.next = some (.arr 0 74 [.lit (.int .u8 w), .lit (.int .u8 a), .lit (.int .u8 r), .lit (.int .i64 n)]) := by rw [hHb]; exact get_ext0 ..
  have b1 : Hb.get (H.next + 1) = some (.arr 0 61 [.lit (.int .i64 g), .vec ns.length (nodesC ns)]) := by rw [hHb]; exact get_ext H _ 1 (by simp)
  have b2 : Hb.get (H.next + 2) = some (.arr 0 61 [.lit (.int .i64 0), .lit (.slice none 0 0)]) := by rw [hHb]; exact get_ext H _ 2 (by simp)
  have nb : Hb.next = H.next + 3 := by rw [hHb]; rfl
  have ob : Over H Hb := by rw [hHb]; exact .ext _ _
  rw [← hHb]
  clear hHb
  obtain ⟨A, hA⟩ : ∃ A : Nat, A = (a % (ns.length : Int)).toNat := ⟨_, rfl⟩
  have hsl := hs.len
  refine W.env fun E hE => ?_
  have e2 : E 2 = .ptr H.next 0 0 := by rw [hE]; simp (config := { maxSteps := 1000000 }) only [go_sem, appendA_U]
  have e3 : E 3 = .ptr (H.next + 1) 0 0 := by rw [hE]; simp (config := { maxSteps := 1000000 }) only [go_sem, appendA_U]
  have e4 : E 4 = .ptr (H.next + 2) 0 0 := by rw [hE]; simp (config := { maxSteps := 1000000 }) only [go_sem, appendA_U]
  clear hE
  refine W.seq (vc_sound _ _ _ (by rfl) ?_)
  simp (config := { maxSteps := 1000000 }) only [go_sem, appendA_U]
  refine W.mid2 (fun s' => s'.ρ 2 = .ptr H.next 0 0 ∧ s'.ρ 3 = .ptr (H.next + 1) 0 0 ∧ s'.ρ 4 = .ptr (H.next + 2) 0 0 ∧ Hb.next ≤ s'.H.next ∧ (∀ id, id < H.next + 3 → s'.H.get id = Hb.get id) ∧ CopyI ns A (H.next + 3) ns.length s'.H (s'.ρ 5)) ?_ ?_
  rotate_left
  · rintro ⟨ρ3, Hx⟩ ⟨m2, m3, m4, nx, hold, pv, rv, hO, pv1, rv1, hNA⟩
    simp only at m2 m3 m4 nx hold hO hNA
    obtain ⟨nh, h5⟩ : ∃ nh, ρ3 5 = nh := ⟨_, rfl⟩
    rw [h5] at hO
    have l1 := get_live ((hold _ (by omega)).trans b1)
    have nh1 := hO.one
    have nhc := hO.cells
    refine W.seq (vc_sound _ _ _ (by rfl) ?_)
    simp (config := { maxSteps := 1000000 }) only [go_sem, m3, h5, l1, nh1, nhc, appendA_U]
    obtain ⟨Hs, hHs⟩ : ∃ Hs, Hs = Hx.upd (H.next + 1) (.arr 0 61 [.lit (.int .i64 g), nh]) := ⟨_, rfl⟩
    rw [← hHs]
    have sn : Hs.next = Hx.next := by rw [hHs]; rfl
    have so : ∀ id, id ≠ H.next + 1 → Hs.get id = Hx.get id := fun id h => by rw [hHs, upd_get, if_neg h]
    have g1 : Hs.get (H.next + 1) = some (.arr 0 61 [.lit (.int .i64 g), nh]) := by rw [hHs, upd_get, if_pos rfl]
    have g2 : Hs.get (H.next + 2) = _ := (so _ (by omega)).trans ((hold _ (by omega)).trans b2)
    have s1 := get_live g1
    have s0 : Hs.live H.next 0 = _ := get_live ((so _ (by omega)).trans ((hold _ (by omega)).trans b0))
    have s2 := get_live g2
    have sO : OwnZ (H.next + 3) Hs 91 3 nh ns.length (copyC ns A ns.length pv rv) := hO.keep (by omega) fun id _ h _ _ => so id (by omega)
    have sold : ∀ id, id < H.next → Hs.get id = H.get id := fun id h => by rw [so id (by omega), hold id (by omega)]; exact ob.old id h
    refine W.env fun E hE => ?_
    have t2 : E 2 = .ptr H.next 0 0 := by rw [hE]; simp (config := { maxSteps := 1000000 }) only [go_sem, m2, appendA_U]
    have t3 : E 3 = .ptr (H.next + 1) 0 0 := by rw [hE]; simp (config := { maxSteps := 1000000 }) only [go_sem, m3, appendA_U]
    have t4 : E 4 = .ptr (H.next + 2) 0 0 := by rw [hE]; simp (config := { maxSteps := 1000000 }) only [go_sem, m4, appendA_U]
    have t5 : E 5 = nh := by rw [hE]; simp (config := { maxSteps := 1000000 }) only [go_sem, h5, appendA_U]
    clear hE hHs l1 hO
    by_cases hn0 : ns.length = 0
    · have hns : ns = [] := List.eq_nil_of_length_eq_zero hn0
      have hlen : lenS Hs nh = some (.lit (.int .i64 0)) := by
        rcases sO with ⟨z1, z2, z3⟩ | ⟨id, gg, z1, z2, z3, z4, z5⟩
        · rw [z1]; rfl
        · rw [z3, hn0]; unfold lenS; simp [get_live z5]
      refine vc_sound _ _ _ (by rfl) ?_
      simp (config := { maxSteps := 1000000 }) only [go_sem, t2, t3, t4, t5, s1, s2, hlen, nh1, nhc, appendA_U]
      refine FinV.dropO (v' := .agg [lin g, .vec 0 []]) G0_ok hcl (H2 := Hs.upd (H.next + 2) _) ⟨by rw [upd_next]; omega, fun id h => by rw [upd_get, if_neg (by omega)]; exact sold id h⟩ (.agg rfl fun i hi _ => ?_) ?_
      · match i, hi with
        | 0, _ => exact .lit _
        | 1, _ =>
          have hO2 : OwnZ (H.next + 3) (Hs.upd (H.next + 2) (.arr 0 61 [.lit (.int .i64 g), nh])) 91 3 nh ns.length (copyC ns A ns.length pv rv) := sO.keep (by rw [upd_next]; omega) fun id _ h _ _ => by rw [upd_get, if_neg (by omega)]
          have hl0 : (copyC ns A ns.length pv rv).length = 0 := by rw [copyC_len, hn0]; rfl
          have := fzZ (S := fun id => H.next ≤ id) (nx := H.next) (cs' := []) hO2 (fun i hi => by omega) (by rw [hl0]; rfl) fun i hi => absurd hi (by omega)
          rw [hn0] at this
          exact this
      · have := hK g [] [] (by rw [hns]; rfl) ⟨by simp, fun x hx => by simp at hx⟩ ⟨rfl, fun v x hx => by simp at hx⟩ ⟨fun _ => hns.symm, by simp⟩
        exact this
    have hn1 : 0 < ns.length := by omega
    rcases sO with ⟨_, z2, _⟩ | ⟨id, gg, z1, z2, z3, z4, z5⟩
    · omega
    subst z3
    have sid := get_live z5
    have hn0' : ¬ (ns.length : Int) = 0 := by omega
    refine W.seq (vc_sound _ _ _ (by rfl) ?_)
    simp (config := { maxSteps := 1000000 }) only [go_sem, t5, sid, hn0', hn1, appendA_U]
    have hAlt : A < ns.length := by
      have := Int.emod_lt_of_pos a (show (0 : Int) < ns.length by omega)
      have := Int.emod_nonneg a (show (ns.length : Int) ≠ 0 by omega)
      omega
    have hAe : Int.tmod a ns.length = A := by rw [Int.tmod_eq_emod_of_nonneg ha.1]; have := Int.emod_nonneg a (show (ns.length : Int) ≠ 0 by omega); omega
    obtain ⟨x, hx, ids, hN0⟩ := hNA hAlt
    have hN : NodO (H.next + 3) Hs pv rv ids x := hN0.keep (by omega) fun id h _ => so id (by omega)
    clear hN0 hNA
    obtain ⟨x1, x2, x3⟩ := hs.node x (List.mem_of_getElem? hx)
    have ecs : copyC ns A ns.length pv rv = cellsAt ns A (lin x.card) pv rv := by unfold copyC; rw [List.take_of_length_le (Nat.le_refl _)]; exact cellsAt_set hx _ _
    obtain ⟨cs0, hcs0⟩ : ∃ c, c = cellsAt ns A (lin x.card) pv rv := ⟨_, rfl⟩
    rw [ecs, ← hcs0] at z4 z5 sid
    have c0 := cellsAt_0 (ns := ns) hAlt (lin x.card) pv rv
    have c1 := cellsAt_1 (ns := ns) hAlt (lin x.card) pv rv
    have c2 := cellsAt_2 (ns := ns) hAlt (lin x.card) pv rv
    have cl := cellsAt_len ns A (lin x.card) pv rv
    have cne := cellsAt_ne (ns := ns) hAlt (lin x.card) pv rv
    rw [← hcs0] at c0 c1 c2 cl cne
    have hA0 : (A : Int) < ns.length := by omega
    have wa := IntWalk.i64_in a (by omega)
    have wA := IntWalk.i64_in (A : Int) (by omega)
    refine W.seq (vc_sound _ _ _ (by rfl) ?_)
    simp (config := { maxSteps := 1000000 }) only [go_sem, t2, t5, s0, sid, hAe, hn0', hA0, wa, wA, cl, appendA_U]
    refine W.seq (vc_sound _ _ _ (by rfl) ?_)
    simp (config := { maxSteps := 1000000 }) only [go_sem, appendA_U]
    have rvl : lenS Hs rv = some (lin x.rows.length) := by
      have hl := hN.rows.len
      rw [List.length_map] at hl
      rcases hN.rows.top with ⟨h1, h2⟩ | ⟨i, g', _, _, h1, h2⟩
      · have h3 : (List.zipWith (fun i n => AVal.own i 0 0 n 1) ids ((x.rows.map ints).map List.length)).length = 0 := by rw [h2]; rfl
        simp [hl] at h3
        rw [h1, h3]; rfl
      · rw [h1]; unfold lenS; simp [get_live h2, hl, lin]
    refine W.env fun E hE => ?_
    have u2 : E 2 = .ptr H.next 0 0 := by rw [hE]; simp (config := { maxSteps := 1000000 }) only [go_sem, t2, appendA_U]
    have u3 : E 3 = .ptr (H.next + 1) 0 0 := by rw [hE]; simp (config := { maxSteps := 1000000 }) only [go_sem, t3, appendA_U]
    have u4 : E 4 = .ptr (H.next + 2) 0 0 := by rw [hE]; simp (config := { maxSteps := 1000000 }) only [go_sem, t4, appendA_U]
    have u5 : E 5 = .own id gg 0 ns.length 3 := by rw [hE]; simp (config := { maxSteps := 1000000 }) only [go_sem, t5, appendA_U]
    have u10 : E 10 = .ptr id gg (A * 3) := by rw [hE]; simp (config := { maxSteps := 1000000 }) only [go_sem, appendA_U]
    have u11 : E 11 = lin (-1) := by rw [hE]; simp (config := { maxSteps := 1000000 }) only [go_sem, appendA_U]
    clear hE
    refine W.mid2 (fun s' => s'.H = Hs ∧ s'.ρ 2 = .ptr H.next 0 0 ∧ s'.ρ 3 = .ptr (H.next + 1) 0 0 ∧ s'.ρ 4 = .ptr (H.next + 2) 0 0 ∧ s'.ρ 10 = .ptr id gg (A * 3) ∧ ∃ R : Int, s'.ρ 11 = lin R ∧ (x.rows = [] ∧ R = -1 ∨ x.rows ≠ [] ∧ 0 ≤ R ∧ R < x.rows.length ∧ R = r % (x.rows.length : Int))) ?_ ?_
    · refine W.seq (vc_sound _ _ _ (by rfl) ?_)
      by_cases hr0 : x.rows = []
      · simp (config := { maxSteps := 1000000 }) only [go_sem, u2, u10, sid, c2, cne, rvl, hr0, appendA_U]
        refine W.cond (t := false) rfl ?_
        refine vc_sound _ _ _ (by rfl) ?_
        simp (config := { maxSteps := 1000000 }) only [go_sem, appendA_U]
        refine ⟨u2, u3, u4, u10, -1, u11, ?_⟩
        simp [hr0]
      · have hr1 : 0 < x.rows.length := List.length_pos_iff.2 hr0
        have hr2 : (0 : Int) < x.rows.length := by omega
        have hr3 : ¬ (x.rows.length : Int) = 0 := by omega
        have wr := IntWalk.i64_in r (by omega)
        have hRe : Int.tmod r x.rows.length = r % x.rows.length := Int.tmod_eq_emod_of_nonneg hr.1
        have hR0 := Int.emod_nonneg r hr3
        have hR1 := Int.emod_lt_of_pos r hr2
        have wR := IntWalk.i64_in (r % (x.rows.length : Int)) (by omega)
        simp (config := { maxSteps := 1000000 }) only [go_sem, u2, u10, sid, c2, cne, rvl, hr1, hr2, appendA_U]
        refine W.cond (t := true) rfl ?_
        refine W.draw 8 [0, 1, 3, 0, 8, 24, 56, 120] Tryd.mixed (by kernel_rfl) (by kernel_rfl) ?_
        simp (config := { maxSteps := 1000000 }) only [go_sem, u2, u10, s0, sid, c2, cne, rvl, hr1, hr2, hr3, wr, hRe, wR, appendA_U]
        exact ⟨u3, u4, _, rfl, .inr ⟨hr0, hR0, hR1, rfl⟩⟩
    rintro ⟨ρ4, H4⟩ ⟨hH, v2, v3, v4, v10, R, v11, hR⟩
    simp only at hH v2 v3 v4 v10 v11
    rw [hH]
    clear hH
    have w8 : Int.tmod w 12 = w % 12 := Int.tmod_eq_emod_of_nonneg hw.1
    obtain ⟨e, he⟩ : ∃ e : Nat → Prop, e = fun v => ¬ w % 12 = 5 ∨ ∀ x, ns[v]? = some x → x.rows = [] := ⟨_, rfl⟩
    rw [← he] at hK
    obtain ⟨Φ, hΦ⟩ : ∃ Φ : St → Prop, ∀ s', Φ s' ↔ (s'.ρ 3 = .ptr (H.next + 1) 0 0 ∧ s'.ρ 4 = .ptr (H.next + 2) 0 0 ∧ ∃ (g' : Int) (nv : AVal) (ns' : List NodeP) (cs' : List AVal), Hs.next ≤ s'.H.next ∧ (∀ i, i < H.next → s'.H.get i = H.get i) ∧ s'.H.get (H.next + 1) = some (.arr 0 61 [.lit (.int .i64 g'), nv]) ∧ nv.one = true ∧ nv.cells = [nv] ∧ (∃ q, s'.H.get (H.next + 2) = some (.arr 0 61 q) ∧ q.length = 2) ∧ (∀ H3, H3.next = s'.H.next → (∀ i, i ≠ H.next + 2 → H3.get i = s'.H.get i) → Fz (fun i => H.next ≤ i) H3 H.next nv (.vec ns'.length cs')) ∧ SmallN (m + 1) ns' ∧ NodesQ e ns' cs' ∧ (w % 12 = 0 → ns' = ns) ∧ ns'.length ≤ ns.length + 1 ∧ (g', ns', cs') = bendN (w % 12) A r n g ns) := ⟨_, fun _ => Iff.rfl⟩
    refine W.mid2 Φ ?_ ?_
    rotate_left
    · rintro ⟨ρ5, H5⟩ hq5
      obtain ⟨f3, f4, g', nv, ns', cs', n5, o5, p5, nv1, nvc, ⟨q, q5, ql⟩, hfz, hsm, hnq, hw0, hw1, hbn⟩ := (hΦ _).1 hq5
      simp only at f3 f4 n5 o5 p5 q5 hfz
      have l5 := get_live p5
      obtain ⟨q0, q1, rfl⟩ : ∃ q0 q1, q = [q0, q1] := by
        match q, ql with
        | [q0, q1], _ => exact ⟨q0, q1, rfl⟩
      have l6 := get_live q5
      refine vc_sound _ _ _ (by rfl) ?_
      simp (config := { maxSteps := 1000000 }) only [go_sem, f3, f4, l5, l6, nv1, nvc, appendA_U]
      refine FinV.dropO (v' := .agg [lin g', .vec ns'.length cs']) G0_ok hcl ⟨by rw [upd_next]; omega, fun i h => by rw [upd_get, if_neg (by omega)]; exact o5 i h⟩ (.agg rfl fun i hi _ => ?_) (hK g' ns' cs' (by rw [← hA]; exact hbn) hsm hnq ⟨hw0, hw1⟩)
      match i, hi with
      | 0, _ => exact .lit _
      | 1, _ => exact hfz _ rfl fun i h => by rw [upd_get, if_neg h]
    refine W.seq (vc_sound _ _ _ (by rfl) ?_)
    simp (config := { maxSteps := 1000000 }) only [go_sem, v2, s0, w8, appendA_U]
    obtain ⟨c, hc⟩ : ∃ c, c = w % 12 := ⟨_, rfl⟩
    have hc0 : 0 ≤ c ∧ c < 12 := by omega
    rw [← hc]
    refine W.env fun E hE => ?_
    have u2 : E 2 = .ptr H.next 0 0 := by rw [hE]; simp (config := { maxSteps := 1000000 }) only [go_sem, v2, appendA_U]
    have u3 : E 3 = .ptr (H.next + 1) 0 0 := by rw [hE]; simp (config := { maxSteps := 1000000 }) only [go_sem, v3, appendA_U]
    have u4 : E 4 = .ptr (H.next + 2) 0 0 := by rw [hE]; simp (config := { maxSteps := 1000000 }) only [go_sem, v4, appendA_U]
    have u10 : E 10 = .ptr id gg (A * 3) := by rw [hE]; simp (config := { maxSteps := 1000000 }) only [go_sem, v10, appendA_U]
    have u11 : E 11 = lin R := by rw [hE]; simp (config := { maxSteps := 1000000 }) only [go_sem, v11, appendA_U]
    have u101 : E 101 = .lit (.int .u8 c) := by rw [hE]; simp (config := { maxSteps := 1000000 }) only [go_sem, appendA_U]
    clear hE v2 v3 v4 v10 v11 t2 t3 t4 t5
    refine W.block ?_
    clear hK
    have g2' : ∃ q, Hs.get (H.next + 2) = some (.arr 0 61 q) ∧ q.length = 2 := ⟨_, g2, rfl⟩
    have hfin : ∀ (H3 : AHeap) (cc : Int) (pv' rv' pw rw : AVal), H3.get id = some (.arr gg 91 (cellsAt ns A (lin cc) pv' rv')) → Fz (fun i => H.next ≤ i) H3 H.next pv' pw → Fz (fun i => H.next ≤ i) H3 H.next rv' rw → Fz (fun i => H.next ≤ i) H3 H.next (.own id gg 0 ns.length 3) (.vec ns.length (cellsAt ns A (lin cc) pw rw)) := fun H3 cc pv' rv' pw rw h1 h2 h3 => by
      refine .frz (show H.next ≤ id by omega) h1 (cellsAt_len ..) fun j hj h2' h' => ?_
      simp only [Nat.zero_add] at h2' ⊢
      exact fz_cellsAt h2 h3 j h2' h'
    have hgone : ∀ H3 : AHeap, GoneN (fun i => H.next ≤ i) (H.next + 3) H3 := fun H3 i g e c h1 _ _ _ => by show H.next ≤ i; omega
    have hset : ns.set A x = ns := set_get_self hx
    have hsm0 : SmallN (m + 1) ns := hs.mono (Nat.le_succ m)
    have bN : c ≠ 0 → c ≠ 10 → c ≠ 11 → bendN c A r n g ns = (g, ns.set A (bnodeB c r n g x).1, cellsAt ns A (lin (bnodeB c r n g x).1.card) (vecI (bnodeB c r n g x).1.parents) (bnodeB c r n g x).2) := fun y0 y1 y2 => by
      unfold bendN
      rw [hx]
      simp only
      rw [if_neg y0, if_neg y1, if_neg y2]
    -- the nodes as they are
    have same : ∀ H3 : AHeap, Hs.next ≤ H3.next → (∀ i, H.next + 3 ≤ i → i < Hs.next → H3.get i = Hs.get i) → Fz (fun i => H.next ≤ i) H3 H.next (.own id gg 0 ns.length 3) (.vec ns.length (cellsAt ns A (lin x.card) (vecI x.parents) (rowsE x))) := fun H3 h1 h2 => by
      have hN3 := hN.keep (H' := H3) h1 h2
      refine hfin H3 _ _ _ _ _ ?_ (hN3.fzP (hgone _)) (hN3.fzR (hgone _))
      rw [h2 id z1 z2, z5, hcs0]
    have nq0 : NodesQ e ns (cellsAt ns A (lin x.card) (vecI x.parents) (rowsE x)) := by
      have := nodesQ_set (e := e) (x' := x) (rv := rowsE x) hAlt (.inr rfl) fun _ => rfl
      rw [hset] at this
      exact this
    have noch : ∀ E' : Env, c ≠ 0 → c ≠ 10 → c ≠ 11 → bnodeB c r n g x = (x, rowsE x) → E' 3 = .ptr (H.next + 1) 0 0 → E' 4 = .ptr (H.next + 2) 0 0 → Φ ⟨E', Hs⟩ := fun E' y0 y1 y2 y3 h3 h4 => (hΦ _).2 ⟨h3, h4, g, .own id gg 0 ns.length 3, ns, _, Nat.le_refl _, sold, g1, rfl, rfl, g2', fun H3 h5 h6 => same H3 (by rw [h5]; exact Nat.le_refl _) fun i h7 _ => h6 i (by omega), hsm0, nq0, fun _ => rfl, by omega, by rw [← hc, bN y0 y1 y2, y3, hset]⟩
    by_cases h0 : c = 0
    · refine W.seq (vc_sound _ _ _ (by rfl) ?_)
      simp (config := { maxSteps := 1000000 }) only [go_sem, u101, h0, appendA_U]
      refine W.cond (t := true) rfl ?_
      refine vc_sound _ _ _ (by rfl) ?_
      simp (config := { maxSteps := 1000000 }) only [go_sem, u2, u3, s0, s1, appendA_U]
      refine (hΦ _).2 ⟨by simp (config := { maxSteps := 1000000 }) only [go_sem, u3, appendA_U], by simp (config := { maxSteps := 1000000 }) only [go_sem, u4, appendA_U], n, .own id gg 0 ns.length 3, ns, _, by rw [upd_next]; exact Nat.le_refl _, fun i h => by rw [upd_get, if_neg (by omega)]; exact sold i h, by rw [upd_get, if_pos rfl], rfl, rfl, ?_, fun H3 h5 h6 => same H3 (by rw [h5, upd_next]; exact Nat.le_refl _) fun i h7 _ => by rw [h6 i (by omega), upd_get, if_neg (by omega)], hsm0, nq0, fun _ => rfl, by omega, by rw [← hc, h0]; unfold bendN; rw [hx]; rfl⟩
      obtain ⟨q, hq, ql⟩ := g2'
      exact ⟨q, by rw [upd_get, if_neg (by omega)]; exact hq, ql⟩
    -- one node set anew
    have hset1 : ∀ (E' : Env) (H2 : AHeap) (x' : NodeP) (pv' rv' rw : AVal), E' 3 = .ptr (H.next + 1) 0 0 → E' 4 = .ptr (H.next + 2) 0 0 → Hs.next ≤ H2.next → (∀ i, i < H.next + 3 → H2.get i = Hs.get i) → H2.get id = some (.arr gg 91 (cellsAt ns A (lin x'.card) pv' rv')) →
        (∀ H3 : AHeap, H3.next = H2.next → (∀ i, i ≠ H.next + 2 → H3.get i = H2.get i) → Fz (fun i => H.next ≤ i) H3 H.next pv' (vecI x'.parents) ∧ Fz (fun i => H.next ≤ i) H3 H.next rv' rw) → (rw = vecV x'.rows ∨ rw = rowsE x') → (e A → rw = rowsE x') → (x'.parents.length ≤ m + 1 ∧ x'.rows.length ≤ m + 1 ∧ ∀ r ∈ x'.rows, r ≠ [] ∧ r.length ≤ m + 1) → c ≠ 10 → c ≠ 11 → bnodeB c r n g x = (x', rw) → Φ ⟨E', H2⟩ := by
      intro E' H2 x' pv' rv' rw h3 h4 hn ho hid hfz hr he2 hsz y1 y2 y3
      refine (hΦ _).2 ⟨h3, h4, g, .own id gg 0 ns.length 3, ns.set A x', cellsAt ns A (lin x'.card) (vecI x'.parents) rw, hn, fun i h => by rw [ho i (by omega)]; exact sold i h, (ho _ (by omega)).trans g1, rfl, rfl, ?_, fun H3 h5 h6 => ?_, hsm0.set hsz, nodesQ_set hAlt hr he2, fun h => absurd (hc.trans h) h0, by rw [List.length_set]; omega, by rw [← hc, bN h0 y1 y2, y3]⟩
      · obtain ⟨q, hq, ql⟩ := g2'
        exact ⟨q, (ho _ (by omega)).trans hq, ql⟩
      · obtain ⟨f1, f2⟩ := hfz H3 h5 h6
        have := hfin H3 x'.card pv' rv' _ _ ((h6 id (by omega)).trans hid) f1 f2
        rw [List.length_set]
        exact this
    have par3 : ∀ H3 : AHeap, Hs.next ≤ H3.next → (∀ i g2 e2 c2, H.next + 3 ≤ i → i < Hs.next → Hs.get i = some (.arr g2 e2 c2) → e2 ≠ 91 → H3.get i = Hs.get i) → Fz (fun i => H.next ≤ i) H3 H.next pv (vecI x.parents) ∧ Fz (fun i => H.next ≤ i) H3 H.next rv (rowsE x) := fun H3 h1 h2 => by
      have hN3 := hN.keepE (H' := H3) h1 h2
      exact ⟨hN3.fzP (hgone _), hN3.fzR (hgone _)⟩
    have xsz : x.parents.length ≤ m + 1 ∧ x.rows.length ≤ m + 1 ∧ ∀ r ∈ x.rows, r ≠ [] ∧ r.length ≤ m + 1 := ⟨by omega, by omega, fun r hr => ⟨(x3 r hr).1, by have := (x3 r hr).2; omega⟩⟩
    have nid : ∀ {i g2 e2 c2}, Hs.get i = some (.arr g2 e2 c2) → e2 ≠ 91 → i ≠ id := fun h1 h2 h3 => by
      rw [h3, z5] at h1
      cases h1
      exact h2 rfl
    have pne : ∀ i g2 e2 c2, Hs.get i = some (.arr g2 e2 c2) → e2 ≠ 3 → ∀ g n, pv ≠ .own i g 0 n 1 := fun i g2 e2 c2 h1 h2 g n hv => by
      rcases hN.par with ⟨h3, _⟩ | ⟨i3, g3, _, _, h3, h4⟩
      · rw [h3] at hv; cases hv
      · rw [h3] at hv
        obtain rfl := (AVal.own.inj hv).1
        rw [h4] at h1
        cases h1
        exact h2 rfl
    have plo : ∀ i, i < H.next + 3 → ∀ g n, pv ≠ .own i g 0 n 1 := fun i h g n hv => by
      rcases hN.par with ⟨h3, _⟩ | ⟨i3, g3, h1, _, h3, h4⟩
      · rw [h3] at hv; cases hv
      · rw [h3] at hv
        have := (AVal.own.inj hv).1
        omega
    refine W.seq (vc_sound _ _ _ (by rfl) ?_)
    simp (config := { maxSteps := 1000000 }) only [go_sem, u101, h0, appendA_U]
    refine W.cond (t := false) rfl ?_
    by_cases h1 : c = 1
    · refine W.seq (vc_sound _ _ _ (by rfl) ?_)
      simp (config := { maxSteps := 1000000 }) only [go_sem, u101, h1, appendA_U]
      refine W.cond (t := true) rfl ?_
      refine vc_sound _ _ _ (by rfl) ?_
      have c1l : A * 3 + 1 ≤ cs0.length := by omega
      have e1 : setAt cs0 (A * 3) [.lit (.int .i64 n)] = cellsAt ns A (lin n) pv rv := by rw [setAt_one (by omega), hcs0, cellsAt_c]; rfl
      simp (config := { maxSteps := 1000000 }) only [go_sem, u2, u3, u10, s0, s1, sid, c0, cne, c1l, e1, appendA_U]
      refine hset1 _ _ { x with card := n } pv rv (rowsE x) (by simp (config := { maxSteps := 1000000 }) only [go_sem, u3, appendA_U]) (by simp (config := { maxSteps := 1000000 }) only [go_sem, u4, appendA_U]) (by rw [upd_next]; exact Nat.le_refl _) (fun i h => by rw [upd_get, if_neg (by omega)]) (by rw [upd_get, if_pos rfl]; rfl) (fun H3 h5 h6 => ?_) (.inr rfl) (fun _ => rfl) xsz (by omega) (by omega) (by rw [h1]; rfl)
      exact par3 H3 (by rw [h5, upd_next]; exact Nat.le_refl _) fun i g2 e2 c2 h1 _ h3 h4 => by rw [h6 i (by omega), upd_get, if_neg (nid h3 h4)]
    refine W.seq (vc_sound _ _ _ (by rfl) ?_)
    simp (config := { maxSteps := 1000000 }) only [go_sem, u101, h1, appendA_U]
    refine W.cond (t := false) rfl ?_
    by_cases h2 : c = 2
    · refine W.seq (vc_sound _ _ _ (by rfl) ?_)
      simp (config := { maxSteps := 1000000 }) only [go_sem, u101, h2, appendA_U]
      refine W.cond (t := true) rfl ?_
      obtain ⟨pv2, H2, hA2, oP, n2, hp2⟩ := app_oneG (P := Tryd.prog) (H := Hs) (t := 22) (x := lin n) (n := Hs.next + 1) Tryd.underlying22 Tryd.cells3 Tryd.zero3 rfl (by rw [Tryd.bytes3, ints_length]; omega) hN.par (by omega) rfl
      simp only [lin] at hA2
      have kid : H2.get id = _ := (hp2 _ (by omega) (pne _ _ _ _ z5 (by decide))).trans z5
      have lid := get_live kid
      have c1l : A * 3 + 2 ≤ cs0.length := by omega
      have e1 : setAt cs0 (A * 3 + 1) [pv2] = cellsAt ns A (lin x.card) pv2 rv := by rw [setAt_one (by omega), hcs0, cellsAt_p]
      have pv21 := oP.one
      have pv2c := oP.cells
      have fin2 : ∀ E' : Env, E' 3 = .ptr (H.next + 1) 0 0 → E' 4 = .ptr (H.next + 2) 0 0 → Φ ⟨E', H2.upd id (.arr gg 91 (cellsAt ns A (lin x.card) pv2 rv))⟩ := fun E' h3 h4 => by
        refine hset1 _ _ { x with parents := x.parents ++ [n] } pv2 rv (rowsE x) h3 h4 (by rw [upd_next]; omega) (fun i h => by rw [upd_get, if_neg (by omega)]; exact hp2 i (by omega) (plo i h)) (by rw [upd_get, if_pos rfl]) (fun H3 h5 h6 => ?_) (.inr rfl) (fun _ => rfl) ⟨by simp; omega, xsz.2.1, xsz.2.2⟩ (by omega) (by omega) (by rw [h2]; rfl)
        have k3 : ∀ i g2 e2 c2, H.next + 3 ≤ i → H2.get i = some (.arr g2 e2 c2) → e2 ≠ 91 → H3.get i = H2.get i := fun i g2 e2 c2 h1 h3 h4 => by
          rw [h6 i (by omega), upd_get, if_neg]
          rintro rfl
          rw [kid] at h3
          cases h3
          exact h4 rfl
        have oP3 : OwnG (H.next + 3) H3 3 pv2 (ints (x.parents ++ [n])) := by
          have := oP.keep (H' := H3) (Nat.le_refl _) (by rw [h5, upd_next]; exact Nat.le_refl _) fun i g h1 _ h3 _ => k3 i g _ _ h1 h3 (by decide)
          simpa [ints] using this
        have rM := hN.rows.keepR (H' := H3) (by rw [h5, upd_next]; omega) fun i g2 e2 c2 h1 h2 h3 h4 => by
          have h7 : H2.get i = Hs.get i := hp2 i h2 fun g n hv => by
            rcases h4 with h4 | h4
            · exact pne _ _ _ _ h3 (by rw [h4]; decide) _ _ hv
            · exact hN.dj _ _ _ hv h4
          refine (k3 i g2 e2 c2 h1 (h7.trans h3) ?_).trans h7
          rcases h4 with h4 | h4
          · rw [h4]; decide
          · have := hN.rows.elem h4
            rw [h3] at this
            obtain ⟨_, this⟩ := this
            cases this
            decide
        have hN3 : NodO (H.next + 3) H3 (.lit (.slice none 0 0)) rv ids { x with parents := [] } := ⟨.nil, rM, fun _ _ _ h => (by cases h), hN.nil⟩
        exact ⟨oP3.fzI fun i h => by omega, hN3.fzR (hgone _)⟩
      refine W.draw 9 [0, 0, 2, 6, 14, 0, 32, 96, 254] Tryd.mixed (by kernel_rfl) (by kernel_rfl) ?_
      rcases hN.par with ⟨hv, _⟩ | ⟨i3, g3, _, _, hv, h4⟩
      · subst hv
        simp (config := { maxSteps := 1000000 }) only [go_sem, u2, u3, u10, s0, s1, sid, c0, c1, cne, pv1, c1l, e1, hA2, lid, pv21, pv2c]
        exact ⟨⟨fun _ h => by omega, fun _ h => by omega, fun _ h => by omega⟩, fin2 _ (by simp (config := { maxSteps := 1000000 }) only [go_sem, u3, appendA_U]) (by simp (config := { maxSteps := 1000000 }) only [go_sem, u4, appendA_U])⟩
      · rw [ints_length] at hv
        subst hv
        simp (config := { maxSteps := 1000000 }) only [go_sem, u2, u3, u10, s0, s1, sid, c0, c1, cne, pv1, c1l, e1, hA2, lid, pv21, pv2c]
        exact ⟨⟨fun _ h => by omega, fun _ h => by omega, fun _ h => by omega⟩, fin2 _ (by simp (config := { maxSteps := 1000000 }) only [go_sem, u3, appendA_U]) (by simp (config := { maxSteps := 1000000 }) only [go_sem, u4, appendA_U])⟩
    refine W.seq (vc_sound _ _ _ (by rfl) ?_)
    simp (config := { maxSteps := 1000000 }) only [go_sem, u101, h2, appendA_U]
    refine W.cond (t := false) rfl ?_
    by_cases h3 : c = 3
    · refine W.seq (vc_sound _ _ _ (by rfl) ?_)
      simp (config := { maxSteps := 1000000 }) only [go_sem, u101, h3, appendA_U]
      refine W.cond (t := true) rfl ?_
      refine vc_sound _ _ _ (by rfl) ?_
      have c1l : A * 3 + 2 ≤ cs0.length := by omega
      have e1 : setAt cs0 (A * 3 + 1) [.lit (.slice none 0 0)] = cellsAt ns A (lin x.card) (.lit (.slice none 0 0)) rv := by rw [setAt_one (by omega), hcs0, cellsAt_p]
      simp (config := { maxSteps := 1000000 }) only [go_sem, u2, u3, u10, s0, s1, sid, c0, c1, cne, c1l, e1, appendA_U]
      refine hset1 _ _ { x with parents := [] } (.lit (.slice none 0 0)) rv (rowsE x) (by simp (config := { maxSteps := 1000000 }) only [go_sem, u3, appendA_U]) (by simp (config := { maxSteps := 1000000 }) only [go_sem, u4, appendA_U]) (by rw [upd_next]; exact Nat.le_refl _) (fun i h => by rw [upd_get, if_neg (by omega)]) (by rw [upd_get, if_pos rfl]; rfl) (fun H3 h5 h6 => ?_) (.inr rfl) (fun _ => rfl) ⟨by simp, xsz.2.1, xsz.2.2⟩ (by omega) (by omega) (by rw [h3]; rfl)
      exact ⟨.nil, (par3 H3 (by rw [h5, upd_next]; exact Nat.le_refl _) fun i g2 e2 c2 h1 _ h3 h4 => by rw [h6 i (by omega), upd_get, if_neg (nid h3 h4)]).2⟩
    refine W.seq (vc_sound _ _ _ (by rfl) ?_)
    simp (config := { maxSteps := 1000000 }) only [go_sem, u101, h3, appendA_U]
    refine W.cond (t := false) rfl ?_
    by_cases h4 : c = 4
    · refine W.seq (vc_sound _ _ _ (by rfl) ?_)
      simp (config := { maxSteps := 1000000 }) only [go_sem, u101, h4, appendA_U]
      refine W.cond (t := true) rfl ?_
      obtain ⟨rv2, H2, hA2, oM, n2, hp2⟩ := hN.rows.appF (P := Tryd.prog) (n := Hs.next + 1 + 1) (t := 48) (r := ints [n]) Tryd.underlying48 Tryd.cells22 Tryd.zero22 Tryd.bytes22 (by decide) (by rw [List.length_map]; omega) (by omega) rfl
      rw [ints_length] at hA2
      simp only [ints, lin, List.map_cons, List.map_nil, List.length_cons, List.length_nil, Nat.zero_add] at hA2
      have kid : H2.get id = _ := (hp2 _ (by omega) (hN.rows.ne z5 (by decide))).trans z5
      have lid := get_live kid
      have e1 : setAt cs0 (A * 3 + 2) [rv2] = cellsAt ns A (lin x.card) pv rv2 := by rw [setAt_one (by omega), hcs0, cellsAt_r]
      have rv21 := oM.top.one
      have rv2c := oM.top.cells
      have fin4 : ∀ E' : Env, E' 3 = .ptr (H.next + 1) 0 0 → E' 4 = .ptr (H.next + 2) 0 0 → Φ ⟨E', H2.upd id (.arr gg 91 (cellsAt ns A (lin x.card) pv rv2))⟩ := fun E' h3' h4' => by
        have hne : ({ x with rows := x.rows ++ [[n]] } : NodeP).rows ≠ [] := by simp
        refine hset1 _ _ { x with rows := x.rows ++ [[n]] } pv rv2 (rowsE { x with rows := x.rows ++ [[n]] }) h3' h4' (by rw [upd_next]; omega) (fun i h => by rw [upd_get, if_neg (by omega)]; exact hp2 i (by omega) (hN.rows.top.ne (by omega))) (by rw [upd_get, if_pos rfl]) (fun H3 h5 h6 => ?_) (.inr rfl) (fun _ => rfl) ⟨xsz.1, by simp; omega, fun r hr => ?_⟩ (by omega) (by omega) (by rw [h4]; rfl)
        · have k3 : ∀ i g2 e2 c2, H.next + 3 ≤ i → H2.get i = some (.arr g2 e2 c2) → e2 ≠ 91 → H3.get i = H2.get i := fun i g2 e2 c2 h1 h3 h4 => by
            rw [h6 i (by omega), upd_get, if_neg]
            rintro rfl
            rw [kid] at h3
            cases h3
            exact h4 rfl
          have oP3 := hN.par.keep (H' := H3) (Nat.le_refl _) (by rw [h5, upd_next]; omega) fun i g h1 h2 h3 _ => by
            have h7 : H2.get i = Hs.get i := hp2 i h2 (hN.rows.ne h3 (by decide))
            exact (k3 i g _ _ h1 (h7.trans h3) (by decide)).trans h7
          have rM : OwnM (H.next + 3) H3 22 3 rv2 (ids ++ [Hs.next]) ((x.rows ++ [[n]]).map ints) := by
            have := oM.keepR (H' := H3) (by rw [h5, upd_next]; exact Nat.le_refl _) fun i g2 e2 c2 h1 _ h3 h4 => k3 i g2 e2 c2 h1 h3 (by
              rcases h4 with h4 | h4
              · rw [h4]; decide
              · have := oM.elem h4
                rw [h3] at this
                obtain ⟨_, this⟩ := this
                cases this
                decide)
            rw [List.map_append]
            exact this
          have hN3 : NodO (H.next + 3) H3 (.lit (.slice none 0 0)) rv2 (ids ++ [Hs.next]) { x with parents := [], rows := x.rows ++ [[n]] } := ⟨.nil, rM, fun _ _ _ h => (by cases h), fun h => by simp at h⟩
          exact ⟨oP3.fzI fun i h => by omega, hN3.fzR (hgone _)⟩
        · rcases List.mem_append.1 hr with h | h
          · exact xsz.2.2 r h
          · obtain rfl := List.mem_singleton.1 h
            exact ⟨by simp, by simp⟩
      refine W.draw 10 [0, 0, 2, 6, 14, 0, 32, 96, 224, 510] Tryd.mixed (by kernel_rfl) (by kernel_rfl) ?_
      have hl : ids.length = x.rows.length := by have := hN.rows.len; rwa [List.length_map] at this
      rcases hN.rows.top with ⟨hv, _⟩ | ⟨i3, g3, _, _, hv, h4⟩
      · subst hv
        simp (config := { maxSteps := 1000000 }) only [go_sem, u2, u3, u10, s0, s1, sid, c2, cne, rv1, hA2, lid, rv21, rv2c, e1]
        exact ⟨⟨fun _ h => by omega, fun _ h => by omega, fun _ h => by omega⟩, ⟨fun _ h => by omega, fun _ h => by omega, fun _ h => by omega⟩, by omega, fin4 _ (by simp (config := { maxSteps := 1000000 }) only [go_sem, u3, appendA_U]) (by simp (config := { maxSteps := 1000000 }) only [go_sem, u4, appendA_U])⟩
      · subst hv
        simp (config := { maxSteps := 1000000 }) only [go_sem, u2, u3, u10, s0, s1, sid, c2, cne, rv1, hA2, lid, rv21, rv2c, e1]
        exact ⟨⟨fun _ h => by omega, fun _ h => by omega, fun _ h => by omega⟩, ⟨fun _ h => by omega, fun _ h => by omega, fun _ h => by omega⟩, by omega, fin4 _ (by simp (config := { maxSteps := 1000000 }) only [go_sem, u3, appendA_U]) (by simp (config := { maxSteps := 1000000 }) only [go_sem, u4, appendA_U])⟩
    refine W.seq (vc_sound _ _ _ (by rfl) ?_)
    simp (config := { maxSteps := 1000000 }) only [go_sem, u101, h4, appendA_U]
    refine W.cond (t := false) rfl ?_
    -- one row of the node
    have row : R = -1 ∧ x.rows = [] ∨ ∃ (Rn : Nat) (q : List Int) (idt gt : Nat) (cells : List AVal) (idr : Nat), R = (Rn : Int) ∧ RowAt (H.next + 3) Hs rv ids x.rows Rn q idt gt cells idr ∧ Rn = (r % (x.rows.length : Int)).toNat := by
      rcases hR with ⟨hR2, hR⟩ | ⟨_, hR0, hR1, hR3⟩
      · exact .inl ⟨hR, hR2⟩
      · obtain ⟨Rn, rfl⟩ := Int.eq_ofNat_of_zero_le hR0
        obtain ⟨q, hq⟩ := get_of_lt (l := x.rows) (i := Rn) (by omega)
        obtain ⟨idt, gt, cells, idr, hra⟩ := OwnM.rowAt hN.rows hq
        exact .inr ⟨Rn, q, idt, gt, cells, idr, rfl, hra, by omega⟩
    have pkeep : ∀ H3 : AHeap, Hs.next ≤ H3.next → (∀ i g, H.next + 3 ≤ i → i < Hs.next → Hs.get i = some (.arr g 3 (ints x.parents)) → (∀ j, j ∈ ids → i ≠ j) → H3.get i = Hs.get i) → Fz (fun i => H.next ≤ i) H3 H.next pv (vecI x.parents) := fun H3 h1 h2 => by
      have := hN.par.keep (H' := H3) (Nat.le_refl _) h1 fun i g h3 h4 h5 h6 => h2 i g h3 h4 h5 fun j hj he => by
        subst he
        exact hN.dj _ _ _ h6 hj
      exact this.fzI fun i h => by omega
    have rsz : ∀ (Rn : Nat) (q q' : List Int), x.rows[Rn]? = some q → q' ≠ [] → q'.length ≤ q.length + 1 → (x.parents.length ≤ m + 1 ∧ (x.rows.set Rn q').length ≤ m + 1 ∧ ∀ r ∈ x.rows.set Rn q', r ≠ [] ∧ r.length ≤ m + 1) := fun Rn q q' hq h1 h2 => ⟨xsz.1, by rw [List.length_set]; exact xsz.2.1, fun r hr => by
      rcases List.mem_or_eq_of_mem_set hr with h | rfl
      · exact xsz.2.2 r h
      · have := (x3 q (List.mem_of_getElem? hq)).2
        exact ⟨h1, by omega⟩⟩
    by_cases h5 : c = 5
    · refine W.seq (vc_sound _ _ _ (by rfl) ?_)
      simp (config := { maxSteps := 1000000 }) only [go_sem, u101, h5, appendA_U]
      refine W.cond (t := true) rfl ?_
      rcases row with ⟨hR1, hRN⟩ | ⟨Rn, q, idt, gt, cells, idr, hR1, hra, hRn⟩
      · refine vc_sound _ _ _ (by rfl) ?_
        simp (config := { maxSteps := 1000000 }) only [go_sem, u11, hR1, appendA_U]
        exact noch _ h0 (by omega) (by omega) (bnodeB_none (by omega) hRN) (by simp (config := { maxSteps := 1000000 }) only [go_sem, u3, appendA_U]) (by simp (config := { maxSteps := 1000000 }) only [go_sem, u4, appendA_U])
      · refine vc_sound _ _ _ (by rfl) ?_
        have hRl := get_lt hra.q
        have hrv := hra.rv
        have lt := get_live hra.top
        have ltl := hra.len
        have e1 : setAt cs0 (A * 3 + 2) [.own idt gt 0 Rn 1] = cellsAt ns A (lin x.card) pv (.own idt gt 0 Rn 1) := by rw [setAt_one (by omega), hcs0, cellsAt_r]
        simp (config := { maxSteps := 1000000 }) only [go_sem, u10, u11, hR1, sid, c2, cne, hrv, lt, ltl, e1, appendA_U]
        refine ⟨by omega, by omega, ?_⟩
        refine hset1 _ _ { x with rows := x.rows.take Rn } pv (.own idt gt 0 Rn 1) (vecV (x.rows.take Rn)) (by simp (config := { maxSteps := 1000000 }) only [go_sem, u3, appendA_U]) (by simp (config := { maxSteps := 1000000 }) only [go_sem, u4, appendA_U]) (by rw [upd_next]; exact Nat.le_refl _) (fun i h => by rw [upd_get, if_neg (by omega)]) (by rw [upd_get, if_pos rfl]; rfl) (fun H3 h7 h8 => ?_) (.inl rfl) (fun hE => ?_) ⟨xsz.1, by simp; omega, fun r hr => xsz.2.2 r (List.mem_of_mem_take hr)⟩ (by omega) (by omega) (by rw [h5]; exact bnodeB_five hra.q hRn)
        · have hk3 : ∀ i g2 e2 c2, H.next + 3 ≤ i → Hs.get i = some (.arr g2 e2 c2) → e2 ≠ 91 → H3.get i = Hs.get i := fun i g2 e2 c2 h1 h3 h4 => by rw [h8 i (by omega), upd_get, if_neg (nid h3 h4)]
          have hM3 := hN.rows.keepR (H' := H3) (by rw [h7, upd_next]; exact Nat.le_refl _) fun i g2 e2 c2 h1 _ h3 h4 => hk3 i g2 e2 c2 h1 h3 (by
            rcases h4 with h4 | h4
            · rw [h4]; decide
            · obtain ⟨_, this⟩ := hN.rows.elem h4
              rw [h3] at this
              cases this
              decide)
          exact ⟨pkeep H3 (by rw [h7, upd_next]; exact Nat.le_refl _) fun i g h1 _ h3 _ => hk3 i g _ _ h1 h3 (by decide), RowAt.fzTake hra hM3 (fun i h => by show H.next ≤ i; omega) ((hk3 idt _ _ _ hra.tlo.1 hra.top (by decide)).trans hra.top)⟩
        · rw [he] at hE
          rcases hE with hE | hE
          · omega
          · have := hE x hx
            rw [this] at hRl
            simp at hRl
    refine W.seq (vc_sound _ _ _ (by rfl) ?_)
    simp (config := { maxSteps := 1000000 }) only [go_sem, u101, h5, appendA_U]
    refine W.cond (t := false) rfl ?_
    -- a row's block turned, or its handle
    have fin6 : ∀ (E' : Env) (H2 : AHeap) (Rn : Nat) (q q' : List Int) (idt gt : Nat) (cells : List AVal) (idr : Nat) (wv : AVal), RowAt (H.next + 3) Hs rv ids x.rows Rn q idt gt cells idr → E' 3 = .ptr (H.next + 1) 0 0 → E' 4 = .ptr (H.next + 2) 0 0 → q' ≠ [] → q'.length ≤ q.length + 1 → 5 < c → c ≠ 10 → c ≠ 11 → Rn = (r % (x.rows.length : Int)).toNat → q' = rowB c n g q → Hs.next ≤ H2.next → (∀ i, i < Hs.next → i ≠ idt → i ≠ idr → H2.get i = Hs.get i) →
        H2.get idt = some (.arr gt 22 (cells.set Rn wv)) → (∀ H3 : AHeap, H3.next = H2.next → (∀ i, i ≠ H.next + 2 → H3.get i = H2.get i) → Fz (fun i => H.next ≤ i) H3 H.next wv (vecI q')) → Φ ⟨E', H2⟩ := by
      intro E' H2 Rn q q' idt gt cells idr wv hra h3 h4 hq1 hq2 hc5 hc10 hc11 hRn hqB hn hk ht hfz
      have hRl := get_lt hra.q
      have d1 := hra.tlo
      have d2 := hra.rlo
      have hrne : x.rows.set Rn q' ≠ [] := fun h => by
        have := congrArg List.length h
        rw [List.length_set] at this
        simp at this
        rw [this] at hRl
        simp at hRl
      have hrw : rowsE { x with rows := x.rows.set Rn q' } = vecV (x.rows.set Rn q') := rowsE_ne hrne
      refine hset1 E' H2 { x with rows := x.rows.set Rn q' } pv rv (vecV (x.rows.set Rn q')) h3 h4 hn (fun i h => hk i (by omega) (by omega) (by omega)) ?_ (fun H3 h7 h8 => ?_) (.inl rfl) (fun _ => hrw.symm) (rsz Rn q q' hra.q hq1 hq2) hc10 hc11 (by rw [bnodeB_row hc5 hra.q hRn, hqB])
      · rw [hk id z2 (fun h => nid hra.top (by decide) h.symm) (fun h => nid hra.row (by decide) h.symm), z5, hcs0]
      · have hpk := pkeep H3 (by rw [h7]; exact hn) fun i g h1 h2 h3 h4 => by
          rw [h8 i (by omega)]
          refine hk i h2 (fun h => ?_) (h4 idr (List.mem_of_getElem? hra.id))
          rw [h, hra.top] at h3
          cases h3
        refine ⟨hpk, RowAt.fzSet hra hN.rows (fun i h => by show H.next ≤ i; omega) (by rw [h8 idt (by omega)]; exact ht) (fun i hi hne => ?_) (hfz H3 h7 h8)⟩
        have := hN.rows.rng i hi
        rw [h8 i (by omega)]
        exact hk i this.2 (fun h => hra.nm (by rw [← h]; exact hi)) hne
    have cset : ∀ {Rn : Nat} {q : List Int} {idt gt : Nat} {cells : List AVal} {idr : Nat}, RowAt (H.next + 3) Hs rv ids x.rows Rn q idt gt cells idr → cells.set Rn (.own idr 0 0 q.length 1) = cells := fun hra => set_get_self hra.at'
    have fzrow : ∀ {Rn : Nat} {q : List Int} {idt gt : Nat} {cells : List AVal} {idr : Nat}, RowAt (H.next + 3) Hs rv ids x.rows Rn q idt gt cells idr → ∀ (H3 : AHeap) (l : List Int), l.length = q.length → H3.get idr = some (.arr 0 3 (ints l)) → Fz (fun i => H.next ≤ i) H3 H.next (.own idr 0 0 q.length 1) (vecI l) := fun {Rn q idt gt cells idr} hra H3 l hl hg => by
      have := hra.rlo
      unfold vecI
      rw [hl]
      refine .frz (show H.next ≤ idr by omega) hg (by rw [ints_length, hl, Nat.mul_one]) fun j hj h2 h' => ?_
      simp only [Nat.zero_add, ints, List.getElem_map]
      exact .lit _
    by_cases h6 : c = 6
    · refine W.seq (vc_sound _ _ _ (by rfl) ?_)
      simp (config := { maxSteps := 1000000 }) only [go_sem, u101, h6, appendA_U]
      refine W.cond (t := true) rfl ?_
      rcases row with ⟨hR1, hRN⟩ | ⟨Rn, q, idt, gt, cells, idr, hR1, hra, hRn⟩
      · refine W.seq (vc_sound _ _ _ (by rfl) ?_)
        simp (config := { maxSteps := 1000000 }) only [go_sem, u11, hR1, appendA_U]
        refine W.cond (t := false) rfl ?_
        refine vc_sound _ _ _ (by rfl) ?_
        simp (config := { maxSteps := 1000000 }) only [go_sem, appendA_U]
        exact noch _ h0 (by omega) (by omega) (bnodeB_none (by omega) hRN) (by simp (config := { maxSteps := 1000000 }) only [go_sem, u3, appendA_U]) (by simp (config := { maxSteps := 1000000 }) only [go_sem, u4, appendA_U])
      · have hRl := get_lt hra.q
        have hrv := hra.rv
        have lt := get_live hra.top
        have lr := get_live hra.row
        have ltl := hra.len
        have hat := hra.at'
        have tne := ne_of_get hat
        have qe := (x3 q (List.mem_of_getElem? hra.q)).1
        have ql : 0 < q.length := List.length_pos_iff.2 qe
        have qli : (0 : Int) < q.length := by omega
        have qne : ¬ ints q = [] := fun h => by have := congrArg List.length h; rw [ints_length, List.length_nil] at this; omega
        refine W.seq (vc_sound _ _ _ (by rfl) ?_)
        simp (config := { maxSteps := 1000000 }) only [go_sem, u10, u11, hR1, sid, c2, cne, hrv, lt, lr, ltl, hat, ql, qli, appendA_U]
        refine ⟨by omega, W.cond (t := true) rfl ?_⟩
        have e1 : setAt (ints q) 0 [.lit (.int .i64 n)] = ints (q.set 0 n) := setAt_ints ql
        refine W.draw 9 [0, 1, 3, 7, 0, 31, 63, 0, 128] Tryd.mixed (by kernel_rfl) (by kernel_rfl) ?_
        simp (config := { maxSteps := 1000000 }) only [go_sem, u2, u10, u11, hR1, s0, sid, c2, cne, hrv, lt, lr, ltl, hat, tne, ql, qli, qne, e1, appendA_U]
        refine ⟨by omega, by omega, fin6 _ _ Rn q (q.set 0 n) idt gt cells idr (.own idr 0 0 q.length 1) hra (by simp (config := { maxSteps := 1000000 }) only [go_sem, u3, appendA_U]) (by simp (config := { maxSteps := 1000000 }) only [go_sem, u4, appendA_U]) (fun h => by have := congrArg List.length h; rw [List.length_set, List.length_nil] at this; omega) (by rw [List.length_set]; omega) (by omega) (by omega) (by omega) hRn (by rw [h6]; rfl) (by rw [upd_next]; exact Nat.le_refl _) (fun i _ _ h2 => by rw [upd_get, if_neg h2]) (by rw [cset hra, upd_get, if_neg hra.ne]; exact hra.top) fun H3 h7 h8 => fzrow hra H3 _ (List.length_set ..) ?_⟩
        rw [h8 idr (by have := hra.rlo; omega), upd_get, if_pos rfl]
        cases q with
        | nil => exact absurd rfl qe
        | cons a t => rfl
    refine W.seq (vc_sound _ _ _ (by rfl) ?_)
    simp (config := { maxSteps := 1000000 }) only [go_sem, u101, h6, appendA_U]
    refine W.cond (t := false) rfl ?_
    by_cases h7 : c = 7
    · refine W.seq (vc_sound _ _ _ (by rfl) ?_)
      simp (config := { maxSteps := 1000000 }) only [go_sem, u101, h7, appendA_U]
      refine W.cond (t := true) rfl ?_
      rcases row with ⟨hR1, hRN⟩ | ⟨Rn, q, idt, gt, cells, idr, hR1, hra, hRn⟩
      · refine W.seq (vc_sound _ _ _ (by rfl) ?_)
        simp (config := { maxSteps := 1000000 }) only [go_sem, u11, hR1, appendA_U]
        refine W.cond (t := false) rfl ?_
        refine vc_sound _ _ _ (by rfl) ?_
        simp (config := { maxSteps := 1000000 }) only [go_sem, appendA_U]
        exact noch _ h0 (by omega) (by omega) (bnodeB_none (by omega) hRN) (by simp (config := { maxSteps := 1000000 }) only [go_sem, u3, appendA_U]) (by simp (config := { maxSteps := 1000000 }) only [go_sem, u4, appendA_U])
      · have hRl := get_lt hra.q
        have hrv := hra.rv
        have lt := get_live hra.top
        have lr := get_live hra.row
        have ltl := hra.len
        have hat := hra.at'
        have tne := ne_of_get hat
        refine W.seq (vc_sound _ _ _ (by rfl) ?_)
        simp (config := { maxSteps := 1000000 }) only [go_sem, u11, hR1, appendA_U]
        refine W.cond (t := true) rfl ?_
        have hG : OwnG (H.next + 3) Hs 3 (.own idr 0 0 q.length 1) (ints q) := .inr ⟨idr, 0, hra.rlo.1, hra.rlo.2, by rw [ints_length], hra.row⟩
        have hq2 := (x3 q (List.mem_of_getElem? hra.q)).2
        obtain ⟨w2, H2, hA2, oW, n2, hp2⟩ := app_oneG (P := Tryd.prog) (H := Hs) (t := 22) (x := lin 0) (n := Hs.next + 1) Tryd.underlying22 Tryd.cells3 Tryd.zero3 rfl (by rw [Tryd.bytes3, ints_length]; omega) hG (by omega) rfl
        simp only [lin] at hA2
        have k2 : ∀ i, i < Hs.next → i ≠ idr → H2.get i = Hs.get i := fun i h1 h2 => hp2 i h1 fun g n hv => h2 (AVal.own.inj hv).1.symm
        have lt2 := get_live ((k2 idt hra.tlo.2 hra.ne).trans hra.top)
        have w21 := oW.one
        have w2c := oW.cells
        have e1 : setAt cells Rn [w2] = cells.set Rn w2 := setAt_one (by omega)
        refine W.draw 14 [0, 1, 3, 7, 0, 0, 32, 96, 224, 0, 992, 2016, 0, 8160] Tryd.mixed (by kernel_rfl) (by kernel_rfl) ?_
        simp (config := { maxSteps := 1000000 }) only [go_sem, u2, u10, u11, hR1, s0, sid, c2, cne, hrv, lt, lr, ltl, hat, tne, hA2, lt2, w21, w2c, e1]
        have dd1 := hra.tlo
        have dd2 := hra.rlo
        have dd3 : idr ≠ id := nid hra.row (by decide)
        refine ⟨by omega, by repeat' (first | refine And.intro ?_ ?_ | (intro x hx; omega)), by repeat' (first | refine And.intro ?_ ?_ | (intro x hx; omega)), by omega, by omega, fin6 _ _ Rn q (q ++ [0]) idt gt cells idr w2 hra (by simp (config := { maxSteps := 1000000 }) only [go_sem, u3, appendA_U]) (by simp (config := { maxSteps := 1000000 }) only [go_sem, u4, appendA_U]) (by simp) (by simp) (by omega) (by omega) (by omega) hRn (by rw [h7]; rfl) (by rw [upd_next]; omega) (fun i h1 h2 h3 => by rw [upd_get, if_neg h2]; exact k2 i h1 h3) (by rw [upd_get, if_pos rfl]) fun H3 h7 h8 => ?_⟩
        have oW3 : OwnG (H.next + 3) H3 3 w2 (ints (q ++ [0])) := by
          have := oW.keep (H' := H3) (Nat.le_refl _) (by rw [h7, upd_next]; exact Nat.le_refl _) fun i g h1 _ h3 _ => by
            rw [h8 i (by omega), upd_get, if_neg]
            rintro rfl
            rw [(k2 _ hra.tlo.2 hra.ne).trans hra.top] at h3
            cases h3
          simpa [ints] using this
        exact oW3.fzI fun i h => by omega
    refine W.seq (vc_sound _ _ _ (by rfl) ?_)
    simp (config := { maxSteps := 1000000 }) only [go_sem, u101, h7, appendA_U]
    refine W.cond (t := false) rfl ?_
    by_cases h8 : c = 8
    · refine W.seq (vc_sound _ _ _ (by rfl) ?_)
      simp (config := { maxSteps := 1000000 }) only [go_sem, u101, h8, appendA_U]
      refine W.cond (t := true) rfl ?_
      rcases row with ⟨hR1, hRN⟩ | ⟨Rn, q, idt, gt, cells, idr, hR1, hra, hRn⟩
      · refine W.seq (vc_sound _ _ _ (by rfl) ?_)
        simp (config := { maxSteps := 1000000 }) only [go_sem, u11, hR1, appendA_U]
        refine W.cond (t := false) rfl ?_
        refine vc_sound _ _ _ (by rfl) ?_
        simp (config := { maxSteps := 1000000 }) only [go_sem, appendA_U]
        exact noch _ h0 (by omega) (by omega) (bnodeB_none (by omega) hRN) (by simp (config := { maxSteps := 1000000 }) only [go_sem, u3, appendA_U]) (by simp (config := { maxSteps := 1000000 }) only [go_sem, u4, appendA_U])
      · have hRl := get_lt hra.q
        have hrv := hra.rv
        have lt := get_live hra.top
        have lr := get_live hra.row
        have ltl := hra.len
        have hat := hra.at'
        have tne := ne_of_get hat
        have qe := (x3 q (List.mem_of_getElem? hra.q)).1
        have ql : 0 < q.length := List.length_pos_iff.2 qe
        have qli : (0 : Int) < q.length := by omega
        refine W.seq (vc_sound _ _ _ (by rfl) ?_)
        simp (config := { maxSteps := 1000000 }) only [go_sem, u10, u11, hR1, sid, c2, cne, hrv, lt, lr, ltl, hat, ql, qli, appendA_U]
        refine ⟨by omega, W.cond (t := true) rfl ?_⟩
        refine W.seq ?_
        refine W.draw 14 [0, 1, 3, 7, 0, 0, 32, 96, 224, 0, 992, 2016, 4064, 8160] Tryd.mixed (by kernel_rfl) (by kernel_rfl) ?_
        have dd1 := hra.tlo
        have dd2 := hra.rlo
        have dd3 : idr ≠ id := nid hra.row (by decide)
        have dd4 : idt ≠ id := nid hra.top (by decide)
        have hq2 := (x3 q (List.mem_of_getElem? hra.q)).2
        have lte : ∀ L, (ext Hs L).live idt gt = _ := fun L => (ext_live_old (by omega)).trans lt
        have side : ∀ L, (ext Hs L).live id gg = _ := fun L => (ext_live_old (by omega)).trans sid
        have e1 : setAt cells Rn [.own Hs.next 0 0 q.length 1] = cells.set Rn (.own Hs.next 0 0 q.length 1) := setAt_one (by omega)
        simp (config := { maxSteps := 1000000 }) only [go_sem, u2, u10, u11, hR1, s0, sid, c2, cne, hrv, lt, lr, ltl, hat, tne, ql, qli, lte, side, e1, appendA_U]
        obtain ⟨H2, hH2⟩ : ∃ H2, H2 = (ext Hs [.arr 0 3 (List.replicate q.length (.lit (.int .i64 0)))]).upd idt (.arr gt 22 (cells.set Rn (.own Hs.next 0 0 q.length 1))) := ⟨_, rfl⟩
        rw [← hH2]
        have n2 : H2.next = Hs.next + 1 := by rw [hH2]; rfl
        have k2 : ∀ i, i < Hs.next → i ≠ idt → H2.get i = Hs.get i := fun i h1 h2 => by rw [hH2, upd_get, if_neg h2]; exact get_ext_old _ _ _ h1
        have t2 : H2.get idt = some (.arr gt 22 (cells.set Rn (.own Hs.next 0 0 q.length 1))) := by rw [hH2, upd_get, if_pos rfl]
        have r2 : H2.get Hs.next = some (.arr 0 3 (List.replicate q.length (.lit (.int .i64 0)))) := by rw [hH2, upd_get, if_neg (by omega)]; exact get_ext0 ..
        clear hH2
        have lt2 := get_live t2
        have lr2 := get_live r2
        have lid2 := get_live ((k2 id z2 (fun h => dd4 h.symm)).trans z5)
        have l12 := get_live ((k2 (H.next + 1) (by omega) (by omega)).trans g1)
        have at2 : (cells.set Rn (.own Hs.next 0 0 q.length 1))[Rn]? = some (.own Hs.next 0 0 q.length 1) := List.getElem?_set_self (by omega)
        have tne2 := ne_of_get at2
        have len2 : (cells.set Rn (.own Hs.next 0 0 q.length 1)).length = x.rows.length := by rw [List.length_set]; exact ltl
        have rne : ¬ List.replicate q.length (AVal.lit (.int .i64 0)) = [] := fun h => by have := congrArg List.length h; rw [List.length_replicate, List.length_nil] at this; omega
        refine ⟨by omega, by omega, by repeat' (first | refine And.intro ?_ ?_ | (intro x hx; omega)), by omega, by omega, ?_⟩
        refine W.draw 9 [0, 1, 3, 7, 0, 31, 63, 0, 128] Tryd.mixed (by kernel_rfl) (by kernel_rfl) ?_
        simp (config := { maxSteps := 1000000 }) only [go_sem, u3, u10, u11, hR1, lid2, l12, c2, cne, hrv, lt2, lr2, at2, tne2, len2, rne, ql, qli, appendA_U]
        refine ⟨by omega, by rw [List.length_replicate]; omega, fin6 _ _ Rn q (g :: List.replicate (q.length - 1) 0) idt gt cells idr (.own Hs.next 0 0 q.length 1) hra (by simp (config := { maxSteps := 1000000 }) only [go_sem, u3, appendA_U]) (by simp (config := { maxSteps := 1000000 }) only [go_sem, u4, appendA_U]) (by simp) (by rw [List.length_cons, List.length_replicate]; omega) (by omega) (by omega) (by omega) hRn (by rw [h8]; rfl) (by rw [upd_next]; omega) (fun i h1 h2 _ => by rw [upd_get, if_neg (by omega)]; exact k2 i h1 h2) (by rw [upd_get, if_neg (by omega)]; exact t2) fun H3 h7 h8 => ?_⟩
        obtain ⟨ml, hml⟩ : ∃ ml, q.length = ml + 1 := ⟨q.length - 1, by omega⟩
        have hgr : H3.get Hs.next = some (.arr 0 3 (ints (g :: List.replicate ml 0))) := by
          rw [h8 Hs.next (by omega), upd_get, if_pos rfl, hml]
          simp [List.replicate_succ, ints, lin]
        unfold vecI
        rw [hml, Nat.add_sub_cancel, show (g :: List.replicate ml (0 : Int)).length = ml + 1 by simp]
        refine .frz (show H.next ≤ Hs.next by omega) hgr (by rw [ints_length]; simp) fun j hj h2 h' => ?_
        simp only [Nat.zero_add, ints, List.getElem_map]
        exact .lit _
    refine W.seq (vc_sound _ _ _ (by rfl) ?_)
    simp (config := { maxSteps := 1000000 }) only [go_sem, u101, h8, appendA_U]
    refine W.cond (t := false) rfl ?_
    by_cases h9 : c = 9
    · refine W.seq (vc_sound _ _ _ (by rfl) ?_)
      simp (config := { maxSteps := 1000000 }) only [go_sem, u101, h9, appendA_U]
      refine W.cond (t := true) rfl ?_
      rcases row with ⟨hR1, hRN⟩ | ⟨Rn, q, idt, gt, cells, idr, hR1, hra, hRn⟩
      · refine W.seq (vc_sound _ _ _ (by rfl) ?_)
        simp (config := { maxSteps := 1000000 }) only [go_sem, u11, hR1, appendA_U]
        refine W.cond (t := false) rfl ?_
        refine vc_sound _ _ _ (by rfl) ?_
        simp (config := { maxSteps := 1000000 }) only [go_sem, appendA_U]
        exact noch _ h0 (by omega) (by omega) (bnodeB_none (by omega) hRN) (by simp (config := { maxSteps := 1000000 }) only [go_sem, u3, appendA_U]) (by simp (config := { maxSteps := 1000000 }) only [go_sem, u4, appendA_U])
      · have hRl := get_lt hra.q
        have hrv := hra.rv
        have lt := get_live hra.top
        have lr := get_live hra.row
        have ltl := hra.len
        have hat := hra.at'
        have tne := ne_of_get hat
        have hq2 := (x3 q (List.mem_of_getElem? hra.q)).2
        have w1 := IntWalk.i64_in ((q.length : Int) - 1) (by omega)
        refine W.seq (vc_sound _ _ _ (by rfl) ?_)
        simp (config := { maxSteps := 1000000 }) only [go_sem, u11, hR1, appendA_U]
        refine W.cond (t := true) rfl ?_
        refine W.seq ?_
        refine W.draw 10 [0, 1, 3, 7, 0, 31, 63, 127, 255, 0] Tryd.mixed (by kernel_rfl) (by kernel_rfl) ?_
        simp (config := { maxSteps := 1000000 }) only [go_sem, u2, u10, u11, hR1, s0, sid, c2, cne, hrv, lt, lr, ltl, hat, tne, w1, appendA_U]
        have qe := (x3 q (List.mem_of_getElem? hra.q)).1
        have ql : 0 < q.length := List.length_pos_iff.2 qe
        refine ⟨by omega, W.block ?_⟩
        refine W.env fun E1 hE1 => ?_
        have y3 : E1 3 = .ptr (H.next + 1) 0 0 := by rw [hE1]; simp (config := { maxSteps := 1000000 }) only [go_sem, u3, appendA_U]
        have y4 : E1 4 = .ptr (H.next + 2) 0 0 := by rw [hE1]; simp (config := { maxSteps := 1000000 }) only [go_sem, u4, appendA_U]
        have y10 : E1 10 = .ptr id gg (A * 3) := by rw [hE1]; simp (config := { maxSteps := 1000000 }) only [go_sem, u10, appendA_U]
        have y11 : E1 11 = lin (Rn : Int) := by rw [hE1]; simp (config := { maxSteps := 1000000 }) only [go_sem, u11, hR1, appendA_U]
        have y12 : E1 12 = lin 0 := by rw [hE1]; simp (config := { maxSteps := 1000000 }) only [go_sem, appendA_U]
        have y13 : E1 13 = lin ((q.length : Int) - 1) := by rw [hE1]; simp (config := { maxSteps := 1000000 }) only [go_sem, appendA_U]
        clear hE1
        refine W.loop0 2085924839766484109564043631985174802744541411009508283535333416154492349816150761370611118080 (by kernel_rfl) (fun ρ Hy => ∃ (i k : Int) (l : List Int) (fu : Nat), ρ 12 = lin i ∧ ρ 13 = lin k ∧ 0 ≤ i ∧ k < q.length ∧ i ≤ q.length ∧ -1 ≤ k ∧ l.length = q.length ∧ Hy.next = Hs.next ∧ (∀ j, j ≠ idr → Hy.get j = Hs.get j) ∧ Hy.get idr = some (.arr 0 3 (ints l)) ∧ revS fu i k l = revS (q.length + 1) 0 ((q.length : Int) - 1) q ∧ k - i < fu) (fun ρ H => (iv (ρ 13) - iv (ρ 12) + 1).toNat) ?_ ?_
        · simp (config := { maxSteps := 1000000 }) only [go_sem, y12, y13, appendA_U]
          exact ⟨0, _, q, q.length + 1, rfl, rfl, by omega, by omega, by omega, by omega, rfl, hra.row, rfl, by omega⟩
        rintro ρ5 Hy ⟨i, k, l, fu, h12, h13, i0, k0, i1, k1, hl, ny, yo, yr, hrev, hfu⟩
        refine W.env fun E2 hE2 => ?_
        have a3 : E2 3 = .ptr (H.next + 1) 0 0 := by rw [hE2]; simp (config := { maxSteps := 1000000 }) only [go_sem, y3, appendA_U]
        have a4 : E2 4 = .ptr (H.next + 2) 0 0 := by rw [hE2]; simp (config := { maxSteps := 1000000 }) only [go_sem, y4, appendA_U]
        have a10 : E2 10 = .ptr id gg (A * 3) := by rw [hE2]; simp (config := { maxSteps := 1000000 }) only [go_sem, y10, appendA_U]
        have a11 : E2 11 = lin (Rn : Int) := by rw [hE2]; simp (config := { maxSteps := 1000000 }) only [go_sem, y11, appendA_U]
        have a12 : E2 12 = lin i := by rw [hE2]; simp (config := { maxSteps := 1000000 }) only [go_sem, h12, appendA_U]
        have a13 : E2 13 = lin k := by rw [hE2]; simp (config := { maxSteps := 1000000 }) only [go_sem, h13, appendA_U]
        clear hE2
        have dd1 := hra.tlo
        have dd2 := hra.rlo
        have dd3 : id ≠ idr := fun h => nid hra.row (by decide) h.symm
        have lidy := get_live ((yo id dd3).trans z5)
        have lty := get_live ((yo idt hra.ne).trans hra.top)
        have lry := get_live yr
        by_cases hik : i < k
        rotate_left
        · refine vc_sound _ _ _ (by rfl) ?_
          simp (config := { maxSteps := 1000000 }) only [go_sem, a12, a13, hik, appendA_U]
          refine fin6 _ _ Rn q l idt gt cells idr (.own idr 0 0 q.length 1) hra (by simp (config := { maxSteps := 1000000 }) only [go_sem, a3, appendA_U]) (by simp (config := { maxSteps := 1000000 }) only [go_sem, a4, appendA_U]) (fun h => by rw [h] at hl; simp at hl; omega) (by omega) (by omega) (by omega) (by omega) hRn (by rw [h9, show rowB 9 n g q = revS (q.length + 1) 0 ((q.length : Int) - 1) q from rfl, ← hrev, revS_done hik]) (by omega) (fun j _ _ h2 => yo j h2) (by rw [cset hra, yo idt hra.ne]; exact hra.top) fun H3 h7 h8 => fzrow hra H3 l hl (by rw [h8 idr (by omega)]; exact yr)
        obtain ⟨iN, rfl⟩ := Int.eq_ofNat_of_zero_le i0
        obtain ⟨kN, rfl⟩ := Int.eq_ofNat_of_zero_le (show 0 ≤ k by omega)
        obtain ⟨qa, hqa⟩ := get_of_lt (l := l) (i := iN) (by omega)
        obtain ⟨qb, hqb⟩ := get_of_lt (l := l) (i := kN) (by omega)
        have ia : (ints l)[iN]? = some (lin qa) := by rw [ints_get, hqa]; rfl
        have ib : (ints l)[kN]? = some (lin qb) := by rw [ints_get, hqb]; rfl
        have lne := ne_of_get ia
        have ill : (ints l).length = q.length := by rw [ints_length]; exact hl
        have b1' : (iN : Int) < q.length := by omega
        have b2' : (kN : Int) < q.length := by omega
        refine W.seq (vc_sound _ _ _ (by rfl) ?_)
        simp (config := { maxSteps := 1000000 }) only [go_sem, a12, a13, hik, appendA_U]
        refine W.seq (W.block ?_)
        refine W.seq (vc_sound _ _ _ (by rfl) ?_)
        simp (config := { maxSteps := 1000000 }) only [go_sem, a10, a11, a12, a13, lidy, c2, cne, hrv, lty, ltl, hat, tne, lry, ia, ib, lne, ill, b1', b2', appendA_U]
        refine ⟨by omega, ?_⟩
        refine W.seq ?_
        refine W.draw 18 [0, 1, 3, 7, 0, 31, 63, 0, 0, 256, 768, 1792, 0, 7936, 16128, 0, 65280, 130816] Tryd.mixed (by kernel_rfl) (by kernel_rfl) ?_
        have eA : setAt (ints l) iN [.lit (.int .i64 qb)] = ints (l.set iN qb) := setAt_ints (by omega)
        simp (config := { maxSteps := 1000000 }) only [go_sem, a10, a11, a12, a13, lidy, c2, cne, hrv, lty, ltl, hat, tne, lry, ia, ib, lne, ill, b1', b2', eA, appendA_U]
        refine ⟨by omega, by omega, by omega, ?_⟩
        obtain ⟨Hz, hHz⟩ : ∃ Hz, Hz = Hy.upd idr (.arr 0 3 (ints (l.set iN qb))) := ⟨_, rfl⟩
        rw [← hHz]
        have nz : Hz.next = Hs.next := by rw [hHz, upd_next]; exact ny
        have zo : ∀ j, j ≠ idr → Hz.get j = Hs.get j := fun j h => by rw [hHz, upd_get, if_neg h]; exact yo j h
        have zr : Hz.get idr = some (.arr 0 3 (ints (l.set iN qb))) := by rw [hHz, upd_get, if_pos rfl]
        clear hHz
        have lidz := get_live ((zo id dd3).trans z5)
        have ltz := get_live ((zo idt hra.ne).trans hra.top)
        have lrz := get_live zr
        have zll : (ints (l.set iN qb)).length = q.length := by rw [ints_length, List.length_set]; exact hl
        have zne : ¬ ints (l.set iN qb) = [] := fun h => by have := congrArg List.length h; rw [zll, List.length_nil] at this; omega
        have eB : setAt (ints (l.set iN qb)) kN [.lit (.int .i64 qa)] = ints ((l.set iN qb).set kN qa) := setAt_ints (by rw [List.length_set]; omega)
        have wk := IntWalk.i64_in ((kN : Int) - 1) (by omega)
        have wi := IntWalk.i64_in ((iN : Int) + 1) (by omega)
        refine vc_sound _ _ _ (by rfl) ?_
        simp (config := { maxSteps := 1000000 }) only [go_sem, a10, a11, a12, a13, lidz, c2, cne, hrv, ltz, ltl, hat, tne, lrz, zll, zne, b1', b2', eB, wk, wi, appendA_U]
        refine ⟨by omega, by omega, ?_⟩
        refine vc_sound _ _ _ (by rfl) ?_
        simp (config := { maxSteps := 1000000 }) only [go_sem, a12, a13, wi, appendA_U]
        obtain ⟨fv, rfl⟩ : ∃ fv, fu = fv + 1 := ⟨fu - 1, by omega⟩
        refine ⟨by rw [upd_next]; omega, ⟨(iN : Int) + 1, (kN : Int) - 1, (l.set iN qb).set kN qa, fv, rfl, rfl, by omega, by omega, by omega, by omega, by rw [List.length_set, List.length_set]; exact hl, by rw [upd_next]; exact nz, fun j h => by rw [upd_get, if_neg h]; exact zo j h, by rw [upd_get, if_pos rfl], by rw [← hrev, revS_step hik hqa hqb], by omega⟩, by rw [h12, h13]; simp only [lin, iv_int]; omega⟩
    refine W.seq (vc_sound _ _ _ (by rfl) ?_)
    simp (config := { maxSteps := 1000000 }) only [go_sem, u101, h9, appendA_U]
    refine W.cond (t := false) rfl ?_
    by_cases h10 : c = 10
    · refine W.seq (vc_sound _ _ _ (by rfl) ?_)
      simp (config := { maxSteps := 1000000 }) only [go_sem, u101, h10, appendA_U]
      refine W.cond (t := true) rfl ?_
      obtain ⟨He, hHe⟩ : ∃ He, He = ext Hs [.arr 0 3 [.lit (.int .i64 g)], .arr 0 22 [.own Hs.next 0 0 1 1]] := ⟨_, rfl⟩
      have ne' : He.next = Hs.next + 2 := by rw [hHe]; rfl
      have oe : Over Hs He := by rw [hHe]; exact .ext _ _
      have zO : OwnZ (H.next + 3) He 91 3 (.own id gg 0 ns.length 3) ns.length cs0 := .inr ⟨id, gg, z1, by omega, rfl, z4, (oe.old id z2).trans z5⟩
      obtain ⟨nh2, H2, hA2, oZ, n2, hp2⟩ := app_oneZ (P := Tryd.prog) (H := He) (t := 59) (xs := [.lit (.int .i64 1), .lit (.slice none 0 0), .own (Hs.next + 1) 0 0 1 1]) (m := Hs.next + 3) Tryd.underlying59 Tryd.cells91 Tryd.zero91 rfl rfl (by rw [Tryd.bytes91]; omega) zO (by omega) (by omega)
      have l12 := get_live ((hp2 (H.next + 1) (by omega) fun g' n hv => by have := (AVal.own.inj hv).1; omega).trans ((oe.old _ (by omega)).trans g1))
      have kk : ∀ i, i < He.next → i ≠ id → H2.get i = He.get i := fun i h1 h2 => hp2 i h1 fun g' n hv => h2 (AVal.own.inj hv).1.symm
      have r1 : He.get Hs.next = some (.arr 0 3 [.lit (.int .i64 g)]) := by rw [hHe]; exact get_ext Hs _ 0 (by simp)
      have r2 : He.get (Hs.next + 1) = some (.arr 0 22 [.own Hs.next 0 0 1 1]) := by rw [hHe]; exact get_ext Hs _ 1 (by simp)
      have nh1' := oZ.one
      have nhc' := oZ.cells
      rw [ne', hHe, ext_ext] at hA2
      simp only [List.cons_append, List.nil_append] at hA2
      refine vc_sound _ _ _ (by rfl) ?_
      simp (config := { maxSteps := 1000000 }) only [go_sem, u3, s1, hA2, l12, nh1', nhc']
      refine (hΦ _).2 ⟨by simp (config := { maxSteps := 1000000 }) only [go_sem, u3, appendA_U], by simp (config := { maxSteps := 1000000 }) only [go_sem, u4, appendA_U], g, nh2, ns ++ [⟨1, [], [[g]]⟩], cellsAt ns A (lin x.card) (vecI x.parents) (rowsE x) ++ [lin 1, vecI [], rowsE ⟨1, [], [[g]]⟩], by rw [upd_next]; omega, fun i h => by rw [upd_get, if_neg (by omega), kk i (by omega) (by omega), oe.old i (by omega)]; exact sold i h, by rw [upd_get, if_pos rfl], nh1', nhc', ?_, fun H3 h5 h6 => ?_, ⟨by have := hs.len; simp; omega, fun y hy => ?_⟩, nq0.snoc (x := ⟨1, [], [[g]]⟩) (.inr rfl) fun _ => rfl, fun h => absurd (hc.trans h) h0, by simp, by rw [← hc, h10]; unfold bendN; rw [hx]; rfl⟩
      · obtain ⟨q, hq, ql⟩ := g2'
        exact ⟨q, by rw [upd_get, if_neg (by omega), kk _ (by omega) (by omega), oe.old _ (by omega)]; exact hq, ql⟩
      · have hk3 : ∀ i, H.next + 3 ≤ i → H3.get i = H2.get i := fun i h => by rw [h6 i (by omega), upd_get, if_neg (by omega)]
        have n3 : H3.next = H2.next := by rw [h5, upd_next]
        have oZ3 := oZ.keep (H' := H3) (by omega) fun i g h1 _ _ => hk3 i h1
        have hN3 : NodO (H.next + 3) H3 pv rv ids x := hN.keepE (by omega) fun i g2 e2 c2 h1 h2 h3 h4 => by rw [hk3 i h1, kk i (by omega) (nid h3 h4), oe.old i h2]
        have hl1 : (ns ++ [(⟨1, [], [[g]]⟩ : NodeP)]).length = ns.length + 1 := by simp
        rw [hl1]
        refine fzZ oZ3 (fun i h => by show H.next ≤ i; omega) (by rw [hcs0]; simp [cellsAt_len]) fun i hi hi' => ?_
        have e1 := List.getElem?_eq_getElem hi
        have e2 := List.getElem?_eq_getElem hi'
        generalize (cs0 ++ [AVal.lit (.int .i64 1), .lit (.slice none 0 0), .own (Hs.next + 1) 0 0 1 1])[i] = u at e1 ⊢
        generalize (cellsAt ns A (lin x.card) (vecI x.parents) (rowsE x) ++ [lin 1, vecI [], rowsE ⟨1, [], [[g]]⟩])[i] = u' at e2 ⊢
        rw [hcs0] at e1
        by_cases hi3 : i < ns.length * 3
        · rw [List.getElem?_append_left (by rw [cellsAt_len]; exact hi3)] at e1 e2
          have := fz_cellsAt (S := fun i => H.next ≤ i) (H := H3) (nx := H.next) (ns := ns) (A := A) (c := x.card) (hN3.fzP (hgone _)) (hN3.fzR (hgone _)) i (by rw [cellsAt_len]; exact hi3) (by rw [cellsAt_len]; exact hi3)
          rw [List.getElem?_eq_getElem (by rw [cellsAt_len]; exact hi3)] at e1 e2
          rw [Option.some.inj e1, Option.some.inj e2] at this
          exact this
        · rw [List.getElem?_append_right (by rw [cellsAt_len]; omega), cellsAt_len] at e1 e2
          have hil : i < ns.length * 3 + 3 := by rw [List.length_append, hcs0, cellsAt_len] at hi; simpa using hi
          have h3 : i - ns.length * 3 = 0 ∨ i - ns.length * 3 = 1 ∨ i - ns.length * 3 = 2 := by omega
          rcases h3 with h | h | h <;> rw [h] at e1 e2 <;> cases e1 <;> cases e2
          · exact .lit _
          · exact .nil
          · have hr1 : H3.get (Hs.next + 1) = _ := (hk3 _ (by omega)).trans ((kk _ (by omega) (by omega)).trans r2)
            have hr0 : H3.get Hs.next = _ := (hk3 _ (by omega)).trans ((kk _ (by omega) (by omega)).trans r1)
            show Fz _ _ _ _ (vecV [[g]])
            refine .frz (show H.next ≤ Hs.next + 1 by omega) hr1 rfl fun j hj h2 h' => ?_
            obtain rfl : j = 0 := by omega
            refine .frz (show H.next ≤ Hs.next by omega) hr0 rfl fun j hj h2 h' => ?_
            obtain rfl : j = 0 := by omega
            exact .lit _
      · rcases List.mem_append.1 hy with hy | hy
        · exact hsm0.node y hy
        · obtain rfl := List.mem_singleton.1 hy
          exact ⟨by simp, by simp, fun r hr => by simp at hr; subst hr; exact ⟨by simp, by simp⟩⟩
    refine W.seq (vc_sound _ _ _ (by rfl) ?_)
    simp (config := { maxSteps := 1000000 }) only [go_sem, u101, h10, appendA_U]
    refine W.cond (t := false) rfl ?_
    refine vc_sound _ _ _ (by rfl) ?_
    have wn := IntWalk.i64_in ((ns.length : Int) - 1) (by omega)
    simp (config := { maxSteps := 1000000 }) only [go_sem, u3, s1, sid, wn, cl, appendA_U]
    refine ⟨by omega, (hΦ _).2 ⟨by simp (config := { maxSteps := 1000000 }) only [go_sem, u3, appendA_U], by simp (config := { maxSteps := 1000000 }) only [go_sem, u4, appendA_U], g, _, ns.take (ns.length - 1), (cellsAt ns A (lin x.card) (vecI x.parents) (rowsE x)).take ((ns.length - 1) * 3), by rw [upd_next]; exact Nat.le_refl _, fun i h => by rw [upd_get, if_neg (by omega)]; exact sold i h, by rw [upd_get, if_pos rfl], rfl, rfl, ?_, fun H3 h5 h6 => ?_, hsm0.take _, nq0.take _, fun h => absurd (hc.trans h) h0, by rw [List.length_take]; omega, by rw [← hc, show c = 11 by omega]; unfold bendN; rw [hx]; rfl⟩⟩
    · obtain ⟨q, hq, ql⟩ := g2'
      exact ⟨q, by rw [upd_get, if_neg (by omega)]; exact hq, ql⟩
    · have hk3 : ∀ i, H.next + 3 ≤ i → H3.get i = Hs.get i := fun i h => by rw [h6 i (by omega), upd_get, if_neg (by omega)]
      have hN3 : NodO (H.next + 3) H3 pv rv ids x := hN.keep (by rw [h5, upd_next]; exact Nat.le_refl _) fun i h1 _ => hk3 i h1
      have e1 : ((ns.length : Int) - 1).toNat = ns.length - 1 := by omega
      have e2 : (ns.take (ns.length - 1)).length = ns.length - 1 := by rw [List.length_take]; omega
      rw [e1, e2]
      refine .frz (show H.next ≤ id by omega) ((hk3 id z1).trans z5) (by rw [List.length_take, cellsAt_len]; omega) fun j hj h2 h' => ?_
      have e0 : 0 + j = j := Nat.zero_add j
      simp only [e0, hcs0, List.getElem_take]
      exact fz_cellsAt (hN3.fzP (hgone _)) (hN3.fzR (hgone _)) j _ _
  refine W.seq (vc_sound _ _ _ (by rfl) ?_)
  simp (config := { maxSteps := 1000000 }) only [go_sem, appendA_U]
  refine W.block ?_
  refine W.env fun E1 hE1 => ?_
  have a2 : E1 2 = .ptr H.next 0 0 := by rw [hE1]; simp (config := { maxSteps := 1000000 }) only [go_sem, e2, appendA_U]
  have a3 : E1 3 = .ptr (H.next + 1) 0 0 := by rw [hE1]; simp (config := { maxSteps := 1000000 }) only [go_sem, e3, appendA_U]
  have a4 : E1 4 = .ptr (H.next + 2) 0 0 := by rw [hE1]; simp (config := { maxSteps := 1000000 }) only [go_sem, e4, appendA_U]
  have a5 : E1 5 = .lit (.slice none 0 0) := by rw [hE1]; simp (config := { maxSteps := 1000000 }) only [go_sem, appendA_U]
  have a6 : E1 6 = lin 0 := by rw [hE1]; simp (config := { maxSteps := 1000000 }) only [go_sem, appendA_U]
  clear hE1
  refine W.loop0 1180591620717411271648 (by rfl) (fun ρ Hx => ∃ (k : Nat), ρ 6 = lin k ∧ k ≤ ns.length ∧ Hb.next ≤ Hx.next ∧ (∀ id, id < H.next + 3 → Hx.get id = Hb.get id) ∧ CopyI ns A (H.next + 3) k Hx (ρ 5)) (fun ρ H => ns.length - (iv (ρ 6)).toNat) ?_ ?_
  · simp (config := { maxSteps := 1000000 }) only [go_sem, a5, a6, appendA_U]
    refine ⟨0, rfl, by omega, .lit (.slice none 0 0), .lit (.slice none 0 0), ?_, rfl, rfl, fun h => absurd h (Nat.not_lt_zero _)⟩
    have : copyC ns A 0 (.lit (.slice none 0 0)) (.lit (.slice none 0 0)) = [] := rfl
    rw [this]
    exact .nil
  rintro ρ Hx ⟨k, h6, hk, nx, hold, hC⟩
  obtain ⟨nh, h5⟩ : ∃ nh, ρ 5 = nh := ⟨_, rfl⟩
  rw [h5] at hC
  refine W.env fun E2 hE2 => ?_
  have c2 : E2 2 = .ptr H.next 0 0 := by rw [hE2]; simp (config := { maxSteps := 1000000 }) only [go_sem, a2, appendA_U]
  have c3 : E2 3 = .ptr (H.next + 1) 0 0 := by rw [hE2]; simp (config := { maxSteps := 1000000 }) only [go_sem, a3, appendA_U]
  have c4 : E2 4 = .ptr (H.next + 2) 0 0 := by rw [hE2]; simp (config := { maxSteps := 1000000 }) only [go_sem, a4, appendA_U]
  have c5 : E2 5 = nh := by rw [hE2]; simp (config := { maxSteps := 1000000 }) only [go_sem, h5, appendA_U]
  have c6 : E2 6 = lin k := by rw [hE2]; simp (config := { maxSteps := 1000000 }) only [go_sem, h6, appendA_U]
  clear hE2
  have l1 := get_live ((hold _ (by omega)).trans b1)
  by_cases hb : (k : Int) < ns.length
  rotate_left
  · have hke : k = ns.length := by omega
    rw [hke] at hC
    refine vc_sound _ _ _ (by rfl) ?_
    simp (config := { maxSteps := 1000000 }) only [go_sem, c2, c3, c4, c5, c6, l1, hb, appendA_U]
    exact ⟨nx, hold, hC⟩
  obtain ⟨x, hx⟩ := get_of_lt (l := ns) (i := k) (by omega)
  have q0 := nodesC_0 hx
  have q1 := nodesC_1 hx
  have q2 := nodesC_2 hx
  have qn := nodesC_ne hx
  obtain ⟨x1, x2, x3⟩ := hs.node x (List.mem_of_getElem? hx)
  refine W.seq (vc_sound _ _ _ (by rfl) ?_)
  simp (config := { maxSteps := 1000000 }) only [go_sem, c3, c6, l1, hb, appendA_U]
  obtain ⟨pv, rv, hO, pv1, rv1, hNA⟩ := hC
  refine W.seq ?_
  refine W.postWeak (Q' := fun e s2 => e = .normal ∧ s2.ρ 6 = lin k ∧ Hx.next ≤ s2.H.next ∧ (∀ id, id < H.next + 3 → s2.H.get id = Hb.get id) ∧ (∀ i g e c, i < Hx.next → Hx.get i = some (.arr g e c) → e ≠ 91 → s2.H.get i = Hx.get i) ∧ ∃ pk rk ids, OwnZ (H.next + 3) s2.H 91 3 (s2.ρ 5) (k + 1) (copyC ns A k pv rv ++ [lin x.card, pk, rk]) ∧ NodO (Hx.next + 1) s2.H pk rk ids x) ?_ ?_
  rotate_left
  · rintro e s2 ⟨rfl, a6', nx2, old2, kp2, pk, rk, ids, oZ, nodK⟩
    have w1 := IntWalk.i64_in ((k : Int) + 1) (by omega)
    by_cases hkA : k = A
    · refine ⟨s2, .same, Nat.le_refl _, trivial, ?_⟩
      simp (config := { maxSteps := 1000000 }) only [go_sem, appendA_U]
      refine vc_sound _ _ _ (by rfl) ?_
      simp (config := { maxSteps := 1000000 }) only [go_sem, a6', w1, appendA_U]
      refine ⟨by omega, ⟨k + 1, rfl, by omega, by omega, old2, pk, rk, ?_, nodK.par.one, (ownM_one nodK.rows).1, fun _ => ⟨x, by rw [← hkA]; exact hx, ids, nodK.low (by omega)⟩⟩, by rw [h6]; simp only [lin, iv_int]; omega⟩
      rw [← hkA] at oZ ⊢
      rw [copyC_self hx] at oZ
      exact oZ
    · rcases oZ with ⟨_, h0, _⟩ | ⟨id, gg, z1, z2, z3, z4, z5⟩
      · omega
      have ec := copyC_other hx hkA pv rv
      have hgone : GoneN (fun i => Hx.next ≤ i ∧ i ≠ id) (Hx.next + 1) s2.H := fun i g e c h1 h2 h3 h4 => ⟨by omega, fun he => by
        subst he
        rw [z5] at h3
        cases h3
        exact h4 rfl⟩
      refine ⟨⟨s2.ρ, s2.H.meltX Hx.next id (.arr gg 91 (copyC ns A (k + 1) pv rv))⟩, WeakS.meltX G0_ok z5 (by rw [ec]; simp) (fun hbel i hi hi' => ?_), Nat.le_refl _, trivial, ?_⟩
      · have e1 := List.getElem?_eq_getElem hi
        have e2 := List.getElem?_eq_getElem hi'
        have hm := hbel _ (List.getElem_mem hi)
        generalize (copyC ns A k pv rv ++ [lin x.card, pk, rk])[i] = u at e1 hm ⊢
        generalize (copyC ns A (k + 1) pv rv)[i] = u' at e2 ⊢
        rw [ec] at e2
        by_cases hip : i < (copyC ns A k pv rv).length
        · rw [List.getElem?_append_left hip] at e1 e2
          rw [e1] at e2
          cases e2
          exact .dead hm
        · rw [List.getElem?_append_right (by omega)] at e1 e2
          have h3 : i - (copyC ns A k pv rv).length = 0 ∨ i - (copyC ns A k pv rv).length = 1 ∨ i - (copyC ns A k pv rv).length = 2 := by
            rw [List.length_append] at hi
            simp at hi
            omega
          rcases h3 with h | h | h <;> rw [h] at e1 e2 <;> cases e1 <;> cases e2
          · exact .lit _
          · exact nodK.fzP hgone
          · exact nodK.fzR hgone
      · simp (config := { maxSteps := 1000000 }) only [go_sem, appendA_U]
        refine vc_sound _ _ _ (by rfl) ?_
        simp (config := { maxSteps := 1000000 }) only [go_sem, a6', w1, appendA_U]
        have hmn : (s2.H.meltX Hx.next id (.arr gg 91 (copyC ns A (k + 1) pv rv))).next = s2.H.next := rfl
        refine ⟨by rw [hmn]; omega, ⟨k + 1, rfl, by omega, by rw [hmn]; omega, fun i hi => ?_, pv, rv, .inr ⟨id, gg, z1, by rw [hmn]; exact z2, z3, by rw [ec]; simpa using z4, meltX_ob⟩, pv1, rv1, fun hlt => ?_⟩, by rw [h6]; simp only [lin, iv_int]; omega⟩
        · rw [meltX_other (by omega) (by omega)]
          exact old2 i hi
        · obtain ⟨y, hy, ids', hNy⟩ := hNA (by omega)
          refine ⟨y, hy, ids', hNy.keepE (by rw [hmn]; omega) fun i g e c h1 h2 h3 h4 => ?_⟩
          rw [meltX_other h2 (fun he => by
            subst he
            rw [kp2 i g e c h2 h3 h4, h3] at z5
            cases z5
            exact h4 rfl)]
          exact kp2 i g e c h2 h3 h4
  refine W.block ?_
  refine W.seq (vc_sound _ _ _ (by rfl) ?_)
  simp (config := { maxSteps := 1000000 }) only [go_sem, c3, c6, l1, hb, q0, qn, appendA_U]
  obtain ⟨Hp, hHp⟩ : ∃ Hp, Hp = ext Hx [.arr 0 91 [.lit (.int .i64 x.card), .lit (.slice none 0 0), .lit (.slice none 0 0)]] := ⟨_, rfl⟩
  have np : Hp.next = Hx.next + 1 := by rw [hHp]; rfl
  have op : Over Hx Hp := by rw [hHp]; exact .ext _ _
  have gP : Hp.get Hx.next = some (.arr 0 91 [.lit (.int .i64 x.card), .lit (.slice none 0 0), .lit (.slice none 0 0)]) := by rw [hHp]; exact ext1_get_new
  rw [← hHp]
  clear hHp
  refine W.env fun E3 hE3 => ?_
  have d2 : E3 2 = .ptr H.next 0 0 := by rw [hE3]; simp (config := { maxSteps := 1000000 }) only [go_sem, c2, appendA_U]
  have d3 : E3 3 = .ptr (H.next + 1) 0 0 := by rw [hE3]; simp (config := { maxSteps := 1000000 }) only [go_sem, c3, appendA_U]
  have d5 : E3 5 = nh := by rw [hE3]; simp (config := { maxSteps := 1000000 }) only [go_sem, c5, appendA_U]
  have d6 : E3 6 = lin k := by rw [hE3]; simp (config := { maxSteps := 1000000 }) only [go_sem, c6, appendA_U]
  have d7 : E3 7 = .ptr Hx.next 0 0 := by rw [hE3]; simp (config := { maxSteps := 1000000 }) only [go_sem, appendA_U]
  clear hE3
  have lP := get_live gP
  have l1p : Hp.live (H.next + 1) 0 = _ := (op.live (by omega)).trans l1
  refine W.seq ?_
  refine W.draw 8 [0, 1, 0, 4, 0, 28, 60, 124] Tryd.mixed (by kernel_rfl) (by kernel_rfl) ?_
  simp (config := { maxSteps := 1000000 }) only [go_sem, d3, d6, d7, lP, l1p, hb, q1, qn]
  obtain ⟨pk, H2, hA2, oP, n2, hp2⟩ := app_vecG (P := Tryd.prog) (H := Hp) (t := 22) (n := Hp.next) (lo := Hp.next) (src := ints x.parents) Tryd.underlying22 Tryd.cells3 Tryd.zero3 (all_one_ints _) (by rw [Tryd.bytes3, ints_length, List.length_nil]; omega) .nil (Nat.le_refl _) rfl
  rw [List.nil_append] at oP
  rw [ints_length] at hA2
  have o2 : Over Hp H2 := ⟨n2, fun id h => hp2 id h fun g m => by simp⟩
  have lP2 : H2.live Hx.next 0 = _ := (o2.live (by omega)).trans lP
  have pk1 := oP.one
  have pkc := oP.cells
  simp (config := { maxSteps := 1000000 }) only [go_sem, d7, hA2, lP2, pk1, pkc]
  obtain ⟨H3, hH3⟩ : ∃ H3, H3 = H2.upd Hx.next (.arr 0 91 [.lit (.int .i64 x.card), pk, .lit (.slice none 0 0)]) := ⟨_, rfl⟩
  have n3 : H3.next = H2.next := by rw [hH3]; rfl
  have h3o : ∀ id, id < Hx.next → H3.get id = Hx.get id := fun id h => by rw [hH3, upd_get, if_neg (by omega), o2.old id (by omega), op.old id h]
  have h3P : H3.get Hx.next = some (.arr 0 91 [.lit (.int .i64 x.card), pk, .lit (.slice none 0 0)]) := by rw [hH3, upd_get, if_pos rfl]
  have h3N : NodO (Hx.next + 1) H3 pk (.lit (.slice none 0 0)) [] ⟨x.card, x.parents, x.rows.take 0⟩ := ⟨oP.keep (by omega) (by omega) fun id g h1 _ _ _ => by rw [hH3, upd_get, if_neg (by omega)], .nil, fun _ _ _ _ => by simp, fun _ => rfl⟩
  rw [← hH3]
  clear hH3 hA2 lP2 o2 hp2 oP
  refine W.env fun E4 hE4 => ?_
  have f2 : E4 2 = .ptr H.next 0 0 := by rw [hE4]; simp (config := { maxSteps := 1000000 }) only [go_sem, d2, appendA_U]
  have f3 : E4 3 = .ptr (H.next + 1) 0 0 := by rw [hE4]; simp (config := { maxSteps := 1000000 }) only [go_sem, d3, appendA_U]
  have f5 : E4 5 = nh := by rw [hE4]; simp (config := { maxSteps := 1000000 }) only [go_sem, d5, appendA_U]
  have f6 : E4 6 = lin k := by rw [hE4]; simp (config := { maxSteps := 1000000 }) only [go_sem, d6, appendA_U]
  have f7 : E4 7 = .ptr Hx.next 0 0 := by rw [hE4]; simp (config := { maxSteps := 1000000 }) only [go_sem, d7, appendA_U]
  clear hE4
  refine W.mid2 (fun s' => s'.ρ 5 = nh ∧ s'.ρ 6 = lin k ∧ s'.ρ 7 = .ptr Hx.next 0 0 ∧ Hx.next < s'.H.next ∧ (∀ id, id < Hx.next → s'.H.get id = Hx.get id) ∧ ∃ rk ids, s'.H.get Hx.next = some (.arr 0 91 [.lit (.int .i64 x.card), pk, rk]) ∧ NodO (Hx.next + 1) s'.H pk rk ids x) ?_ ?_
  · refine W.seq (vc_sound _ _ _ (by rfl) ?_)
    simp (config := { maxSteps := 1000000 }) only [go_sem, appendA_U]
    refine W.block ?_
    refine W.env fun E5 hE5 => ?_
    have g3 : E5 3 = .ptr (H.next + 1) 0 0 := by rw [hE5]; simp (config := { maxSteps := 1000000 }) only [go_sem, f3, appendA_U]
    have g5 : E5 5 = nh := by rw [hE5]; simp (config := { maxSteps := 1000000 }) only [go_sem, f5, appendA_U]
    have g6 : E5 6 = lin k := by rw [hE5]; simp (config := { maxSteps := 1000000 }) only [go_sem, f6, appendA_U]
    have g7 : E5 7 = .ptr Hx.next 0 0 := by rw [hE5]; simp (config := { maxSteps := 1000000 }) only [go_sem, f7, appendA_U]
    have g8 : E5 8 = lin 0 := by rw [hE5]; simp (config := { maxSteps := 1000000 }) only [go_sem, appendA_U]
    clear hE5
    refine W.loop0 73786975745082393344 (by rfl) (fun ρ2 Hy => ∃ (i : Nat) (rk : AVal) (ids : List Nat), ρ2 8 = lin i ∧ i ≤ x.rows.length ∧ H3.next ≤ Hy.next ∧ (∀ id, id < Hx.next → Hy.get id = Hx.get id) ∧ Hy.get Hx.next = some (.arr 0 91 [.lit (.int .i64 x.card), pk, rk]) ∧ NodO (Hx.next + 1) Hy pk rk ids ⟨x.card, x.parents, x.rows.take i⟩) (fun ρ H => x.rows.length - (iv (ρ 8)).toNat) ?_ ?_
    · simp (config := { maxSteps := 1000000 }) only [go_sem, g8, appendA_U]
      exact ⟨0, _, [], rfl, by omega, h3o, h3P, h3N⟩
    rintro ρ2 Hy ⟨i, rk, ids, h8, hi, ny, yo, yP, yN⟩
    have l1y := get_live ((yo _ (by omega)).trans ((hold _ (by omega)).trans b1))
    have lPy := get_live yP
    refine W.env fun E6 hE6 => ?_
    have k3 : E6 3 = .ptr (H.next + 1) 0 0 := by rw [hE6]; simp (config := { maxSteps := 1000000 }) only [go_sem, g3, appendA_U]
    have k5 : E6 5 = nh := by rw [hE6]; simp (config := { maxSteps := 1000000 }) only [go_sem, g5, appendA_U]
    have k6 : E6 6 = lin k := by rw [hE6]; simp (config := { maxSteps := 1000000 }) only [go_sem, g6, appendA_U]
    have k7 : E6 7 = .ptr Hx.next 0 0 := by rw [hE6]; simp (config := { maxSteps := 1000000 }) only [go_sem, g7, appendA_U]
    have k8 : E6 8 = lin i := by rw [hE6]; simp (config := { maxSteps := 1000000 }) only [go_sem, h8, appendA_U]
    clear hE6
    by_cases hbi : (i : Int) < x.rows.length
    rotate_left
    · refine vc_sound _ _ _ (by rfl) ?_
      simp (config := { maxSteps := 1000000 }) only [go_sem, k3, k5, k6, k7, k8, l1y, hb, q2, qn, vecV, hbi, appendA_U]
      rw [List.take_of_length_le (by omega)] at yN
      exact ⟨by omega, yo, rk, ids, yP, yN⟩
    obtain ⟨q, hq⟩ := get_of_lt (l := x.rows) (i := i) (by omega)
    obtain ⟨qe, ql⟩ := x3 q (List.mem_of_getElem? hq)
    have ql0 : 0 < q.length := List.length_pos_iff.2 qe
    have hqi : (x.rows.map vecI)[i]? = some (vecI q) := by rw [List.getElem?_map, hq]; rfl
    have hqn := ne_of_get hq
    refine W.seq (vc_sound _ _ _ (by rfl) ?_)
    simp (config := { maxSteps := 1000000 }) only [go_sem, k3, k6, k8, l1y, hb, q2, qn, vecV, hbi, appendA_U]
    refine W.seq (W.block ?_)
    refine W.seq (vc_sound _ _ _ (by rfl) ?_)
    simp (config := { maxSteps := 1000000 }) only [go_sem, appendA_U]
    have yN1 : x.rows.take (i + 1) = x.rows.take i ++ [q] := take_succ_get hq
    have hA1 := app_nilV (P := Tryd.prog) (H := Hy) (t := 22) (n := Hy.next) (src := ints q) Tryd.underlying22 Tryd.cells3 Tryd.zero3 (by rw [ints_length]; exact ql0) (by rw [Tryd.bytes3, ints_length]; omega) rfl
    obtain ⟨rk', Hz, hA3, oM, nz, pz⟩ := yN.rows.appF (P := Tryd.prog) (n := Hy.next + 1 + 1) (t := 48) (r := ints q) Tryd.underlying48 Tryd.cells22 Tryd.zero22 Tryd.bytes22 (by decide) (by rw [List.length_map, List.length_take]; omega) (by omega) rfl
    rw [ints_length] at hA1 hA3
    have lPe : ∀ L, (ext Hy L).live Hx.next 0 = _ := fun L => (ext_live_old (by omega)).trans lPy
    have l1e : ∀ L, (ext Hy L).live (H.next + 1) 0 = _ := fun L => (ext_live_old (by omega)).trans l1y
    obtain ⟨rv1, rvc⟩ := ownM_one oM
    have lPz : Hz.live Hx.next 0 = _ := get_live ((pz Hx.next (by omega) (yN.rows.ne yP (by decide))).trans yP)
    refine W.draw 14 [0, 1, 0, 0, 8, 0, 56, 120, 248, 0, 1016, 2040, 4092, 8188] Tryd.mixed (by kernel_rfl) (by kernel_rfl) ?_
    simp (config := { maxSteps := 1000000 }) only [go_sem, k3, k6, k7, k8, l1y, lPy, l1e, lPe, hb, q2, qn, vecV, hbi, hqi, hqn, hA1, hA3, lPz, rv1, rvc]
    refine ⟨⟨fun _ h => by omega, fun _ h => by omega⟩, ⟨fun _ h => by omega, fun _ h => by omega⟩, ?_⟩
    have w1 := IntWalk.i64_in ((i : Int) + 1) (by omega)
    have zo : ∀ id g e c, id < Hy.next → Hy.get id = some (.arr g e c) → e ≠ 22 → Hz.get id = Hy.get id := fun id g e c h h2 h3 => pz id h (yN.rows.ne h2 h3)
    refine vc_sound _ _ _ (by rfl) ?_
    simp (config := { maxSteps := 1000000 }) only [go_sem, k5, k6, k7, k8, w1, appendA_U]
    refine ⟨by rw [upd_next]; omega, ⟨i + 1, rk', ids ++ [Hy.next], rfl, by omega, by rw [upd_next]; omega, fun id h => ?_, by rw [upd_get, if_pos rfl], ?_⟩, by rw [h8]; simp only [lin, iv_int]; omega⟩
    · rw [upd_get, if_neg (by omega), pz id (by omega) (yN.rows.top.ne (by omega))]
      exact yo id h
    · rw [yN1]
      have oM' : OwnM (Hx.next + 1) (Hz.upd Hx.next (.arr 0 91 [.lit (.int .i64 x.card), pk, rk'])) 22 3 rk' (ids ++ [Hy.next]) ((x.rows.take i ++ [q]).map ints) := by
        rw [List.map_append]
        exact oM.keep (by rw [upd_next]; exact Nat.le_refl _) fun id h1 _ => by rw [upd_get, if_neg (by omega)]
      refine ⟨yN.par.keep (Nat.le_refl _) (by rw [upd_next]; omega) fun id g h1 h2 h3 _ => by rw [upd_get, if_neg (by omega)]; exact zo id _ _ _ h2 h3 (by decide), oM', fun id g m hp hm => ?_, fun e => absurd e (by simp)⟩
      rcases List.mem_append.1 hm with hm | hm
      · exact yN.dj id g m hp hm
      · obtain rfl := List.mem_singleton.1 hm
        rcases yN.par with ⟨h1, _⟩ | ⟨i2, g2, _, h2, h1, _⟩
        · rw [h1] at hp; cases hp
        · rw [h1] at hp
          have := (AVal.own.inj hp).1
          omega
  rintro ⟨ρn, Hn⟩ ⟨m5, m6, m7, nN, oN, rk, ids, gN, nodN⟩
  simp only at m5 m6 m7 nN oN gN nodN
  have lN := get_live gN
  have rk1 := (ownM_one nodN.rows).1
  have rkc := (ownM_one nodN.rows).2
  have hOn := hO.keep (H' := Hn) (by omega) fun id g _ h _ => oN id h
  obtain ⟨nh', H5, hA5, oZ, n5, p5⟩ := app_oneZ (P := Tryd.prog) (H := Hn) (t := 59) (xs := [.lit (.int .i64 x.card), pk, rk]) (m := Hn.next + 1) Tryd.underlying59 Tryd.cells91 Tryd.zero91 (by simp only [List.all_cons, List.all_nil, pk1, rk1]; rfl) rfl (by rw [Tryd.bytes91]; omega) hOn (by omega) rfl
  have nhe : ∀ id g e c, Hn.get id = some (.arr g e c) → e ≠ 91 → ∀ g m, nh ≠ .own id g 0 m 3 := fun id g e c h1 h2 g' m hv => by
    rcases hOn with ⟨h, _⟩ | ⟨i2, g2, _, _, h, _, h4⟩
    · rw [h] at hv; cases hv
    · rw [h] at hv
      obtain rfl := (AVal.own.inj hv).1
      rw [h4] at h1
      cases h1
      exact h2 rfl
  have nh1 := oZ.one
  have nhc := oZ.cells
  refine vc_sound _ _ _ (by rfl) ?_
  simp (config := { maxSteps := 1000000 }) only [go_sem, m5, m6, m7, lN, hA5, nh1, nhc, pk1, pkc, rk1, rkc]
  have keepE : ∀ id g e c, id < Hn.next → Hn.get id = some (.arr g e c) → e ≠ 91 → H5.get id = Hn.get id := fun id g e c h1 h2 h3 => p5 id h1 (nhe id g e c h2 h3)
  refine ⟨by omega, fun id h => ?_, fun i g e c h1 h2 h3 => by rw [keepE i g e c (by omega) ((oN i h1).trans h2) h3, oN i h1], pk, rk, ids, oZ, nodN.keepE n5 fun id g e c _ h1 h2 h3 => keepE id g e c h1 h2 h3⟩
  · rw [p5 id (by omega) (hOn.ne h), oN id (by omega)]
    exact hold id h
end Go.Proofs
