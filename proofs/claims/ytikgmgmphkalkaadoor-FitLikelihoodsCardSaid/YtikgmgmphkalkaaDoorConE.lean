/- Own work: contracts. -/
import Derived.Test.YtikgmgmphkalkaaDoorConD
set_option linter.all false
set_option maxRecDepth 100000
namespace Go.Proofs
open Go.Hx
def FrN (H1 H' : AHeap) (N : Nat) (cs : List AVal) : Prop := H1.next ≤ H'.next ∧ (∀ id, id < H1.next → id ≠ N → H'.get id = H1.get id) ∧ H'.get N = some (.arr 0 91 cs)
theorem nodesZ_set0 {l : List NodeP} {i : Nat} {x y : NodeP} (h : l[i]? = some x) (hr : x.rows = []) (hy : y.rows = []) : nodesZ (l.set i y) = (nodesZ l).set (i * 3) (lin y.card) := by
  have hl := get_lt h
  have h1 := flat_set (f := NodeP.cellsZ) (z := 3) cellsZ_len l i y hl
  have h2 := flat_part (f := NodeP.cellsZ) (z := 3) cellsZ_len l i x h
  have e1 : x.cellsZ = [lin x.card, .lit (.slice none 0 0), .lit (.slice none 0 0)] := if_pos hr
  have e2 : y.cellsZ = [lin y.card, .lit (.slice none 0 0), .lit (.slice none 0 0)] := if_pos hy
  unfold nodesZ
  rw [h1, e2]
  rw [e1] at h2
  have h3 : (l.map NodeP.cellsZ).flatten = ((l.map NodeP.cellsZ).flatten).take (i * 3) ++ ([lin x.card, .lit (.slice none 0 0), .lit (.slice none 0 0)] ++ ((l.map NodeP.cellsZ).flatten).drop (i * 3 + 3)) := by
    rw [← h2, ← List.drop_drop, List.take_append_drop, List.take_append_drop]
  have hlen : (((l.map NodeP.cellsZ).flatten).take (i * 3)).length = i * 3 := by
    rw [List.length_take, flat_len (f := NodeP.cellsZ) (z := 3) cellsZ_len]; omega
  conv => rhs; rw [h3]
  rw [List.set_append_right _ _ (by omega), hlen]
  simp
theorem permF_mem (ord : List Int) : ∀ (n v : Nat), v < n → (v : Int) ∈ permF ord n
  | 0, v, h => by omega
  | n + 1, v, h => by
    unfold permF
    by_cases hv : v = n
    · subst hv; simp
    · have := permF_mem ord n v (by omega)
      rw [← List.take_append_drop (permAt ord n) (permF ord n)] at this
      rcases List.mem_append.1 this with h | h
      · exact List.mem_append_left _ h
      · exact List.mem_append_right _ (List.mem_cons_of_mem _ h)
structure DoneN (g : Int) (cs P : List Int) (n j : Nat) (x : NodeP) : Prop where
  pl : PlacesOk x.parents n
  p3 : x.parents.length ≤ 3
  rk : ∀ q ∈ x.parents, ∃ k, k < j ∧ P[k]? = some q
  rl : (x.rows.length : Int) = prodL (atL cs x.parents)
  ro : ∀ r ∈ x.rows, RowOk g x.card r
  ne : x.rows ≠ []
structure LoopN (g : Int) (cs P : List Int) (n i : Nat) (ns : List NodeP) : Prop where
  len : ns.length = n
  cards : cardsL ns = cs
  todo : ∀ (j v : Nat) (x : NodeP), i ≤ j → P[j]? = some (v : Int) → ns[v]? = some x → x.rows = [] ∧ x.parents = []
  done : ∀ (j v : Nat) (x : NodeP), j < i → P[j]? = some (v : Int) → ns[v]? = some x → DoneN g cs P n j x
theorem nodesZ_set {l : List NodeP} {i : Nat} {x y : NodeP} (h : l[i]? = some x) (hy : y.card = x.card) (hr : y.rows ≠ []) : nodesZ (l.set i y) = ((nodesZ l).set (i * 3 + 1) (vecI y.parents)).set (i * 3 + 2) (vecV y.rows) := by
  have hl := get_lt h
  have h1 := flat_set (f := NodeP.cellsZ) (z := 3) cellsZ_len l i y hl
  have h2 := flat_part (f := NodeP.cellsZ) (z := 3) cellsZ_len l i x h
  unfold nodesZ
  rw [h1]
  have h3 : (l.map NodeP.cellsZ).flatten = ((l.map NodeP.cellsZ).flatten).take (i * 3) ++ (x.cellsZ ++ ((l.map NodeP.cellsZ).flatten).drop (i * 3 + 3)) := by
    rw [← h2, ← List.drop_drop, List.take_append_drop, List.take_append_drop]
  have hlen : (((l.map NodeP.cellsZ).flatten).take (i * 3)).length = i * 3 := by
    rw [List.length_take, flat_len (f := NodeP.cellsZ) (z := 3) cellsZ_len]; omega
  have ex : ∃ b c, x.cellsZ = [lin x.card, b, c] := by unfold NodeP.cellsZ; split <;> exact ⟨_, _, rfl⟩
  obtain ⟨b, c, ex⟩ := ex
  have ey : y.cellsZ = [lin y.card, vecI y.parents, vecV y.rows] := if_neg hr
  conv => rhs; rw [h3]
  rw [List.set_append_right _ _ (by omega), List.set_append_right _ _ (by omega), hlen, show i * 3 + 1 - i * 3 = 1 by omega, show i * 3 + 2 - i * 3 = 2 by omega, ex, ey]
  simp [hy]
structure ParU (P : List Int) (i u k : Nat) (l : List Int) : Prop where
  pw : l.Pairwise (· < ·)
  rng : ∀ q ∈ l, 0 ≤ q ∧ (q < u ∨ (q = u ∧ ∃ k', k' < k ∧ P[k']? = some q))
  p3 : l.length ≤ 3
  rk : ∀ q ∈ l, ∃ k', k' < i ∧ P[k']? = some q
theorem ParU.skip {P : List Int} {i u k : Nat} {l : List Int} (h : ParU P i u k l) : ParU P i u (k + 1) l := ⟨h.pw, fun q hq => ⟨(h.rng q hq).1, (h.rng q hq).2.imp id fun ⟨a, k', b, c⟩ => ⟨a, k', by omega, c⟩⟩, h.p3, h.rk⟩
theorem ParU.next {P : List Int} {i u k : Nat} {l : List Int} (h : ParU P i u k l) : ParU P i (u + 1) 0 l := ⟨h.pw, fun q hq => ⟨(h.rng q hq).1, .inl (by rcases (h.rng q hq).2 with h1 | h1 <;> omega)⟩, h.p3, h.rk⟩
theorem ParU.add {P : List Int} {n i u k : Nat} {l : List Int} (hP : IsPerm n P) (h : ParU P i u k l) (hk : k < i) (hu : P[k]? = some (u : Int)) (h3 : l.length < 3) : ParU P i u (k + 1) (l ++ [(u : Int)]) := by
  have lt : ∀ q ∈ l, q < u := fun q hq => by
    rcases (h.rng q hq).2 with h1 | ⟨h1, k', h2, h4⟩
    · exact h1
    · exfalso
      have e : P[k']? = P[k]? := by rw [h4, hu, h1]
      have := (List.getElem?_inj (get_lt h4) hP.nd).1 e
      omega
  refine ⟨List.pairwise_append.2 ⟨h.pw, by simp, fun a ha b hb => by obtain rfl := List.mem_singleton.1 hb; exact lt a ha⟩, fun q hq => ?_, by simp; omega, fun q hq => ?_⟩
  · rcases List.mem_append.1 hq with h1 | h1
    · exact ⟨(h.rng q h1).1, .inl (lt q h1)⟩
    · obtain rfl := List.mem_singleton.1 h1
      exact ⟨by omega, .inr ⟨rfl, k, by omega, hu⟩⟩
  · rcases List.mem_append.1 hq with h1 | h1
    · exact h.rk q h1
    · obtain rfl := List.mem_singleton.1 h1
      exact ⟨k, hk, hu⟩
def PSt (Hz Hx : AHeap) (N at' : Nat) (C : List AVal) (pv : AVal) (l : List Int) : Prop := FrN Hz Hx N (C.set at' pv) ∧ OwnG Hz.next Hx 3 pv (ints l)
set_option maxHeartbeats 4000000 in
theorem net05_spec (g0 : Int) (ps : List DrP) (ord : List Int) (hg0 : U8 g0) (hps : ∀ x ∈ ps, x.Ok) (hpl : (ps.length : Int) < 2 ^ 63) (hol : (ord.length : Int) < 2 ^ 63) (ho8 : ∀ x ∈ ord, U8 x) (H : AHeap) (K : ARes → AHeap → Prop)
    (hK : ∀ g ns N H', Over H H' → H.next ≤ N → N < H'.next → H'.get N = some (.arr 0 91 (nodesC ns)) → NetOk g ns → ns.length ≤ 5 → (∀ x ∈ ns, x.parents.length ≤ 3) → K (.ret (.agg [lin g, .own N 0 0 ns.length 3])) H') :
    ACall Tryd.prog G0 25 [draft05V g0 ps ord] H K := by
  refine ACall.of_body (n := 187) (rs := [.cell 2 61]) Tryd.func25 rfl rfl rfl (by decide) (by kernel_rfl) (by simp) ?_
  obtain ⟨n, hn⟩ : ∃ n : Nat, min (max ps.length 1) 5 = n := ⟨_, rfl⟩
  have h51 : 1 ≤ n ∧ n ≤ 5 := by omega
  have hmn : (if 5 < (if (1 : Int) > ps.length then 1 else (ps.length : Int)) then 5 else (if (1 : Int) > ps.length then 1 else (ps.length : Int))) = (n : Int) := by split <;> split <;> omega
  have t0 : g0.tmod 60 = g0 % 60 := Int.tmod_eq_emod_of_nonneg hg0.1
  have w0 : IntKind.u8.wrap (g0 % 60) = g0 % 60 := IntWalk.u8_in _ (by omega)
  have w1 : IntKind.i64.wrap (g0 % 60) = g0 % 60 := IntWalk.i64_in _ (by omega)
  have w2 := IntWalk.i64_in (1 + g0 % 60) (by omega)
  obtain ⟨g, hg⟩ : ∃ g, 1 + g0 % 60 = g := ⟨_, rfl⟩
  have hg1 : 1 ≤ g ∧ g ≤ 60 := by omega
  rw [hg] at w2
  simp (config := { maxSteps := 1000000 }) only [go_sem, draft05V, appendA_U]
  refine W.draw 9 [0, 1, 3, 7, 15, 0, 32, 127, 0] Tryd.mixed (by kernel_rfl) (by kernel_rfl) ?_
  simp (config := { maxSteps := 1000000 }) only [go_sem, hmn, t0, w0, w1, hg, w2, appendA_U]
  refine ⟨by omega, ⟨⟨by omega, by omega⟩, ⟨by omega, by omega⟩, ?_⟩⟩
  obtain ⟨H1, hH1⟩ : ∃ H1, H1 = ext (ext H [.arr 0 72 [.lit (.int .u8 g0), .vec ps.length (drC ps), .vec ord.length (bytesL ord)], .arr 0 61 [.lit (.int .i64 0), .lit (.slice none 0 0)], .arr 0 91 (List.replicate n [AVal.lit (.int .i64 0), .lit (.slice none 0 0), .lit (.slice none 0 0)]).flatten]) [.arr 0 61 [.lit (.int .i64 g), .own (H.next + 2) 0 0 n 3]] := ⟨_, rfl⟩
  refine W.env fun E hE => ?_
  have e1 : E 1 = .ptr H.next 0 0 := by rw [hE]; simp (config := { maxSteps := 1000000 }) only [go_sem, appendA_U]
  have e2 : E 2 = .ptr (H.next + 1) 0 0 := by rw [hE]; simp (config := { maxSteps := 1000000 }) only [go_sem, appendA_U]
  have e3 : E 3 = lin n := by rw [hE]; simp (config := { maxSteps := 1000000 }) only [go_sem, appendA_U]
  have e4 : E 4 = .ptr (H.next + 3) 0 0 := by rw [hE]; simp (config := { maxSteps := 1000000 }) only [go_sem, appendA_U]
  clear hE
  show W _ _ _ _ _ _ ⟨E, ext (ext H [.arr 0 72 [.lit (.int .u8 g0), .vec ps.length (drC ps), .vec ord.length (bytesL ord)], .arr 0 61 [.lit (.int .i64 0), .lit (.slice none 0 0)], .arr 0 91 (List.replicate n [AVal.lit (.int .i64 0), .lit (.slice none 0 0), .lit (.slice none 0 0)]).flatten]) [.arr 0 61 [.lit (.int .i64 g), .own (H.next + 2) 0 0 n 3]]⟩
  rw [← hH1]
  have n1 : H1.next = H.next + 4 := by rw [hH1]; rfl
  have o1 : Over H H1 := by rw [hH1]; exact (Over.ext _ _).trans (.ext _ _)
  have g0' : H1.get H.next = some (.arr 0 72 [.lit (.int .u8 g0), .vec ps.length (drC ps), .vec ord.length (bytesL ord)]) := by rw [hH1, ext_ext]; exact get_ext0 ..
  have g1' : H1.get (H.next + 1) = some (.arr 0 61 [.lit (.int .i64 0), .lit (.slice none 0 0)]) := by rw [hH1, ext_ext]; exact get_ext H _ 1 (by simp)
  have g2' : H1.get (H.next + 2) = some (.arr 0 91 (nodesZ (List.replicate n ⟨0, [], []⟩))) := by
    rw [hH1, ext_ext, show nodesZ (List.replicate n ⟨0, [], []⟩) = (List.replicate n [AVal.lit (.int .i64 0), .lit (.slice none 0 0), .lit (.slice none 0 0)]).flatten by unfold nodesZ; rw [List.map_replicate]; rfl]
    exact get_ext H _ 2 (by simp)
  have g3' : H1.get (H.next + 3) = some (.arr 0 61 [.lit (.int .i64 g), .own (H.next + 2) 0 0 n 3]) := by rw [hH1, ext_ext]; exact get_ext H _ 3 (by simp)
  clear hH1
  have l0 := get_live g0'
  have l1 := get_live (show (ext H1 [.arr 0 5 (List.replicate n (.lit (.int .u8 0)))]).get H.next = some (.arr 0 72 [.lit (.int .u8 g0), .vec ps.length (drC ps), .vec ord.length (bytesL ord)]) by rw [get_ext_old _ _ _ (by omega)]; exact g0')
  refine W.draw 4 [0, 1, 0, 4] Tryd.mixed (by kernel_rfl) (by kernel_rfl) ?_
  simp (config := { maxSteps := 1000000 }) only [go_sem, e1, e3, l0, l1, appendA_U]
  refine ⟨⟨by omega, by omega⟩, by omega, by omega, ?_⟩
  obtain ⟨H2, hH2⟩ : ∃ H2, H2 = ext H1 [.arr 0 5 (List.replicate n (.lit (.int .u8 0)))] := ⟨_, rfl⟩
  have gb : H2.get H1.next = some (.arr 0 5 (List.replicate n (.lit (.int .u8 0)))) := by rw [hH2]; exact ext1_get_new
  rw [← hH2]
  refine AApply.clo ((ACall.frame (H := H2) (args := [.agg [.own H1.next 0 0 n 1, .lit (.int .u16 0), .vec ord.length (bytesL ord)]]) (args' := [.agg [.vec n (bytesL (List.replicate n 0)), .lit (.int .u16 0), .vec ord.length (bytesL ord)]]) (v' := vecI (permF ord n)) G0_ok rfl (fun i hi _ => ?_) (perm_spec n h51.2 ord hol ho8 noH _ fun v H' _ ho => ⟨_, rfl, ho.freshI⟩)).mono fun r H' hr => ?_)
  · match i, hi with
    | 0, _ =>
      refine .agg rfl fun i hi _ => ?_
      match i, hi with
      | 0, _ =>
        have : bytesL (List.replicate n 0) = List.replicate n (.lit (.int .u8 0)) := by unfold bytesL; rw [List.map_replicate]
        rw [this]
        exact Fz.ownRead gb (by simp) fun c hc => ⟨_, List.eq_of_mem_replicate hc⟩
      | 1, _ => exact .lit _
      | 2, _ => exact .vec rfl fun i hi _ => by simp only [bytesL, List.getElem_map]; exact .lit _
  obtain ⟨rfl, rfl⟩ := hr
  refine ⟨trivial, ?_⟩
  have hperm := permF_ok ord n
  obtain ⟨P, hP⟩ : ∃ P, P = permF ord n := ⟨_, rfl⟩
  rw [← hP] at hperm ⊢
  have n2 : H'.next = H1.next + 1 := by rw [hH2]; rfl
  have F0 : FrN H1 H' (H.next + 2) (nodesZ (List.replicate n ⟨0, [], []⟩)) := by
    rw [hH2]
    exact ⟨by simp [ext_next], fun id h _ => get_ext_old _ _ _ h, by rw [get_ext_old _ _ _ (by omega)]; exact g2'⟩
  clear hH2 gb
  simp (config := { maxSteps := 1000000 }) only [go_sem, e3, appendA_U]
  have bs : ∀ k : Nat, k ≤ 5 → (3 : Int) ^ k ≤ 243 := fun k hk => by
    have : (3 : Nat) ^ k ≤ 3 ^ 5 := Nat.pow_le_pow_right (by decide) hk
    have h2 : ((3 ^ k : Nat) : Int) ≤ ((3 ^ 5 : Nat) : Int) := by exact_mod_cast this
    push_cast at h2
    exact h2
  refine W.loop0 151115727451794287100864 (by rfl) (fun ρ Hx => ∃ (i : Nat) (ns : List NodeP) (Wd : Int), ρ 7 = lin i ∧ i ≤ n ∧ ns.length = n ∧ (∀ x ∈ ns, x.rows = [] ∧ x.parents = []) ∧ (∀ j v : Nat, j < i → P[j]? = some (v : Int) → ∃ x, ns[v]? = some x ∧ 2 ≤ x.card ∧ x.card ≤ 3) ∧ ρ 6 = lin Wd ∧ 1 ≤ Wd ∧ Wd ≤ 3 ^ i ∧ H'.next ≤ Hx.next ∧ FrN H1 Hx (H.next + 2) (nodesZ ns)) (fun ρ H => n - (iv (ρ 7)).toNat) ?_ ?_
  · simp (config := { maxSteps := 1000000 }) only [go_sem, appendA_U]
    exact ⟨0, _, 1, rfl, by omega, by simp, fun x hx => by obtain rfl := List.eq_of_mem_replicate hx; exact ⟨rfl, rfl⟩, fun j v hj => by omega, rfl, by omega, by simp, F0⟩
  rintro ρ Hx ⟨i, ns, Wd, h7, hi, hnl, hnz, hnc, h6, hW1, hW3, hnx, hF⟩
  refine W.env fun E2 hE2 => ?_
  have f1 : E2 1 = .ptr H.next 0 0 := by rw [hE2]; simp (config := { maxSteps := 1000000 }) only [go_sem, e1, appendA_U]
  have f2 : E2 2 = .ptr (H.next + 1) 0 0 := by rw [hE2]; simp (config := { maxSteps := 1000000 }) only [go_sem, e2, appendA_U]
  have f3 : E2 3 = lin n := by rw [hE2]; simp (config := { maxSteps := 1000000 }) only [go_sem, e3, appendA_U]
  have f4 : E2 4 = .ptr (H.next + 3) 0 0 := by rw [hE2]; simp (config := { maxSteps := 1000000 }) only [go_sem, e4, appendA_U]
  have f5 : E2 5 = vecI P := by rw [hE2]; simp (config := { maxSteps := 1000000 }) only [go_sem, appendA_U]
  have f6 : E2 6 = lin Wd := by rw [hE2]; simp (config := { maxSteps := 1000000 }) only [go_sem, h6, appendA_U]
  have f7 : E2 7 = lin i := by rw [hE2]; simp (config := { maxSteps := 1000000 }) only [go_sem, h7, appendA_U]
  clear hE2
  refine vc_sound _ _ _ (by rfl) ?_
  have hPl := hperm.len
  have hFn := hF.1
  have m0 := get_live ((hF.2.1 H.next (by omega) (by omega)).trans g0')
  have m3 := get_live ((hF.2.1 (H.next + 3) (by omega) (by omega)).trans g3')
  have mN := get_live hF.2.2
  have m0' : ∀ L, (ext Hx L).live H.next 0 = some (72, [.lit (.int .u8 g0), .vec ps.length (drC ps), .vec ord.length (bytesL ord)]) := fun L => (ext_live_old (by omega)).trans m0
  have m3' : ∀ L, (ext Hx L).live (H.next + 3) 0 = some (61, [.lit (.int .i64 g), .own (H.next + 2) 0 0 n 3]) := fun L => (ext_live_old (by omega)).trans m3
  have mN' : ∀ L, (ext Hx L).live (H.next + 2) 0 = some (91, nodesZ ns) := fun L => (ext_live_old (by omega)).trans mN
  by_cases hb : (i : Int) < n
  · obtain ⟨pv, hpv⟩ := get_of_lt (l := P) (i := i) (by omega)
    have hpr := hperm.rng pv (List.mem_of_getElem? hpv)
    obtain ⟨v, rfl⟩ := Int.eq_ofNat_of_zero_le hpr.1
    obtain ⟨x, hx⟩ := get_of_lt (l := ns) (i := v) (by omega)
    have hpne := ne_of_get hpv
    have hz0 := nodesZ_0 hx
    have hzne := ne_of_get hz0
    have hzl := nodesZ_len ns
    have hv : (v : Int) < n := hpr.2
    have hv0 : (v : Int) ≥ 0 := hpr.1
    have hiP : (i : Int) < P.length := by omega
    have w3 := bs i (by omega)
    have i1 := IntWalk.i64_in ((i : Int) + 1) (by omega)
    have i2 := IntWalk.i64_in ((n : Int) - 1) (by omega)
    have i3 := IntWalk.i64_in ((n : Int) - 1 - i) (by omega)
    have i4 := IntWalk.u64_in ((n : Int) - 1 - i) (by omega)
    have fin : ∀ (c : Int) (B : Blk), 2 ≤ c ∧ c ≤ 3 → v * 3 + 1 ≤ (nodesZ ns).length ∧ H'.next ≤ ((ext Hx [B]).upd (H.next + 2) (.arr 0 91 (setAt (nodesZ ns) (v * 3) [.lit (.int .i64 c)]))).next ∧
        (∃ (i_1 : Nat) (ns_1 : List NodeP) (Wd_1 : Int), AVal.lit (.int .i64 ((i : Int) + 1)) = .lit (.int .i64 i_1) ∧ i_1 ≤ n ∧ ns_1.length = n ∧ (∀ x ∈ ns_1, x.rows = [] ∧ x.parents = []) ∧ (∀ j v : Nat, j < i_1 → P[j]? = some (v : Int) → ∃ x, ns_1[v]? = some x ∧ 2 ≤ x.card ∧ x.card ≤ 3) ∧
          AVal.lit (.int .i64 (Wd * c)) = .lit (.int .i64 Wd_1) ∧ 1 ≤ Wd_1 ∧ Wd_1 ≤ 3 ^ i_1 ∧ H'.next ≤ ((ext Hx [B]).upd (H.next + 2) (.arr 0 91 (setAt (nodesZ ns) (v * 3) [.lit (.int .i64 c)]))).next ∧ FrN H1 ((ext Hx [B]).upd (H.next + 2) (.arr 0 91 (setAt (nodesZ ns) (v * 3) [.lit (.int .i64 c)]))) (H.next + 2) (nodesZ ns_1)) ∧
        n - ((i : Int) + 1).toNat < n - (iv (ρ 7)).toNat := by
      intro c B c23
      have p1 : 2 ≤ Wd * c ∧ Wd * c ≤ 3 ^ i * 3 := by
        constructor
        · have := Int.mul_le_mul hW1 c23.1 (by omega) (by omega); omega
        · exact Int.mul_le_mul hW3 c23.2 (by omega) (by omega)
      have nn : ((ext Hx [B]).upd (H.next + 2) (.arr 0 91 (setAt (nodesZ ns) (v * 3) [.lit (.int .i64 c)]))).next = Hx.next + 1 := rfl
      refine ⟨by rw [hzl]; have := get_lt hx; omega, by rw [nn]; omega, ⟨i + 1, ns.set v ⟨c, [], []⟩, Wd * c, rfl, by omega, by simp [hnl], fun z hz => ?_, fun j u hj hu => ?_, rfl, by omega, by rw [Int.pow_succ]; omega, by rw [nn]; omega, ?_⟩, by rw [h7]; simp only [lin, iv_int]; omega⟩
      · rcases List.mem_or_eq_of_mem_set hz with h | h
        · exact hnz z h
        · rw [h]; exact ⟨rfl, rfl⟩
      · by_cases huv : u = v
        · subst huv
          exact ⟨_, List.getElem?_set_self (get_lt hx), by dsimp only; omega, by dsimp only; omega⟩
        · rw [List.getElem?_set_ne (by omega)]
          refine hnc j u ?_ hu
          rcases Nat.lt_or_ge j i with h | h
          · exact h
          · obtain rfl : j = i := by omega
            rw [hpv] at hu
            exact absurd (by have := Option.some.inj hu; omega) huv
      · refine ⟨by rw [nn]; omega, fun id h1 h2 => by rw [upd_get, if_neg h2, get_ext_old _ _ _ (by omega)]; exact hF.2.1 id h1 h2, ?_⟩
        rw [upd_get, if_pos rfl, nodesZ_set0 hx (hnz x (List.mem_of_getElem? hx)).1 rfl]
        congr 2
        exact setAt_one (by rw [hzl]; have := get_lt hx; omega)
    by_cases hp : (i : Int) < ps.length
    · obtain ⟨y, hy⟩ := get_of_lt (l := ps) (i := i) (by omega)
      have hyo := hps y (List.mem_of_getElem? hy)
      have hc0 := drC_part hy
      have hc1 : i * 3 + 3 ≤ (drC ps).length := by rw [drC_len]; omega
      have hcne : ¬ drC ps = [] := fun h => by rw [h] at hc1; simp at hc1
      have c8 := hyo.1
      have t1 : y.card.tmod 2 = y.card % 2 := Int.tmod_eq_emod_of_nonneg c8.1
      have i5 := IntWalk.u8_in (y.card % 2) (by omega)
      have i6 := IntWalk.i64_in (y.card % 2) (by omega)
      have i7 := IntWalk.i64_in (2 + y.card % 2) (by omega)
      have c23 : 2 ≤ (2 + y.card % 2) ∧ (2 + y.card % 2) ≤ 3 := by omega
      have p1 : 2 ≤ Wd * (2 + y.card % 2) ∧ Wd * (2 + y.card % 2) ≤ 3 ^ i * 3 := by
        constructor
        · have := Int.mul_le_mul hW1 c23.1 (by omega) (by omega); omega
        · exact Int.mul_le_mul hW3 c23.2 (by omega) (by omega)
      have p2 : 2 ≤ Wd * 2 ∧ Wd * 2 ≤ 3 ^ i * 3 := by omega
      have j1 := IntWalk.i64_in (Wd * (2 + y.card % 2)) (by omega)
      have j2 := IntWalk.i64_in (Wd * 2) (by omega)
      obtain ⟨q, hq⟩ : ∃ q, IntKind.i64.wrap (Wd * (2 + y.card % 2) * 2 ^ (min ((n : Int) - 1 - i).toNat IntKind.i64.bits)) = q := ⟨_, rfl⟩
      have hsh : ∀ t o1 o2, binA Tryd.prog .shl t o1 o2 (.lit (.int .i64 (Wd * (2 + y.card % 2)))) (.lit (.int .u64 ((n : Int) - 1 - i))) = some (.lit (.int .i64 q)) := fun t o1 o2 => by rw [bin_shl (by omega), hq]
      by_cases hq1 : q > 100
      · simp (config := { maxSteps := 1000000 }) only [go_sem, f1, f3, f4, f5, f6, f7, m0', m3', mN', hb, hp, i1, i2, i3, i4, j1, j2, hsh, hpv, hpne, hv, hv0, hiP, hz0, hzne, hc0, hc1, hcne, t1, i5, i6, i7, hq1, appendA_U]
        refine W.draw 7 [0, 1, 0, 0, 12, 28, 0] Tryd.mixed (by kernel_rfl) (by kernel_rfl) ?_
        simp (config := { maxSteps := 1000000 }) only [go_sem, f1, f3, f4, f5, f6, f7, m0', m3', mN', hb, hp, i1, i2, i3, i4, j1, j2, hsh, hpv, hpne, hv, hv0, hiP, hz0, hzne, hc0, hc1, hcne, t1, i5, i6, i7, hq1, appendA_U]
        exact fin 2 _ (by omega)
      · simp (config := { maxSteps := 1000000 }) only [go_sem, f1, f3, f4, f5, f6, f7, m0', m3', mN', hb, hp, i1, i2, i3, i4, j1, j2, hsh, hpv, hpne, hv, hv0, hiP, hz0, hzne, hc0, hc1, hcne, t1, i5, i6, i7, hq1, appendA_U]
        refine W.draw 7 [0, 1, 0, 0, 12, 28, 0] Tryd.mixed (by kernel_rfl) (by kernel_rfl) ?_
        simp (config := { maxSteps := 1000000 }) only [go_sem, f1, f3, f4, f5, f6, f7, m0', m3', mN', hb, hp, i1, i2, i3, i4, j1, j2, hsh, hpv, hpne, hv, hv0, hiP, hz0, hzne, hc0, hc1, hcne, t1, i5, i6, i7, hq1, appendA_U]
        exact fin (2 + y.card % 2) _ c23
    · have p2 : 2 ≤ Wd * 2 ∧ Wd * 2 ≤ 3 ^ i * 3 := by omega
      have i5 : IntKind.i64.wrap (2 + IntKind.i64.wrap (Int.tmod 0 2)) = 2 := by decide
      have j2 := IntWalk.i64_in (Wd * 2) (by omega)
      obtain ⟨q, hq⟩ : ∃ q, IntKind.i64.wrap (Wd * 2 * 2 ^ (min ((n : Int) - 1 - i).toNat IntKind.i64.bits)) = q := ⟨_, rfl⟩
      have hsh : ∀ t o1 o2, binA Tryd.prog .shl t o1 o2 (.lit (.int .i64 (Wd * 2))) (.lit (.int .u64 ((n : Int) - 1 - i))) = some (.lit (.int .i64 q)) := fun t o1 o2 => by rw [bin_shl (by omega), hq]
      by_cases hq1 : q > 100
      · simp (config := { maxSteps := 1000000 }) only [go_sem, f1, f3, f4, f5, f6, f7, m0', m3', mN', hb, hp, i1, i2, i3, i4, j2, hsh, hpv, hpne, hv, hv0, hiP, hz0, hzne, i5, hq1, appendA_U]
        refine W.draw 7 [0, 1, 0, 0, 12, 28, 0] Tryd.mixed (by kernel_rfl) (by kernel_rfl) ?_
        simp (config := { maxSteps := 1000000 }) only [go_sem, f1, f3, f4, f5, f6, f7, m0', m3', mN', hb, hp, i1, i2, i3, i4, j2, hsh, hpv, hpne, hv, hv0, hiP, hz0, hzne, i5, hq1, appendA_U]
        exact fin 2 _ (by omega)
      · simp (config := { maxSteps := 1000000 }) only [go_sem, f1, f3, f4, f5, f6, f7, m0', m3', mN', hb, hp, i1, i2, i3, i4, j2, hsh, hpv, hpne, hv, hv0, hiP, hz0, hzne, i5, hq1, appendA_U]
        refine W.draw 7 [0, 1, 0, 0, 12, 28, 0] Tryd.mixed (by kernel_rfl) (by kernel_rfl) ?_
        simp (config := { maxSteps := 1000000 }) only [go_sem, f1, f3, f4, f5, f6, f7, m0', m3', mN', hb, hp, i1, i2, i3, i4, j2, hsh, hpv, hpne, hv, hv0, hiP, hz0, hzne, i5, hq1, appendA_U]
        exact fin 2 _ (by omega)
  · obtain rfl : n = i := by omega
    clear bs hW1 hW3 h6 f6
    simp (config := { maxSteps := 1000000 }) only [go_sem, f3, f7, hb, appendA_U]
    obtain ⟨cs, hcs⟩ : ∃ cs, cs = cardsL ns := ⟨_, rfl⟩
    have csl : cs.length = n := by rw [hcs, cards_len, hnl]
    have hc23 : ∀ c ∈ cs, 2 ≤ c ∧ c ≤ 3 := fun c hc => by
      obtain ⟨v, hv⟩ := List.mem_iff_getElem?.1 hc
      have hvn := get_lt hv
      have hm := permF_mem ord n v (by omega)
      rw [← hP] at hm
      obtain ⟨j, hj⟩ := List.mem_iff_getElem?.1 hm
      obtain ⟨x, hx, h2, h3⟩ := hnc j v (by have := get_lt hj; omega) hj
      rw [hcs, cards_get hx] at hv
      cases hv
      exact ⟨h2, h3⟩
    have L0 : LoopN g cs P n 0 ns := ⟨hnl, hcs.symm, fun j v x _ _ hx => hnz x (List.mem_of_getElem? hx), fun j v x h => by omega⟩
    clear hnc hnz h7
    refine W.loop0 98079714615416886934934209737619636635871851991103765504 (by rfl) (fun ρ Hy => ∃ (i : Nat) (ns : List NodeP), ρ 10 = lin i ∧ i ≤ n ∧ LoopN g cs P n i ns ∧ Hx.next ≤ Hy.next ∧ FrN H1 Hy (H.next + 2) (nodesZ ns)) (fun ρ H => n - (iv (ρ 10)).toNat) ?_ ?_
    · simp (config := { maxSteps := 1000000 }) only [go_sem, appendA_U]
      exact ⟨0, ns, rfl, by omega, L0, hF⟩
    clear L0 hF m0 m3 mN m0' m3' mN' hFn hnl hcs f7
    rintro ρ Hy ⟨i, ns, h10, hi, L, hny, hF⟩
    refine W.env fun E hE => ?_
    have e1 : E 1 = .ptr H.next 0 0 := by rw [hE]; simp (config := { maxSteps := 1000000 }) only [go_sem, f1, appendA_U]
    have e2 : E 2 = .ptr (H.next + 1) 0 0 := by rw [hE]; simp (config := { maxSteps := 1000000 }) only [go_sem, f2, appendA_U]
    have e3 : E 3 = lin n := by rw [hE]; simp (config := { maxSteps := 1000000 }) only [go_sem, f3, appendA_U]
    have e4 : E 4 = .ptr (H.next + 3) 0 0 := by rw [hE]; simp (config := { maxSteps := 1000000 }) only [go_sem, f4, appendA_U]
    have e5 : E 5 = vecI P := by rw [hE]; simp (config := { maxSteps := 1000000 }) only [go_sem, f5, appendA_U]
    have e10 : E 10 = lin i := by rw [hE]; simp (config := { maxSteps := 1000000 }) only [go_sem, h10, appendA_U]
    clear hE
    refine vc_sound _ _ _ (by rfl) ?_
    have hFn := hF.1
    have m0 := get_live ((hF.2.1 H.next (by omega) (by omega)).trans g0')
    have m1 := get_live ((hF.2.1 (H.next + 1) (by omega) (by omega)).trans g1')
    have m3 := get_live ((hF.2.1 (H.next + 3) (by omega) (by omega)).trans g3')
    have m0' : ∀ L, (ext Hy L).live H.next 0 = some (72, [.lit (.int .u8 g0), .vec ps.length (drC ps), .vec ord.length (bytesL ord)]) := fun L => (ext_live_old (by omega)).trans m0
    by_cases hb : (i : Int) < n
    · obtain ⟨pv, hpv⟩ := get_of_lt (l := P) (i := i) (by omega)
      have hpr := hperm.rng pv (List.mem_of_getElem? hpv)
      obtain ⟨v, rfl⟩ := Int.eq_ofNat_of_zero_le hpr.1
      have hnl := L.len
      obtain ⟨x, hx⟩ := get_of_lt (l := ns) (i := v) (by omega)
      have hpne := ne_of_get hpv
      have hiP : (i : Int) < P.length := by omega
      have hP1 : ∀ k : Nat, k < n → ∃ u : Nat, P[k]? = some (u : Int) ∧ u < n := fun k hk => by
        obtain ⟨q, hq⟩ := get_of_lt (l := P) (i := k) (by omega)
        have := hperm.rng q (List.mem_of_getElem? hq)
        obtain ⟨u, rfl⟩ := Int.eq_ofNat_of_zero_le this.1
        exact ⟨u, hq, by omega⟩
      have hpc : ∀ (B : List AVal), B = (if (i : Int) < ps.length then (drC ps).drop (i * 3) |>.take 3 else [.lit (.int .u8 0), .lit (.int .u8 0), .lit (.slice none 0 0)]) → ∃ (pc par : Int) (bs : List Int) (wv : AVal), B = [.lit (.int .u8 pc), .lit (.int .u8 par), wv] ∧ U8 par ∧ (∀ b ∈ bs, U8 b) ∧ (bs.length : Int) < 2 ^ 63 ∧ wv.one = true ∧ wv.cells = [wv] ∧ ∀ H0, Fz (fun _ => True) H0 0 wv (.vec bs.length (bytesL bs)) := by
        rintro B rfl
        by_cases hp : (i : Int) < ps.length
        · obtain ⟨y, hy⟩ := get_of_lt (l := ps) (i := i) (by omega)
          have hyo := hps y (List.mem_of_getElem? hy)
          rw [if_pos hp, drC_part hy]
          exact ⟨y.card, y.par, y.w, _, rfl, hyo.2.1, hyo.2.2.2, hyo.2.2.1, rfl, rfl, fun H0 => .vec rfl fun i hi _ => by simp only [bytesL, List.getElem_map]; exact .lit _⟩
        · rw [if_neg hp]
          exact ⟨0, 0, [], _, rfl, by unfold U8; omega, by simp, by simp, rfl, rfl, fun H0 => .nil⟩
      by_cases hp : (i : Int) < ps.length
      case' pos =>
        have hc1 : i * 3 + 3 ≤ (drC ps).length := by rw [drC_len]; omega
        have hcne : ¬ drC ps = [] := fun h => by rw [h] at hc1; simp at hc1
        rw [if_pos hp] at hpc
        obtain ⟨pc, par, bs, wv, hc0, hpar, hbs, hbl, hwo, hwc, hwf⟩ := hpc _ rfl
        simp (config := { maxSteps := 1000000 }) only [go_sem, e1, e3, e4, e5, e10, m0', hb, hp, hc0, hc1, hcne, hpv, hpne, hiP, hwo, hwc, Bool.and_true, appendA_U]
        obtain ⟨Hz, hHz⟩ : ∃ Hz, Hz = ext Hy [.arr 0 131 [.lit (.int .u8 pc), .lit (.int .u8 par), wv]] := ⟨_, rfl⟩
        clear hpc hc0 hc1 hcne hp
      case' neg =>
        rw [if_neg hp] at hpc
        obtain ⟨pc, par, bs, wv, hc0, hpar, hbs, hbl, hwo, hwc, hwf⟩ := hpc _ rfl
        simp (config := { maxSteps := 1000000 }) only [go_sem, e1, e3, e4, e5, e10, m0', hb, hp, hpv, hpne, hiP, appendA_U]
        rw [hc0]
        obtain ⟨Hz, hHz⟩ : ∃ Hz, Hz = ext Hy [.arr 0 131 [.lit (.int .u8 pc), .lit (.int .u8 par), wv]] := ⟨_, rfl⟩
        clear hpc hc0 hp
      all_goals
        rw [← hHz]
        refine W.env fun E3 hE3 => ?_
        have k1 : E3 1 = .ptr H.next 0 0 := by rw [hE3]; simp (config := { maxSteps := 1000000 }) only [go_sem, e1, appendA_U]
        have k2 : E3 2 = .ptr (H.next + 1) 0 0 := by rw [hE3]; simp (config := { maxSteps := 1000000 }) only [go_sem, e2, appendA_U]
        have k3 : E3 3 = lin n := by rw [hE3]; simp (config := { maxSteps := 1000000 }) only [go_sem, e3, appendA_U]
        have k4 : E3 4 = .ptr (H.next + 3) 0 0 := by rw [hE3]; simp (config := { maxSteps := 1000000 }) only [go_sem, e4, appendA_U]
        have k5 : E3 5 = vecI P := by rw [hE3]; simp (config := { maxSteps := 1000000 }) only [go_sem, e5, appendA_U]
        have k10 : E3 10 = lin i := by rw [hE3]; simp (config := { maxSteps := 1000000 }) only [go_sem, e10, appendA_U]
        have k11 : E3 11 = .ptr Hy.next 0 0 := by rw [hE3]; simp (config := { maxSteps := 1000000 }) only [go_sem, appendA_U]
        have k12 : E3 12 = lin v := by rw [hE3]; simp (config := { maxSteps := 1000000 }) only [go_sem, appendA_U]
        have k13 : E3 13 = lin 0 := by rw [hE3]; simp (config := { maxSteps := 1000000 }) only [go_sem, appendA_U]
        clear hE3
        have nz : Hz.next = Hy.next + 1 := by rw [hHz]; rfl
        have z3 : Hz.get (H.next + 3) = some (.arr 0 61 [.lit (.int .i64 g), .own (H.next + 2) 0 0 n 3]) := by rw [hHz, get_ext_old _ _ _ (by omega)]; exact (hF.2.1 (H.next + 3) (by omega) (by omega)).trans g3'
        have zP : Hz.get Hy.next = some (.arr 0 131 [.lit (.int .u8 pc), .lit (.int .u8 par), wv]) := by rw [hHz]; exact ext1_get_new
        have zN : Hz.get (H.next + 2) = some (.arr 0 91 (nodesZ ns)) := by rw [hHz, get_ext_old _ _ _ (by omega)]; exact hF.2.2
        have zO : ∀ id, id < H1.next → id ≠ H.next + 2 → Hz.get id = H1.get id := fun id h1 h2 => by rw [hHz, get_ext_old _ _ _ (by omega)]; exact hF.2.1 id h1 h2
        obtain ⟨xr, xp⟩ := L.todo i v x (Nat.le_refl _) hpv hx
        have hzl := nodesZ_len ns
        have hvn := get_lt hx
        have hcx : (nodesZ ns)[v * 3 + 1]? = some (.lit (.slice none 0 0)) := by
          have := flat_get (f := NodeP.cellsZ) (z := 3) cellsZ_len ns v 1 x hx (by omega)
          rw [show (nodesZ ns)[v * 3 + 1]? = _ from this]
          unfold NodeP.cellsZ; rw [if_pos xr]; rfl
        clear hHz e1 e2 e3 e4 e5 e10 f1 f2 f3 f4 f5 m0' m0 m1 m3
        have vlt : (v : Int) < n := hpr.2
        have v0 : (v : Int) ≥ 0 := hpr.1
        have hset : ∀ pv pv', setAt ((nodesZ ns).set (v * 3 + 1) pv) (v * 3 + 1) [pv'] = (nodesZ ns).set (v * 3 + 1) pv' := fun pv pv' => by rw [setAt_one (by rw [List.length_set]; omega), List.set_set]
        have hgetc : ∀ pv, ((nodesZ ns).set (v * 3 + 1) pv)[v * 3 + 1]? = some pv := fun pv => List.getElem?_set_self (by omega)
        refine W.postWeak (Q' := fun e s2 => e = .exit 4 ∧ ∃ pv l, s2.ρ 1 = .ptr H.next 0 0 ∧ s2.ρ 2 = .ptr (H.next + 1) 0 0 ∧ s2.ρ 3 = lin n ∧ s2.ρ 4 = .ptr (H.next + 3) 0 0 ∧ s2.ρ 5 = vecI P ∧ s2.ρ 10 = lin i ∧ s2.ρ 11 = .ptr Hy.next 0 0 ∧ s2.ρ 12 = lin v ∧ PSt Hz s2.H (H.next + 2) (v * 3 + 1) (nodesZ ns) pv l ∧ ParU P i n 0 l) ?_ ?_
        · refine W.loop0 44601490397061167054908922280959129468035072 (by rfl) (fun ρ Hu => ∃ (u : Nat) (pv : AVal) (l : List Int), ρ 13 = lin u ∧ u ≤ n ∧ PSt Hz Hu (H.next + 2) (v * 3 + 1) (nodesZ ns) pv l ∧ ParU P i u 0 l) (fun ρ H => n - (iv (ρ 13)).toNat) ?_ ?_
          · simp (config := { maxSteps := 1000000 }) only [go_sem, k13, appendA_U]
            refine ⟨0, .lit (.slice none 0 0), [], rfl, by omega, ⟨⟨Nat.le_refl _, fun _ _ _ => rfl, ?_⟩, .nil⟩, ⟨by simp, by simp, by simp, by simp⟩⟩
            rw [zN, set_get_self hcx]
          rintro ρu Hu ⟨u, pv, l, h13, hu, hS, hL⟩
          refine W.env fun E4 hE4 => ?_
          have q3 : E4 3 = lin n := by rw [hE4]; simp (config := { maxSteps := 1000000 }) only [go_sem, k3, appendA_U]
          have q4 : E4 4 = .ptr (H.next + 3) 0 0 := by rw [hE4]; simp (config := { maxSteps := 1000000 }) only [go_sem, k4, appendA_U]
          have q5 : E4 5 = vecI P := by rw [hE4]; simp (config := { maxSteps := 1000000 }) only [go_sem, k5, appendA_U]
          have q10 : E4 10 = lin i := by rw [hE4]; simp (config := { maxSteps := 1000000 }) only [go_sem, k10, appendA_U]
          have q11 : E4 11 = .ptr Hy.next 0 0 := by rw [hE4]; simp (config := { maxSteps := 1000000 }) only [go_sem, k11, appendA_U]
          have q12 : E4 12 = lin v := by rw [hE4]; simp (config := { maxSteps := 1000000 }) only [go_sem, k12, appendA_U]
          have q13 : E4 13 = lin u := by rw [hE4]; simp (config := { maxSteps := 1000000 }) only [go_sem, h13, appendA_U]
          have q1 : E4 1 = .ptr H.next 0 0 := by rw [hE4]; simp (config := { maxSteps := 1000000 }) only [go_sem, k1, appendA_U]
          have q2 : E4 2 = .ptr (H.next + 1) 0 0 := by rw [hE4]; simp (config := { maxSteps := 1000000 }) only [go_sem, k2, appendA_U]
          clear hE4
          refine vc_sound _ _ _ (by rfl) ?_
          by_cases hub : (u : Int) < n
          · have u1 := IntWalk.i64_in ((u : Int) + 1) (by omega)
            simp (config := { maxSteps := 1000000 }) only [go_sem, q3, q13, hub, appendA_U]
            refine W.loop0 44601490397058710981870980086493729605566464 (by rfl) (fun ρ Hk => ∃ (k : Nat) (pv : AVal) (l : List Int), ρ 14 = lin k ∧ k ≤ i ∧ Hu.next ≤ Hk.next ∧ PSt Hz Hk (H.next + 2) (v * 3 + 1) (nodesZ ns) pv l ∧ ParU P i u k l) (fun ρ H => i - (iv (ρ 14)).toNat) ?_ ?_
            · simp (config := { maxSteps := 1000000 }) only [go_sem, appendA_U]
              exact ⟨0, pv, l, rfl, by omega, hS, hL⟩
            clear hS hL
            rintro ρk Hk ⟨k, pv, l, h14, hk, hnk, hS, hL⟩
            refine W.env fun E5 hE5 => ?_
            have r4 : E5 4 = .ptr (H.next + 3) 0 0 := by rw [hE5]; simp (config := { maxSteps := 1000000 }) only [go_sem, q4, appendA_U]
            have r5 : E5 5 = vecI P := by rw [hE5]; simp (config := { maxSteps := 1000000 }) only [go_sem, q5, appendA_U]
            have r10 : E5 10 = lin i := by rw [hE5]; simp (config := { maxSteps := 1000000 }) only [go_sem, q10, appendA_U]
            have r11 : E5 11 = .ptr Hy.next 0 0 := by rw [hE5]; simp (config := { maxSteps := 1000000 }) only [go_sem, q11, appendA_U]
            have r12 : E5 12 = lin v := by rw [hE5]; simp (config := { maxSteps := 1000000 }) only [go_sem, q12, appendA_U]
            have r13 : E5 13 = lin u := by rw [hE5]; simp (config := { maxSteps := 1000000 }) only [go_sem, q13, appendA_U]
            have r14 : E5 14 = lin k := by rw [hE5]; simp (config := { maxSteps := 1000000 }) only [go_sem, h14, appendA_U]
            clear hE5
            refine vc_sound _ _ _ (by rfl) ?_
            by_cases hki : (k : Int) < i
            · obtain ⟨hFz, hOz⟩ := hS
              have hFz1 := hFz.1
              obtain ⟨a, ha, han⟩ := hP1 k (by omega)
              have hane := ne_of_get ha
              have hkP : (k : Int) < P.length := by omega
              have s1 := IntWalk.i64_in ((k : Int) + 1) (by omega)
              have s2 := IntWalk.u64_in (k : Int) (by omega)
              have y3 := get_live ((hFz.2.1 (H.next + 3) (by omega) (by omega)).trans z3)
              have yP := get_live ((hFz.2.1 Hy.next (by omega) (by omega)).trans zP)
              have yN := get_live hFz.2.2
              have hgc := hgetc pv
              have hcne2 := ne_of_get hgc
              obtain ⟨r1, hr1⟩ : ∃ r1, ∀ t o1 o2, binA Tryd.prog .shr t o1 o2 (.lit (.int .u8 par)) (.lit (.int .u64 (k : Int))) = some (.lit (.int .u8 r1)) := ⟨_, fun _ _ _ => bin_shr (by omega)⟩
              obtain ⟨r2, hr2⟩ : ∃ r2, ∀ t o1 o2, binA Tryd.prog .and t o1 o2 (.lit (.int .u8 r1)) (.lit (.int .u8 1)) = some (.lit (.int .u8 r2)) := ⟨_, fun _ _ _ => bin_and⟩
              have hlen := own_len hOz (d := some (.slice 3)) rfl
              rw [lenU_slice, ints_length] at hlen
              by_cases hau : (a : Int) = u
              · have hau' : a = u := by omega
                by_cases hr : r2 = 1
                · by_cases hl3 : (l.length : Int) < 3
                  · simp (config := { maxSteps := 1000000 }) only [go_sem, r4, r5, r10, r11, r12, r13, r14, hki, ha, hane, hkP, s1, s2, y3, yP, yN, hgc, hcne2, hr1, hr2, hlen, hau, hr, hl3, vlt, v0, appendA_U]
                    obtain ⟨pv', Hj, hA, hO', hn', hpr'⟩ := app_oneG (P := Tryd.prog) (H := Hk) (t := 22) (x := lin u) (n := Hk.next + 1) Tryd.underlying22 Tryd.cells3 Tryd.zero3 rfl (by rw [Tryd.bytes3, ints_length]; omega) hOz hFz1 rfl
                    simp only [lin] at hA
                    have keep : ∀ id, id < Hz.next → Hj.get id = Hk.get id := fun id h => hpr' id (by omega) (hOz.ne h)
                    have y3j := get_live ((keep _ (by omega)).trans ((hFz.2.1 (H.next + 3) (by omega) (by omega)).trans z3))
                    have yNj := get_live ((keep _ (by omega)).trans hFz.2.2)
                    refine W.draw 12 [0, 1, 0, 0, 8, 0, 56, 120, 248, 0, 512, 2040] Tryd.mixed (by kernel_rfl) (by kernel_rfl) ?_
                    simp (config := { maxSteps := 1000000 }) only [go_sem, r4, r5, r10, r11, r12, r13, r14, y3, y3j, yN, yNj, hgc, hcne2, vlt, v0, hA, s1]
                    have hdj : djF (if isOwn pv = true then { eff := idsV pv, rs := idsV pv ++ [Hk.next] } else { eff := [Hk.next + 1], rs := [Hk.next] }) { eff := [], rs := [H.next + 3] } := by
                      rcases hOz with ⟨hO1, _⟩ | ⟨id, gg, hO1, hO2, hO3, _⟩
                      · rw [hO1]
                        show djF { eff := [Hk.next + 1], rs := [Hk.next] } _
                        exact ⟨fun a ha => by (obtain rfl : a = Hk.next + 1 := by simpa using ha); simp; omega, fun a ha => by simp at ha⟩
                      · rw [hO3]
                        show djF { eff := [id], rs := [id] ++ [Hk.next] } _
                        exact ⟨fun a ha => by (obtain rfl : a = id := by simpa using ha); simp; omega, fun a ha => by simp at ha⟩
                    have hpc1 := hO'.cells
                    rw [hpc1]
                    refine ⟨⟨by omega, by omega, by omega, by omega, by omega, by omega, by omega⟩, ⟨hdj, hdj⟩, ⟨rfl, by simp [hO'.one], by rw [List.length_set]; simp; omega⟩, by rw [upd_next]; omega, ⟨k + 1, pv', l ++ [(u : Int)], rfl, by omega, by rw [upd_next]; omega, ⟨⟨by rw [upd_next]; omega, fun id h1 h2 => by rw [upd_get, if_neg h2, keep _ h1]; exact hFz.2.1 id h1 h2, ?_⟩, ?_⟩, hL.add hperm (by omega) (by rw [ha, hau]) (by omega)⟩, by rw [h14]; simp only [lin, iv_int]; omega⟩
                    · rw [upd_get, if_pos rfl, hset]
                    · have := hO'.keep (lo' := Hz.next) (H' := Hj.upd (H.next + 2) (.arr 0 91 (setAt ((nodesZ ns).set (v * 3 + 1) pv) (v * 3 + 1) [pv']))) (Nat.le_refl _) (Nat.le_refl _) fun id _ h1 _ _ _ => by rw [upd_get, if_neg (by omega)]
                      simpa [ints, lin] using this
                  · simp (config := { maxSteps := 1000000 }) only [go_sem, r4, r5, r10, r11, r12, r13, r14, hki, ha, hane, hkP, s1, s2, y3, yP, yN, hgc, hcne2, hr1, hr2, hlen, hau, hr, hl3, vlt, v0, guardA_undef, appendA_U]
                    exact ⟨hnk, ⟨k + 1, pv, l, rfl, by omega, hnk, ⟨hFz, hOz⟩, hL.skip⟩, by rw [h14]; simp only [lin, iv_int]; omega⟩
                · simp (config := { maxSteps := 1000000 }) only [go_sem, r4, r5, r10, r11, r12, r13, r14, hki, ha, hane, hkP, s1, s2, y3, yP, yN, hgc, hcne2, hr1, hr2, hlen, hau, hr, vlt, v0, guardA_undef, appendA_U]
                  exact ⟨hnk, ⟨k + 1, pv, l, rfl, by omega, hnk, ⟨hFz, hOz⟩, hL.skip⟩, by rw [h14]; simp only [lin, iv_int]; omega⟩
              · simp (config := { maxSteps := 1000000 }) only [go_sem, r4, r5, r10, r11, r12, r13, r14, hki, ha, hane, hkP, s1, s2, y3, yP, yN, hgc, hcne2, hr1, hr2, hlen, hau, vlt, v0, guardA_undef, appendA_U]
                exact ⟨hnk, ⟨k + 1, pv, l, rfl, by omega, hnk, ⟨hFz, hOz⟩, hL.skip⟩, by rw [h14]; simp only [lin, iv_int]; omega⟩
            · obtain rfl : k = i := by omega
              simp (config := { maxSteps := 1000000 }) only [go_sem, r10, r13, r14, hki, u1, appendA_U]
              exact ⟨by have := hS.1.1; omega, ⟨u + 1, pv, l, rfl, by omega, hS, hL.next⟩, by rw [h13]; simp only [lin, iv_int]; omega⟩
          · obtain rfl : u = n := by omega
            simp (config := { maxSteps := 1000000 }) only [go_sem, q1, q2, q3, q4, q5, q10, q11, q12, q13, hub, appendA_U]
            exact ⟨pv, l, hS, hL⟩
        · rintro e s2 ⟨rfl, pv, l, a1, a2, a3, a4, a5, a10, a11, a12, ⟨hFz, hOz⟩, hL⟩
          have hFz1 := hFz.1
          obtain ⟨rk, hrk, hfz⟩ : ∃ rk, Hz.next ≤ rk ∧ Fz (fun id => id = rk) s2.H s2.H.next pv (vecI l) := by
            rcases hOz with ⟨hO1, hO2⟩ | ⟨id, gg, hO1, hO2, hO3, hO4⟩
            · have : l = [] := by cases l with
                | nil => rfl
                | cons b l => simp [ints] at hO2
              rw [hO1, this]
              exact ⟨s2.H.next, hFz1, .nil⟩
            · refine ⟨id, hO1, ?_⟩
              rw [hO3, ints_length]
              refine .frz rfl hO4 (by rw [Nat.mul_one, ints_length]) fun j hj h2 h' => ?_
              simp only [Nat.zero_add, ints, List.getElem_map]
              exact .lit _
          have hne2 : H.next + 2 ≠ rk := by omega
          refine ⟨⟨s2.ρ, s2.H.melt rk (H.next + 2) (.arr 0 91 ((nodesZ ns).set (v * 3 + 1) (vecI l)))⟩, WeakS.melt G0_ok hFz.2.2 hne2 (by simp) (fz_set (fz_nodesZ' ns) hfz), Nat.le_refl _, trivial, ?_⟩
          obtain ⟨Hm, hHm⟩ : ∃ Hm, Hm = s2.H.melt rk (H.next + 2) (.arr 0 91 ((nodesZ ns).set (v * 3 + 1) (vecI l))) := ⟨_, rfl⟩
          rw [← hHm]
          have hFm : FrN Hz Hm (H.next + 2) ((nodesZ ns).set (v * 3 + 1) (vecI l)) := by
            rw [hHm]
            exact ⟨hFz1, fun id h1 h2 => (melt_other (by omega) h2).trans (hFz.2.1 id h1 h2), melt_ob hne2⟩
          clear hFz hOz hfz hHm hne2 hrk
          simp (config := { maxSteps := 1000000 }) only [go_sem, appendA_U]
          refine W.env fun E6 hE6 => ?_
          have y1 : E6 1 = .ptr H.next 0 0 := by rw [hE6]; simp (config := { maxSteps := 1000000 }) only [go_sem, a1, appendA_U]
          have y2 : E6 2 = .ptr (H.next + 1) 0 0 := by rw [hE6]; simp (config := { maxSteps := 1000000 }) only [go_sem, a2, appendA_U]
          have y3 : E6 3 = lin n := by rw [hE6]; simp (config := { maxSteps := 1000000 }) only [go_sem, a3, appendA_U]
          have y4 : E6 4 = .ptr (H.next + 3) 0 0 := by rw [hE6]; simp (config := { maxSteps := 1000000 }) only [go_sem, a4, appendA_U]
          have y5 : E6 5 = vecI P := by rw [hE6]; simp (config := { maxSteps := 1000000 }) only [go_sem, a5, appendA_U]
          have y10 : E6 10 = lin i := by rw [hE6]; simp (config := { maxSteps := 1000000 }) only [go_sem, a10, appendA_U]
          have y11 : E6 11 = .ptr Hy.next 0 0 := by rw [hE6]; simp (config := { maxSteps := 1000000 }) only [go_sem, a11, appendA_U]
          have y12 : E6 12 = lin v := by rw [hE6]; simp (config := { maxSteps := 1000000 }) only [go_sem, a12, appendA_U]
          have y15 : E6 15 = lin 0 := by rw [hE6]; simp (config := { maxSteps := 1000000 }) only [go_sem, appendA_U]
          clear hE6 a1 a2 a3 a4 a5 a10 a11 a12
          have lsm : SmallC (atL cs l) := smallC_of (by rw [atL_len]; have := hL.p3; omega) fun c hc => by
            unfold atL at hc
            obtain ⟨q, hq, rfl⟩ := List.mem_map.1 hc
            have hqr := hL.rng q hq
            obtain ⟨c, hc⟩ := get_of_lt (l := cs) (i := q.toNat) (by rw [csl]; rcases hqr.2 with h | ⟨_, k', h, _⟩ <;> omega)
            rw [getD_of_get hc]
            have := hc23 c (List.mem_of_getElem? hc)
            omega
          have lpos : 0 < prodL (atL cs l) ∧ prodL (atL cs l) ≤ 27 := by
            have c3 : ∀ c ∈ atL cs l, 1 ≤ c ∧ c ≤ 3 := fun c hc => by
              unfold atL at hc
              obtain ⟨q, hq, rfl⟩ := List.mem_map.1 hc
              have hqr := hL.rng q hq
              obtain ⟨c, hc⟩ := get_of_lt (l := cs) (i := q.toNat) (by rw [csl]; rcases hqr.2 with h | ⟨_, k', h, _⟩ <;> omega)
              rw [getD_of_get hc]
              have := hc23 c (List.mem_of_getElem? hc)
              omega
            have h1 := prodL_pos fun c hc => (c3 c hc).1
            have h2 := (prodL_le_pow (b := 3) (by omega) fun c hc => ⟨by have := (c3 c hc).1; omega, (c3 c hc).2⟩).2
            have h3 : (3 : Int) ^ (atL cs l).length ≤ 3 ^ 3 := by
              have : (3 : Nat) ^ (atL cs l).length ≤ 3 ^ 3 := Nat.pow_le_pow_right (by decide) (by rw [atL_len]; exact hL.p3)
              exact_mod_cast this
            omega
          obtain ⟨R, hR⟩ := Int.eq_ofNat_of_zero_le (show 0 ≤ prodL (atL cs l) by omega)
          have hxc : 2 ≤ x.card ∧ x.card ≤ 3 := hc23 x.card (by rw [← L.cards]; exact List.mem_of_getElem? (cards_get hx))
          have hFm1 := hFm.1
          have w3 : Hm.get (H.next + 3) = some (.arr 0 61 [.lit (.int .i64 g), .own (H.next + 2) 0 0 n 3]) := (hFm.2.1 _ (by omega) (by omega)).trans z3
          have wP : Hm.get Hy.next = some (.arr 0 131 [.lit (.int .u8 pc), .lit (.int .u8 par), wv]) := (hFm.2.1 _ (by omega) (by omega)).trans zP
          obtain ⟨C1, hC1⟩ : ∃ C1, C1 = (nodesZ ns).set (v * 3 + 1) (vecI l) := ⟨_, rfl⟩
          have c1l : C1.length = ns.length * 3 := by rw [hC1, List.length_set, hzl]
          have hcx2 : C1[v * 3 + 2]? = some (.lit (.slice none 0 0)) := by
            have := flat_get (f := NodeP.cellsZ) (z := 3) cellsZ_len ns v 2 x hx (by omega)
            rw [hC1, List.getElem?_set_ne (by omega), show (nodesZ ns)[v * 3 + 2]? = _ from this]
            unfold NodeP.cellsZ; rw [if_pos xr]; rfl
          have hcx0 : C1[v * 3]? = some (lin x.card) := by rw [hC1, List.getElem?_set_ne (by omega)]; exact nodesZ_0 hx
          rw [← hC1] at hFm
          have hset2 : ∀ rv rv', setAt (C1.set (v * 3 + 2) rv) (v * 3 + 2) [rv'] = C1.set (v * 3 + 2) rv' := fun rv rv' => by rw [setAt_one (by rw [List.length_set]; omega), List.set_set]
          have hgc2 : ∀ rv, (C1.set (v * 3 + 2) rv)[v * 3 + 2]? = some rv := fun rv => List.getElem?_set_self (by omega)
          have hgc0 : ∀ rv, (C1.set (v * 3 + 2) rv)[v * 3]? = some (lin x.card) := fun rv => by rw [List.getElem?_set_ne (by omega)]; exact hcx0
          refine W.postWeak (Q' := fun e s2 => e = .exit 8 ∧ ∃ (rv : AVal) (rows : List (List Int)), s2.ρ 1 = .ptr H.next 0 0 ∧ s2.ρ 2 = .ptr (H.next + 1) 0 0 ∧ s2.ρ 3 = lin n ∧ s2.ρ 4 = .ptr (H.next + 3) 0 0 ∧ s2.ρ 5 = vecI P ∧ s2.ρ 10 = lin i ∧ rows.length = R ∧ (∀ r ∈ rows, RowOk g x.card r) ∧ FrN Hm s2.H (H.next + 2) (C1.set (v * 3 + 2) rv) ∧ OwnG Hm.next s2.H 22 rv (rows.map vecI)) ?_ ?_
          · refine W.loop0 98079714615372285444537148491336716315054007096738611200 (by rfl) (fun ρ Hr => ∃ (r : Nat) (rv : AVal) (rows : List (List Int)), ρ 15 = lin r ∧ r ≤ R ∧ rows.length = r ∧ (∀ r ∈ rows, RowOk g x.card r) ∧ FrN Hm Hr (H.next + 2) (C1.set (v * 3 + 2) rv) ∧ OwnG Hm.next Hr 22 rv (rows.map vecI)) (fun ρ H => R - (iv (ρ 15)).toNat) ?_ ?_
            · simp (config := { maxSteps := 1000000 }) only [go_sem, y15, appendA_U]
              refine ⟨0, .lit (.slice none 0 0), [], rfl, by omega, rfl, by simp, ⟨Nat.le_refl _, fun _ _ _ => rfl, ?_⟩, .nil⟩
              rw [hFm.2.2, set_get_self hcx2]
            rintro ρr Hr ⟨r, rv, rows, h15, hr, hrl, hrows, hFr, hOr⟩
            refine W.env fun E7 hE7 => ?_
            have b1 : E7 1 = .ptr H.next 0 0 := by rw [hE7]; simp (config := { maxSteps := 1000000 }) only [go_sem, y1, appendA_U]
            have b2 : E7 2 = .ptr (H.next + 1) 0 0 := by rw [hE7]; simp (config := { maxSteps := 1000000 }) only [go_sem, y2, appendA_U]
            have b3 : E7 3 = lin n := by rw [hE7]; simp (config := { maxSteps := 1000000 }) only [go_sem, y3, appendA_U]
            have b4 : E7 4 = .ptr (H.next + 3) 0 0 := by rw [hE7]; simp (config := { maxSteps := 1000000 }) only [go_sem, y4, appendA_U]
            have b5 : E7 5 = vecI P := by rw [hE7]; simp (config := { maxSteps := 1000000 }) only [go_sem, y5, appendA_U]
            have b10 : E7 10 = lin i := by rw [hE7]; simp (config := { maxSteps := 1000000 }) only [go_sem, y10, appendA_U]
            have b11 : E7 11 = .ptr Hy.next 0 0 := by rw [hE7]; simp (config := { maxSteps := 1000000 }) only [go_sem, y11, appendA_U]
            have b12 : E7 12 = lin v := by rw [hE7]; simp (config := { maxSteps := 1000000 }) only [go_sem, y12, appendA_U]
            have b15 : E7 15 = lin r := by rw [hE7]; simp (config := { maxSteps := 1000000 }) only [go_sem, h15, appendA_U]
            clear hE7
            refine vc_sound _ _ _ (by rfl) ?_
            have hFr1 := hFr.1
            have v3 := get_live ((hFr.2.1 (H.next + 3) (by omega) (by omega)).trans w3)
            have vP := get_live ((hFr.2.1 Hy.next (by omega) (by omega)).trans wP)
            have vN := get_live hFr.2.2
            have hzp : ∀ z ∈ ns, z.rows = [] → z.parents = [] := fun z hz hz0 => by
              obtain ⟨u, hu⟩ := List.mem_iff_getElem?.1 hz
              have hm := permF_mem ord n u (by have := get_lt hu; omega)
              rw [← hP] at hm
              obtain ⟨j, hj⟩ := List.mem_iff_getElem?.1 hm
              rcases Nat.lt_or_ge j i with h | h
              · exact absurd hz0 (L.done j u z h hj hu).ne
              · exact (L.todo j u z h hj hu).2
            have hcard : cardsL (ns.set v ⟨x.card, l, rows⟩) = cs := by
              have h1 : cardsL (ns.set v ⟨x.card, l, rows⟩) = (cardsL ns).set v x.card := by unfold cardsL; rw [List.map_set]
              rw [h1, set_get_self (cards_get hx), L.cards]
            have hpar : parC (ns.set v ⟨x.card, l, rows⟩) ⟨x.card, l, rows⟩ = atL cs l := by unfold parC; rw [hcard]
            have fzN : Fz (fun _ => True) Hr 0 (.agg [lin g, .own (H.next + 2) 0 0 n 3]) (netV g (ns.set v ⟨x.card, l, rows⟩)) := by
              refine .agg rfl fun i hi _ => ?_
              match i, hi with
              | 0, _ => exact .lit _
              | 1, _ =>
                show Fz _ _ _ _ (.vec (ns.set v ⟨x.card, l, rows⟩).length (nodesC (ns.set v ⟨x.card, l, rows⟩)))
                rw [List.length_set, hnl, nodesC_set (y := ⟨x.card, l, rows⟩) hx rfl]
                refine .frz trivial hFr.2.2 (by rw [List.length_set, List.length_set, nodesC_len]; omega) fun j hj h2 h' => ?_
                simp only [Nat.zero_add]
                refine fzl_set (A := C1) (B := (nodesC ns).set (v * 3 + 1) (vecI l)) ?_ ?_ j _ _
                · rw [hC1]
                  exact fzl_set (fz_nodesZ ns hzp) (.keepInts _)
                · have := hOr.fz (S := fun _ => True) (nx := 0) (cs' := rows.map vecI) (fun _ _ => trivial) rfl fun i hi _ => by simp only [List.getElem_map]; exact .keepInts _
                  rw [List.length_map] at this
                  exact this
            simp (config := { maxSteps := 1000000 }) only [go_sem, b4, b12, b15, v3, appendA_U]
            refine AApply.clo ((ACall.frame (H := Hr) (args := [.agg [lin g, .own (H.next + 2) 0 0 n 3], lin v]) (args' := [netV g (ns.set v ⟨x.card, l, rows⟩), lin v]) (v' := vecI (atL cs l)) G0_ok rfl (fun i hi _ => ?_) (parentCards_own g (ns.set v ⟨x.card, l, rows⟩) v ⟨x.card, l, rows⟩ (List.getElem?_set_self hvn) (by rw [List.length_set]; omega) (by show (l.length : Int) < _; have := hL.p3; omega) (fun q hq => by
                have hqr := hL.rng q hq
                rw [List.length_set]
                rcases hqr.2 with h | ⟨_, k', h, _⟩ <;> omega) noH _ fun w Hq _ ho => ⟨_, rfl, by rw [hpar] at ho; exact ho.freshI⟩)).mono fun r1 H1' hr1 => ?_)
            · match i, hi with
              | 0, _ => exact fzN
              | 1, _ => exact .lit _
            obtain ⟨rfl, rfl⟩ := hr1
            refine ⟨trivial, ?_⟩
            simp (config := { maxSteps := 1000000 }) only [go_sem, appendA_U]
            refine AApply.clo (size02_spec (atL cs l) lsm _ _ ⟨trivial, ?_⟩)
            rw [hR]
            by_cases hrR : (r : Int) < R
            · simp (config := { maxSteps := 1000000 }) only [go_sem, b4, b12, b15, hrR, appendA_U]
              obtain ⟨xn, hxn⟩ := Int.eq_ofNat_of_zero_le (show 0 ≤ x.card by omega)
              have rc : 0 ≤ (r : Int) * (x.card + 1) ∧ (r : Int) * (x.card + 1) ≤ 27 * 4 := ⟨Int.mul_nonneg (by omega) (by omega), Int.mul_le_mul (by omega) (by omega) (by omega) (by omega)⟩
              have c1 := IntWalk.i64_in (x.card + 1) (by omega)
              have c2 := IntWalk.i64_in ((r : Int) * (x.card + 1)) (by omega)
              have c3 := IntWalk.i64_in ((r : Int) + 1) (by omega)
              have hg2 := hgc2 rv
              have hg0' := hgc0 rv
              have hg2n := ne_of_get hg2
              obtain ⟨row, hrow⟩ : ∃ row, row = rowF g xn bs ((r : Int) * (x.card + 1)) := ⟨_, rfl⟩
              have hrok : RowOk g x.card row := by rw [hrow, hxn]; exact rowF_ok hg1.1 (by omega) _ _
              have hpc84 : ∀ Hq, PCall Tryd.prog G0 (.clo 64 [] []) [lin g, lin x.card, wv, lin ((r : Int) * (x.card + 1))] Hq (vecI row) [] := fun Hq => by
                refine PCall.mk (fun i hi => by cases hi) fun H2 _ _ => ?_
                refine ACall.frame (H := H2) (args := [lin g, lin x.card, wv, lin ((r : Int) * (x.card + 1))]) (args' := [lin g, lin xn, .vec bs.length (bytesL bs), lin ((r : Int) * (x.card + 1))]) (v' := vecI row) G0_ok rfl (fun i hi _ => ?_) (rowD_spec g xn hg1 (by omega) bs hbl hbs _ (by omega) noH _ fun w Hw _ ho => ⟨_, rfl, by rw [hrow]; exact ho.freshI⟩)
                match i, hi with
                | 0, _ => exact .lit _
                | 1, _ => rw [hxn]; exact .lit _
                | 2, _ => exact hwf _
                | 3, _ => exact .lit _
              obtain ⟨rv', Hj, hA, hO', hn', hpr'⟩ := app_oneG (P := Tryd.prog) (H := H1') (t := 48) (x := vecI row) (n := H1'.next + 1) Tryd.underlying48 Tryd.cells22 Tryd.zero22 rfl (by rw [Tryd.bytes22, List.length_map]; omega) hOr hFr1 rfl
              have keep : ∀ id, id < Hm.next → Hj.get id = H1'.get id := fun id h => hpr' id (by omega) (hOr.ne h)
              have v3j := get_live ((keep _ (by omega)).trans ((hFr.2.1 (H.next + 3) (by omega) (by omega)).trans w3))
              have vNj := get_live ((keep _ (by omega)).trans hFr.2.2)
              have hA' : appendA Tryd.prog (ext H1' [.arr 0 22 [.vec row.length (ints row)]]) (H1'.next + 1) 48 48 rv (.own H1'.next 0 0 1 1) = some (rv', Hj) := hA
              refine W.draw 31 [0, 1, 0, 0, 8, 0, 56, 120, 248, 0, 512, 0, 2048, 0, 14336, 30720, 63488, 0, 131072, 0, 0, 1048576, 0, 7340032, 15728640, 32505856, 66060288, 133693440, 268434944, 536870400, 1073741816] Tryd.mixed (by kernel_rfl) (by kernel_rfl) ?_
              simp (config := { maxSteps := 1000000 }) only [go_sem, b4, b11, b12, b15, v3, v3j, vP, vN, vNj, hg2, hg0', hg2n, vlt, v0, c1, c2]
              refine ⟨vecI row, [], hpc84 _, ?_⟩
              simp (config := { maxSteps := 1000000 }) only [go_sem, b4, b11, b12, b15, v3, v3j, vP, vN, vNj, hg2, hg0', hg2n, vlt, v0, c1, c2, c3, hA']
              have hdj : djF (if isOwn rv = true then { eff := idsV rv, rs := idsV rv ++ [H1'.next] } else { eff := [H1'.next + 1], rs := [H1'.next] }) { eff := [], rs := [H.next + 3] } := by
                rcases hOr with ⟨hO1, _⟩ | ⟨id, gg, hO1, hO2, hO3, _⟩
                · rw [hO1]
                  show djF { eff := [H1'.next + 1], rs := [H1'.next] } _
                  exact ⟨fun a ha => by (obtain rfl : a = H1'.next + 1 := by simpa using ha); simp; omega, fun a ha => by simp at ha⟩
                · rw [hO3]
                  show djF { eff := [id], rs := [id] ++ [H1'.next] } _
                  exact ⟨fun a ha => by (obtain rfl : a = id := by simpa using ha); simp; omega, fun a ha => by simp at ha⟩
              rw [hO'.cells]
              refine ⟨⟨by omega, by omega, by omega, by omega, by omega, by omega, by omega⟩, ⟨hdj, hdj⟩, ⟨rfl, by simp [hO'.one], by rw [List.length_set, c1l]; simp; omega⟩, by rw [upd_next]; omega, ⟨r + 1, rv', rows ++ [row], rfl, by omega, by simp [hrl], fun q hq => ?_, ⟨by rw [upd_next]; omega, fun id h1 h2 => by rw [upd_get, if_neg h2, keep _ h1]; exact hFr.2.1 id h1 h2, ?_⟩, ?_⟩, by rw [h15]; simp only [lin, iv_int]; omega⟩
              · rcases List.mem_append.1 hq with h | h
                · exact hrows q h
                · obtain rfl := List.mem_singleton.1 h; exact hrok
              · rw [upd_get, if_pos rfl, hset2]
              · have := hO'.keep (lo' := Hm.next) (H' := Hj.upd (H.next + 2) (.arr 0 91 (setAt (C1.set (v * 3 + 2) rv) (v * 3 + 2) [rv']))) (Nat.le_refl _) (Nat.le_refl _) fun id _ h1 _ _ _ => by rw [upd_get, if_neg (by omega)]
                simpa using this
            · simp (config := { maxSteps := 1000000 }) only [go_sem, b1, b2, b3, b4, b5, b10, b12, b15, hrR, appendA_U]
              exact ⟨rv, rows, by omega, hrows, hFr, hOr⟩
          · rintro e s3 ⟨rfl, rv, rows, a1, a2, a3, a4, a5, a10, hrl, hrows, hFr, hOr⟩
            have hFr1 := hFr.1
            obtain ⟨rk, hrk, hfz⟩ : ∃ rk, Hm.next ≤ rk ∧ Fz (fun id => id = rk) s3.H s3.H.next rv (vecV rows) := by
              rcases hOr with ⟨hO1, hO2⟩ | ⟨id, gg, hO1, hO2, hO3, hO4⟩
              · have : rows = [] := by cases rows with
                  | nil => rfl
                  | cons b l => simp at hO2
                rw [hO1, this]
                exact ⟨s3.H.next, hFr1, .nil⟩
              · refine ⟨id, hO1, ?_⟩
                rw [hO3, List.length_map]
                refine .frz rfl hO4 (by rw [Nat.mul_one, List.length_map]) fun j hj h2 h' => ?_
                simp only [Nat.zero_add, List.getElem_map]
                exact .keepInts _
            have hne2 : H.next + 2 ≠ rk := by omega
            have hC1z : ∀ c ∈ C1, Fz (fun id => id = rk) s3.H s3.H.next c c := fun c hc => by
              rw [hC1] at hc
              rcases List.mem_or_eq_of_mem_set hc with h | h
              · exact fz_nodesZ' ns c h
              · rw [h]; exact .keepInts _
            refine ⟨⟨s3.ρ, s3.H.melt rk (H.next + 2) (.arr 0 91 (C1.set (v * 3 + 2) (vecV rows)))⟩, WeakS.melt G0_ok hFr.2.2 hne2 (by simp) (fz_set hC1z hfz), Nat.le_refl _, trivial, ?_⟩
            obtain ⟨He, hHe⟩ : ∃ He, He = s3.H.melt rk (H.next + 2) (.arr 0 91 (C1.set (v * 3 + 2) (vecV rows))) := ⟨_, rfl⟩
            rw [← hHe]
            have hFe : FrN Hm He (H.next + 2) (C1.set (v * 3 + 2) (vecV rows)) := by
              rw [hHe]
              exact ⟨hFr1, fun id h1 h2 => (melt_other (by omega) h2).trans (hFr.2.1 id h1 h2), melt_ob hne2⟩
            clear hFr hOr hfz hHe hne2 hrk
            have hFe1 := hFe.1
            have i1 := IntWalk.i64_in ((i : Int) + 1) (by omega)
            simp (config := { maxSteps := 1000000 }) only [go_sem, a10, i1, appendA_U]
            have hiv : ∀ j u : Nat, P[j]? = some (u : Int) → u = v → j = i := fun j u h1 h2 => by
              subst h2
              exact (List.getElem?_inj (get_lt h1) hperm.nd).1 (by rw [h1, hpv])
            have hrne : rows ≠ [] := fun h => by rw [h] at hrl; simp at hrl; omega
            have hdone : DoneN g cs P n i ⟨x.card, l, rows⟩ := ⟨⟨hL.pw, fun q hq => ⟨(hL.rng q hq).1, by rcases (hL.rng q hq).2 with h | ⟨_, k', h, _⟩ <;> omega⟩⟩, hL.p3, hL.rk, by show (rows.length : Int) = _; rw [hrl, hR], hrows, hrne⟩
            refine ⟨by omega, ⟨i + 1, ns.set v ⟨x.card, l, rows⟩, rfl, by omega, ⟨by rw [List.length_set]; exact hnl, ?_, fun j u z hj hu hz => ?_, fun j u z hj hu hz => ?_⟩, by omega, by omega, fun id h1 h2 => ?_, ?_⟩, by rw [h10]; simp only [lin, iv_int]; omega⟩
            · have h1 : cardsL (ns.set v ⟨x.card, l, rows⟩) = (cardsL ns).set v x.card := by unfold cardsL; rw [List.map_set]
              rw [h1, set_get_self (cards_get hx), L.cards]
            · have huv : ¬ u = v := fun h => by have := hiv j u hu h; omega
              rw [List.getElem?_set_ne (by omega)] at hz
              exact L.todo j u z (by omega) hu hz
            · by_cases huv : u = v
              · obtain rfl := hiv j u hu huv
                rw [huv, List.getElem?_set_self hvn] at hz
                cases hz
                exact hdone
              · rw [List.getElem?_set_ne (by omega)] at hz
                have : j ≠ i := fun h => by
                  rw [h, hpv] at hu
                  exact huv (by have := Option.some.inj hu; omega)
                exact L.done j u z (by omega) hu hz
            · rw [hFe.2.1 id (by omega) h2, hFm.2.1 id (by omega) h2]
              exact zO id h1 h2
            · rw [hFe.2.2, nodesZ_set (y := ⟨x.card, l, rows⟩) hx rfl hrne, hC1]
    · obtain rfl : i = n := by omega
      simp (config := { maxSteps := 1000000 }) only [go_sem, e2, e3, e4, e10, hb, m1, m3, appendA_U]
      have hnl := L.len
      have hall : ∀ v : Nat, v < ns.length → (v : Int) ∈ P := fun v hv => by rw [hP]; exact permF_mem ord i v (by omega)
      have hdn : ∀ (v : Nat) (x : NodeP), ns[v]? = some x → ∃ j, DoneN g cs P i j x := fun v x hx => by
        obtain ⟨j, hj⟩ := List.mem_iff_getElem?.1 (hall v (get_lt hx))
        exact ⟨j, L.done j v x (by have := get_lt hj; have := hperm.len; omega) hj hx⟩
      have hdm : ∀ x ∈ ns, ∃ j, DoneN g cs P i j x := fun x hx => by
        obtain ⟨v, hv⟩ := List.mem_iff_getElem?.1 hx
        exact hdn v x hv
      have ov : Over H (Hy.upd (H.next + 1) (.arr 0 61 [.lit (.int .i64 g), .own (H.next + 2) 0 0 i 3])) := ⟨by rw [upd_next]; omega, fun id h => by rw [upd_get, if_neg (by omega), hF.2.1 id (by omega) (by omega)]; exact o1.old id h⟩
      have hz : nodesZ ns = nodesC ns := nodesZ_eq fun x hx => (hdm x hx).elim fun j hj => hj.ne
      have hcl8 : ∀ x ∈ ns, 2 ≤ x.card ∧ x.card ≤ 3 := fun x hx => hc23 x.card (by rw [← L.cards]; exact List.mem_map.2 ⟨x, hx, rfl⟩)
      have hnet : NetOk g ns := by
        refine ⟨hg1, by omega, fun x hx => ?_, ?_, acyc_of_order (P := P) (by rw [hnl]; exact hperm) hall fun j v x hj hx q hq => ?_, fun x hx => ?_⟩
        · obtain ⟨j, hj⟩ := hdm x hx
          have := hcl8 x hx
          exact ⟨by omega, by rw [hnl]; exact hj.pl⟩
        · have h2 := (prodL_le_pow (b := 3) (by omega) (l := cardsL ns) fun c hc => by have := hc23 c (by rw [← L.cards]; exact hc); omega).2
          have h3 : (3 : Int) ^ (cardsL ns).length ≤ 3 ^ 5 := by
            have : (3 : Nat) ^ (cardsL ns).length ≤ 3 ^ 5 := Nat.pow_le_pow_right (by decide) (by rw [cards_len]; omega)
            exact_mod_cast this
          omega
        · have hd := L.done j v x (by have := get_lt hj; have := hperm.len; omega) hj hx
          exact ⟨(hd.pl.2 q hq).1, hd.rk q hq⟩
        · obtain ⟨j, hj⟩ := hdm x hx
          unfold NodeOk parC
          rw [L.cards]
          exact ⟨hj.rl, hj.ro⟩
      rw [← hnl]
      rw [← hnl] at ov
      refine FinV.mk ov.next (hK g ns (H.next + 2) _ ov (by omega) (by rw [upd_next]; omega) ?_ hnet (by omega) fun x hx => ?_)
      · rw [upd_get, if_neg (by omega), hF.2.2, hz]
      · obtain ⟨j, hj⟩ := hdm x hx
        exact hj.p3
end Go.Proofs
namespace Go.Hx
variable {P : Program} {G : Nat → Option (List AVal)}
def AHeap.meltX (H : AHeap) (n ob : Nat) (b : Blk) : AHeap := ⟨fun id => if id = ob then some b else if n ≤ id then none else H.get id, H.next⟩
theorem meltX_ob {H : AHeap} {n ob : Nat} {b : Blk} : (H.meltX n ob b).get ob = some b := by simp [AHeap.meltX]
theorem meltX_other {H : AHeap} {n ob id : Nat} {b : Blk} (h : id < n) (h2 : id ≠ ob) : (H.meltX n ob b).get id = H.get id := by simp [AHeap.meltX, Nat.not_le.2 h, h2]
theorem fzH_meltX {H : AHeap} (hc : Clo H) {n ob g : Nat} {e : TypeId} {cells cells' : List AVal} (hob : H.get ob = some (.arr g e cells)) (hl : cells'.length = cells.length)
    (hcell : ∀ i (h : i < cells.length) (h' : i < cells'.length), Fz (fun id => n ≤ id ∧ id ≠ ob) H H.next cells[i] cells'[i]) : FzH (fun id => n ≤ id ∧ id ≠ ob) H (H.meltX n ob (.arr g e cells')) where
  gone id hs := by simp [AHeap.meltX, hs.1, hs.2]
  kept id b hs hb := by
    have hbb := hc.below id b hb
    refine ⟨hc.lt id b hb, ?_⟩
    by_cases h : id = ob
    · subst h
      rw [hob] at hb
      cases hb
      exact ⟨.arr g e cells', meltX_ob, rfl, rfl, hl, hcell⟩
    · have hn : ¬ n ≤ id := fun hn => hs ⟨hn, h⟩
      refine ⟨b, by simp [AHeap.meltX, h, hn, hb], ?_⟩
      cases b with
      | rsv => trivial
      | mp => rfl
      | arr g e cells => exact ⟨rfl, rfl, rfl, fun i h _ => .dead (hbb i h)⟩
      | loop st pend n env ps asg body => exact ⟨rfl, rfl, rfl, rfl, rfl, rfl, rfl, fun t ht => .dead (hbb t ht)⟩
  none id hs hb := by
    by_cases h : id = ob
    · subst h; rw [hob] at hb; cases hb
    · have hn : ¬ n ≤ id := fun hn => hs ⟨hn, h⟩
      simp [AHeap.meltX, h, hn, hb]
theorem WeakS.meltX (hG : GOk G) {s : St} {n ob g : Nat} {e : TypeId} {cells cells' : List AVal} (hob : s.H.get ob = some (.arr g e cells)) (hl : cells'.length = cells.length)
    (hcell : (∀ c ∈ cells, Below s.H.next c) → ∀ i (h : i < cells.length) (h' : i < cells'.length), Fz (fun id => n ≤ id ∧ id ≠ ob) s.H s.H.next cells[i] cells'[i]) : WeakS P G s ⟨s.ρ, s.H.meltX n ob (.arr g e cells')⟩ := by
  intro n' wb Γ a w hs
  exact WeakS.freeze (s := s) (s' := ⟨s.ρ, s.H.meltX n ob (.arr g e cells')⟩) hG (fzH_meltX hs.heap.clo hob hl (hcell fun c hc => by
    obtain ⟨i, hi, rfl⟩ := List.mem_iff_getElem.1 hc
    exact hs.heap.clo.below ob _ hob i hi)) (fun t => .dead (hs.env t).belowN) n' wb Γ a w hs
theorem app_nilV {H : AHeap} {t e : TypeId} {n : Nat} {src : List AVal} {z : List AVal} (ht : P.underlying t = some (.slice e)) (hz : P.cellsOf e = 1) (hzero : zeroA P e = some z) (h0 : 0 < src.length)
    (hb : src.length * P.bytesOf e ≤ 2 ^ 46 ∧ src.length ≤ 2 ^ 46) (hn : n = H.next) : appendA P H n t t (.lit (.slice none 0 0)) (.vec src.length src) = some (.own n 0 0 src.length 1, ext H [.arr 0 e src]) := by
  have hsrc : sourceA H 1 (.vec src.length src) = some (src.length, src) := by
    unfold sourceA; simp
  unfold appendA
  rw [ht]
  simp only [hzero, hz, Option.bind_some]
  rw [hsrc]
  simp only [Option.bind_some]
  rw [if_neg (by omega), if_pos hb, lay_at hn]
  rfl
theorem OwnM.appF {lo n : Nat} {H : AHeap} {e1 e0 : TypeId} {v : AVal} {ids : List Nat} {rows : List (List AVal)} {r : List AVal} {t : TypeId} {z : List AVal} (h : OwnM lo H e1 e0 v ids rows) (ht : P.underlying t = some (.slice e1)) (hz : P.cellsOf e1 = 1) (hzero : zeroA P e1 = some z) (hby : P.bytesOf e1 = 24) (hne : e1 ≠ e0)
    (hb : rows.length < 2 ^ 40) (hlo : lo ≤ H.next) (hn : n = H.next + 2) :
    ∃ v' H', appendA P (ext (ext H [.arr 0 e0 r]) [.arr 0 e1 [.own H.next 0 0 r.length 1]]) n t t v (.own (H.next + 1) 0 0 1 1) = some (v', H') ∧ OwnM lo H' e1 e0 v' (ids ++ [H.next]) (rows ++ [r]) ∧ H.next ≤ H'.next ∧ (∀ k, k < H.next → (∀ g n, v ≠ .own k g 0 n 1) → H'.get k = H.get k) := by
  obtain ⟨v', H', hA, hO, hn', _⟩ := h.app (P := P) (r := r) ht hz hzero hby hne hb hlo hn
  have nb : (ext H [.arr 0 e0 r]).next = H.next + 1 := rfl
  obtain ⟨v2, H2, hA2, _, _, hp⟩ := app_oneG (P := P) (H := ext H [.arr 0 e0 r]) (t := t) (x := .own H.next 0 0 r.length 1) (n := n) ht hz hzero rfl (by rw [hby]; simp [h.len]; omega) (h.top.over (.ext _ _)) (by rw [nb]; omega) (by rw [nb]; omega)
  rw [nb] at hA2
  have e : (v2, H2) = (v', H') := Option.some.inj (hA2.symm.trans hA)
  cases e
  exact ⟨_, _, hA, hO, hn', fun k hk hne => (hp k (by rw [nb]; omega) hne).trans (get_ext_old _ _ _ hk)⟩
theorem OwnM.ne {lo : Nat} {H : AHeap} {e1 e0 : TypeId} {v : AVal} {ids : List Nat} {rows : List (List AVal)} (h : OwnM lo H e1 e0 v ids rows) {k g' : Nat} {e : TypeId} {c : List AVal} (hk : H.get k = some (.arr g' e c)) (he : e ≠ e1) : ∀ g n, v ≠ .own k g 0 n 1 := fun g n hv => by
  rcases h.top with ⟨h1, _⟩ | ⟨i, g2, _, _, h1, h2⟩
  · rw [h1] at hv; cases hv
  · rw [h1] at hv
    obtain rfl := (AVal.own.inj hv).1
    rw [hk] at h2
    cases h2
    exact he rfl
theorem W.mid2 {n : Nat} {rd : Option Nat} {Q : AX → St → Prop} {s : St} {x y : Code} (Φ : St → Prop) (h : W P G n rd x (fun ax s' => ax = .normal ∧ Φ s') s) (h2 : ∀ s', Φ s' → W P G n rd y Q s') : W P G n rd (.seq x y) Q s :=
  W.seq (h.mono fun ax s' ⟨e, hp⟩ => by subst e; exact h2 s' hp)
theorem WeakS.same {s : St} : WeakS P G s s := by
  intro n wb Γ a w hs
  exact ⟨Γ, hs, .refl _ _ _, fun _ _ h _ => h⟩
end Go.Hx
namespace Go.Proofs
open Go.Hx
structure NodO (lo : Nat) (H : AHeap) (pv rv : AVal) (ids : List Nat) (x : NodeP) : Prop where
  par : OwnG lo H 3 pv (ints x.parents)
  rows : OwnM lo H 22 3 rv ids (x.rows.map ints)
  dj : ∀ id g n, pv = .own id g 0 n 1 → id ∉ ids
  nil : x.rows = [] → rv = .lit (.slice none 0 0)
theorem NodO.keep {lo : Nat} {H H' : AHeap} {pv rv : AVal} {ids : List Nat} {x : NodeP} (h : NodO lo H pv rv ids x) (hn : H.next ≤ H'.next) (hk : ∀ id, lo ≤ id → id < H.next → H'.get id = H.get id) : NodO lo H' pv rv ids x :=
  ⟨h.par.keep (Nat.le_refl _) hn fun id _ h1 h2 _ _ => hk id h1 h2, h.rows.keep hn hk, h.dj, h.nil⟩
theorem NodO.over {lo : Nat} {H H' : AHeap} {pv rv : AVal} {ids : List Nat} {x : NodeP} (h : NodO lo H pv rv ids x) (o : Over H H') : NodO lo H' pv rv ids x := h.keep o.next fun id _ h2 => o.old id h2
theorem NodO.keepE {lo : Nat} {H H' : AHeap} {pv rv : AVal} {ids : List Nat} {x : NodeP} (h : NodO lo H pv rv ids x) (hn : H.next ≤ H'.next) (hk : ∀ id g e c, lo ≤ id → id < H.next → H.get id = some (.arr g e c) → e ≠ 91 → H'.get id = H.get id) : NodO lo H' pv rv ids x :=
  ⟨h.par.keep (Nat.le_refl _) hn fun id g h1 h2 h3 _ => hk id g _ _ h1 h2 h3 (by decide), ⟨h.rows.len, h.rows.nd, fun i hi => ⟨(h.rows.rng i hi).1, by have := (h.rows.rng i hi).2; omega⟩, h.rows.top.keep (Nat.le_refl _) hn fun id g h1 h2 h3 _ => hk id g _ _ h1 h2 h3 (by decide), fun k id r h1 h2 => by
    have h3 := h.rows.rng id (List.mem_of_getElem? h1)
    have h4 := h.rows.row k id r h1 h2
    rw [hk id _ _ _ h3.1 h3.2 h4 (by decide)]
    exact h4⟩, h.dj, h.nil⟩
theorem ownM_one {lo : Nat} {H : AHeap} {e1 e0 : TypeId} {v : AVal} {ids : List Nat} {rows : List (List AVal)} (h : OwnM lo H e1 e0 v ids rows) : v.one = true ∧ v.cells = [v] := ⟨h.top.one, h.top.cells⟩
theorem fzT {S : Nat → Prop} {lo nx : Nat} {H : AHeap} {e : TypeId} {v : AVal} {cs cs' : List AVal} (h : OwnG lo H e v cs) (hS : ∀ i g, lo ≤ i → i < H.next → H.get i = some (.arr g e cs) → S i) (hl : cs'.length = cs.length)
    (hc : ∀ i (h : i < cs.length) (h' : i < cs'.length), Fz S H nx cs[i] cs'[i]) : Fz S H nx v (.vec cs'.length cs') := by
  rcases h with ⟨rfl, rfl⟩ | ⟨id, g, h1, h2, rfl, h4⟩
  · obtain rfl := List.eq_nil_of_length_eq_zero hl
    exact .nil
  · rw [hl]
    refine .frz (hS id g h1 h2 h4) h4 (by omega) fun j hj h2 h' => ?_
    simp only [Nat.zero_add] at h2 ⊢
    exact hc j h2 h'
def GoneN (S : Nat → Prop) (lo : Nat) (H : AHeap) : Prop := ∀ i g e c, lo ≤ i → i < H.next → H.get i = some (.arr g e c) → e ≠ 91 → S i
theorem NodO.fzP {S : Nat → Prop} {lo nx : Nat} {H : AHeap} {pv rv : AVal} {ids : List Nat} {x : NodeP} (h : NodO lo H pv rv ids x) (hS : GoneN S lo H) : Fz S H nx pv (vecI x.parents) := by
  have := fzT (S := S) (nx := nx) (cs' := ints x.parents) h.par (fun i g h1 h2 h3 => hS i g _ _ h1 h2 h3 (by decide)) rfl fun i hi _ => by simp only [ints, List.getElem_map]; exact .lit _
  rw [ints_length] at this
  exact this
theorem NodO.fzV {S : Nat → Prop} {lo nx : Nat} {H : AHeap} {pv rv : AVal} {ids : List Nat} {x : NodeP} (h : NodO lo H pv rv ids x) (hS : GoneN S lo H) : Fz S H nx rv (vecV x.rows) := by
  have hl := h.rows.len
  rw [List.length_map] at hl
  have := fzT (S := S) (nx := nx) (cs' := x.rows.map vecI) h.rows.top (fun i g h1 h2 h3 => hS i g _ _ h1 h2 h3 (by decide)) (by simp [hl]) fun i hi hi' => by
    have hil : i < x.rows.length := by simpa using hi'
    have hii : i < ids.length := by omega
    simp only [List.getElem_map, List.getElem_zipWith, ints_length]
    have hid := h.rows.rng _ (List.getElem_mem hii)
    have hrow := h.rows.row i _ _ (List.getElem?_eq_getElem hii) (show (x.rows.map ints)[i]? = some (ints x.rows[i]) by rw [List.getElem?_map, List.getElem?_eq_getElem hil]; rfl)
    refine .frz (hS _ _ _ _ hid.1 hid.2 hrow (by decide)) hrow (by simp [ints_length]) fun j hj h2 h' => ?_
    simp only [ints, List.getElem_map]
    have e0 : 0 + j = j := Nat.zero_add j
    simp only [e0]
    exact .lit _
  rw [List.length_map] at this
  exact this
theorem NodO.fzR {S : Nat → Prop} {lo nx : Nat} {H : AHeap} {pv rv : AVal} {ids : List Nat} {x : NodeP} (h : NodO lo H pv rv ids x) (hS : GoneN S lo H) : Fz S H nx rv (rowsE x) := by
  unfold rowsE
  split
  · rename_i e
    rw [h.nil e]
    exact .lit _
  · exact h.fzV hS
theorem NodO.low {lo lo' : Nat} {H : AHeap} {pv rv : AVal} {ids : List Nat} {x : NodeP} (h : NodO lo H pv rv ids x) (hl : lo' ≤ lo) : NodO lo' H pv rv ids x :=
  ⟨h.par.keep hl (Nat.le_refl _) fun _ _ _ _ _ _ => rfl, ⟨h.rows.len, h.rows.nd, fun i hi => ⟨by have := (h.rows.rng i hi).1; omega, (h.rows.rng i hi).2⟩, h.rows.top.keep hl (Nat.le_refl _) fun _ _ _ _ _ _ => rfl, h.rows.row⟩, h.dj, h.nil⟩
end Go.Proofs
