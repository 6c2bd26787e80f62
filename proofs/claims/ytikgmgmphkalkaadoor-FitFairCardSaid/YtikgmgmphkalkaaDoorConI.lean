/- Own work: contracts. -/
import Derived.Test.YtikgmgmphkalkaaDoorConH
import Derived.Test.YtikgmgmphkalkaaDoorConD
import Derived.Test.YtikgmgmphkalkaaDoorConC
import Derived.Test.YtikgmgmphkalkaaDoorConE
import Derived.Test.YtikgmgmphkalkaaDoorConG
set_option linter.all false
set_option maxRecDepth 100000
namespace Go.Proofs
open Go.Hx
def planC (n : Int) (ord : List Int) (e : Nat) : List AVal := .lit (.int .u8 n) :: bytesL ord ++ [.lit (.int .u16 (e : Int))]
theorem up_rank {ps : List Nat} {r : Nat → Nat} (h : ∀ v u : Nat, (ps.getD v 0).testBit u = true → r u < r v) : AcycB ps := by
  intro v _
  have step : ∀ (l : List Nat) (s : Nat), (∀ u, s.testBit u = true → r u < r v) → ∀ u, (l.foldl (upStep ps) s).testBit u = true → r u < r v := by
    intro l
    induction l with
    | nil => intro s hs; exact hs
    | cons a l ih =>
      intro s hs
      refine ih _ fun u hu => ?_
      unfold upStep at hu
      split at hu
      · rename_i ha
        rw [Nat.testBit_or, Bool.or_eq_true] at hu
        rcases hu with hu | hu
        · exact hs u hu
        · have := h a u hu; have := hs a ha; omega
      · exact hs u hu
  have all : ∀ k u, (upN ps k (ps.getD v 0)).testBit u = true → r u < r v := by
    intro k
    induction k with
    | zero => exact fun u hu => h v u hu
    | succ k ih => exact step _ _ ih
  rcases Bool.eq_false_or_eq_true ((upL ps (ps.getD v 0)).testBit v) with e | e
  · exact absurd (all _ v e) (Nat.lt_irrefl _)
  · exact e
def UpG (p : List Int) (ps : List Nat) : Prop := ∀ v u : Nat, (ps.getD v 0).testBit u = true → ∃ a b : Nat, a < b ∧ p[a]? = some (u : Int) ∧ p[b]? = some (v : Int)
theorem UpG.ok {n : Nat} {p : List Int} {ps : List Nat} (hp : IsPerm n p) (hl : ps.length = n) (h : UpG p ps) : GraphOk ps n := by
  refine ⟨hl, fun x hx => ?_, up_rank (r := fun v => p.idxOf (v : Int)) fun v u hu => ?_⟩
  · obtain ⟨v, hv⟩ := List.mem_iff_getElem?.1 hx
    refine Nat.lt_pow_two_of_testBit _ fun i hi => ?_
    rcases Bool.eq_false_or_eq_true (x.testBit i) with e | e
    · obtain ⟨a, b, _, ha, _⟩ := h v i (by rw [getD_of_get hv]; exact e)
      have := hp.rng _ (List.mem_of_getElem? ha)
      omega
    · exact e
  · obtain ⟨a, b, hab, ha, hb⟩ := h v u hu
    have e : ∀ (c : Nat) (z : Int), p[c]? = some z → p.idxOf z = c := fun c z hc => by
      have hl := get_lt hc
      rw [List.getElem?_eq_getElem hl] at hc
      cases hc
      exact List.Nodup.idxOf_getElem hp.nd c hl
    show p.idxOf (u : Int) < p.idxOf (v : Int)
    rw [e a _ ha, e b _ hb]
    exact hab
theorem UpG.set {p : List Int} {ps : List Nat} (h : UpG p ps) {a b u v x : Nat} (hab : a < b) (ha : p[a]? = some (u : Int)) (hb : p[b]? = some (v : Int)) (hx : ps[v]? = some x) : UpG p (ps.set v (x ||| 2 ^ u)) := by
  intro w q hq
  by_cases hw : w = v
  · subst hw
    rw [List.getD_eq_getElem?_getD, List.getElem?_set, if_pos rfl, if_pos (get_lt hx)] at hq
    simp only [Option.getD_some] at hq
    rw [Nat.testBit_or, Bool.or_eq_true] at hq
    rcases hq with hq | hq
    · exact h w q (by rw [getD_of_get hx]; exact hq)
    · rw [Nat.testBit_two_pow] at hq
      have : u = q := of_decide_eq_true hq
      subst this
      exact ⟨a, b, hab, ha, hb⟩
  · rw [List.getD_eq_getElem?_getD, List.getElem?_set, if_neg (fun e => hw e.symm), ← List.getD_eq_getElem?_getD] at hq
    exact h w q hq
theorem shrU16 {P : Program} {t : TypeId} {x y : Operand} {a s : Nat} (ha : a < 65536) : binA P .shr t x y (.lit (.int .u16 (a : Int))) (.lit (.int .i64 (s : Int))) = some (.lit (.int .u16 ((a >>> s : Nat) : Int))) := by
  rw [bin_shr (by omega)]
  congr 3
  rw [Int.toNat_natCast, Nat.shiftRight_eq_div_pow]
  rcases Nat.lt_or_ge s 16 with h | h
  · rw [Nat.min_eq_left (by show s ≤ 16; omega), Int.fdiv_eq_ediv_of_nonneg _ (by exact_mod_cast Nat.zero_le _)]
    push_cast
    rfl
  · rw [Nat.min_eq_right (by show 16 ≤ s; exact h), Int.fdiv_eq_ediv_of_nonneg _ (by exact_mod_cast Nat.zero_le _)]
    have h2 : 2 ^ 16 ≤ 2 ^ s := Nat.pow_le_pow_right (by decide) h
    have h1 : a / 2 ^ s = 0 := Nat.div_eq_of_lt (by omega)
    rw [h1]
    show (a : Int) / 2 ^ 16 = 0
    exact Int.ediv_eq_zero_of_lt (by omega) (by omega)
theorem bitU16 {P : Program} {t : TypeId} {x y : Operand} {a s : Nat} (ha : a < 65536) : binA P .and t x y (.lit (.int .u16 ((a >>> s : Nat) : Int))) (.lit (.int .u16 1)) = some (.lit (.int .u16 (if a.testBit s then 1 else 0))) := by
  have hs : a >>> s < 65536 := Nat.lt_of_le_of_lt (Nat.shiftRight_le a s) ha
  rw [bin_and]
  have e1 : (BitVec.ofInt IntKind.u16.bits ((a >>> s : Nat) : Int)).toNat = a >>> s := by
    show (BitVec.ofInt 16 _).toNat = _
    rw [BitVec.ofInt_natCast, BitVec.toNat_ofNat, Nat.mod_eq_of_lt (by exact hs)]
  have e2 : (BitVec.ofInt IntKind.u16.bits (1 : Int)).toNat = 1 := by decide
  rw [BitVec.toNat_and, e1, e2, Nat.and_one_is_mod]
  have : (a >>> s) % 2 = if a.testBit s then 1 else 0 := by
    rw [Nat.testBit_eq_decide_div_mod_eq, Nat.shiftRight_eq_div_pow]
    rcases Nat.mod_two_eq_zero_or_one (a / 2 ^ s) with h | h <;> rw [h] <;> simp
  rw [this]
  split <;> rfl
theorem shift_get {p : List Int} {k : Nat} {x y : Int} (hy : p[k]? = some y) : (p.take (k + 1) ++ x :: p.drop (k + 1))[k]? = some y := by
  have := get_lt hy
  rw [List.getElem?_append_left (by rw [List.length_take]; omega), List.getElem?_take, if_pos (by omega)]
  exact hy
theorem shift_set {p : List Int} {k : Nat} {x y : Int} (hy : p[k]? = some y) : (p.take (k + 1) ++ x :: p.drop (k + 1)).set (k + 1) y = p.take k ++ y :: p.drop k := by
  have hl := get_lt hy
  have e1 : (p.take (k + 1)).length = k + 1 := by rw [List.length_take]; omega
  rw [List.set_append_right _ _ (by omega), e1, Nat.sub_self, List.set_cons_zero, take_succ_get hy]
  have e2 : p.drop k = y :: p.drop (k + 1) := by
    rw [List.drop_eq_getElem_cons hl]
    rw [List.getElem?_eq_getElem hl] at hy
    rw [Option.some.inj hy]
  rw [e2]
  simp
theorem shift_put {p : List Int} {k : Nat} {x y : Int} (hk : k ≤ p.length) : (p.take k ++ x :: p.drop k).set k y = p.take k ++ y :: p.drop k := by
  have e1 : (p.take k).length = k := by rw [List.length_take]; omega
  rw [List.set_append_right _ _ (by omega), e1, Nat.sub_self, List.set_cons_zero]
theorem shift_len {p : List Int} {k : Nat} {x : Int} (hk : k ≤ p.length) : (p.take k ++ x :: p.drop k).length = p.length + 1 := by
  rw [List.length_append, List.length_take, List.length_cons, List.length_drop]; omega

set_option maxHeartbeats 8000000 in
theorem graphP_spec (b n : Nat) (ord : List Int) (ed : Nat) (hb : b < 256) (ho : ord.length = 6) (ho8 : ∀ x ∈ ord, U8 x) (he : ed < 65536) (hn : n = 1 + b % 6) (H : AHeap) (K : ARes → AHeap → Prop)
    (hK : ∀ ps : List Nat, GraphOk ps n → K (.ret (vecB ps)) H) :
    ACall Tryd.prog G0 16 [.agg (planC b ord ed), lin 6] H K := by
  refine ACall.clo ⟨_, Tryd.func16, rfl, rfl⟩ fun hcl => ?_
  have hn6 : 1 ≤ n ∧ n ≤ 6 := by omega
  have w1 : IntKind.i64.wrap (b : Int) = b := IntWalk.i64_in _ (by omega)
  have m1 : (b : Int).tmod 6 = ((b % 6 : Nat) : Int) := by rw [Int.tmod_eq_emod_of_nonneg (by omega)]; push_cast; rfl
  have w2 : IntKind.i64.wrap ((b % 6 : Nat) : Int) = ((b % 6 : Nat) : Int) := IntWalk.i64_in _ (by omega)
  have w3 : IntKind.i64.wrap (1 + ((b % 6 : Nat) : Int)) = (n : Int) := by rw [IntWalk.i64_in _ (by omega)]; omega
  obtain ⟨PC, hPC⟩ : ∃ PC, PC = planC b ord ed := ⟨_, rfl⟩
  have c0 : PC[0]? = some (.lit (.int .u8 b)) := by rw [hPC]; rfl
  have ci : ∀ (i : Nat) (x : Int), ord[i]? = some x → PC[1 + i]? = some (.lit (.int .u8 x)) := fun i x h => by
    rw [hPC, Nat.add_comm]; unfold planC
    rw [List.cons_append, List.getElem?_cons_succ, List.getElem?_append_left (by rw [bytesL_len]; exact get_lt h)]
    exact bytesL_get h
  have c7 : PC[7]? = some (.lit (.int .u16 ed)) := by
    rw [hPC]; unfold planC
    rw [List.cons_append, List.getElem?_cons_succ, List.getElem?_append_right (by rw [bytesL_len]; omega), bytesL_len, ho]; rfl
  have cne := ne_of_get c0
  have cl : PC.length = 8 := by rw [hPC]; unfold planC; simp [bytesL_len, ho]
  rw [← hPC]
  refine ACall.of_bodyW (n := 94) (rs := [.tmp 4]) Tryd.func16 rfl rfl rfl (by decide) (by simp) ?_
  refine W.seq (vc_sound _ _ _ (by rfl) ?_)
  simp (config := { maxSteps := 1000000 }) only [go_sem, appendA_U]
  obtain ⟨H1, hH1⟩ : ∃ H1, H1 = ext H [.arr 0 43 PC] := ⟨_, rfl⟩
  have b0 : H1.get H.next = some (.arr 0 43 PC) := by rw [hH1]; exact get_ext0 ..
  have n1 : H1.next = H.next + 1 := by rw [hH1]; rfl
  have o1 : Over H H1 := by rw [hH1]; exact .ext _ _
  have l1 := get_live b0
  rw [← hH1]
  refine W.seq (vc_sound _ _ _ (by rfl) ?_)
  simp (config := { maxSteps := 1000000 }) only [go_sem, l1, c0, cne, w1, m1, w2, w3, appendA_U]
  refine W.seq (vc_sound _ _ _ (by rfl) ?_)
  simp (config := { maxSteps := 1000000 }) only [go_sem, appendA_U]
  refine W.env fun E hE => ?_
  have e2 : E 2 = .ptr H.next 0 0 := by rw [hE]; simp (config := { maxSteps := 1000000 }) only [go_sem, appendA_U]
  have e5 : E 5 = lin n := by rw [hE]; simp (config := { maxSteps := 1000000 }) only [go_sem, l1, c0, cne, w1, m1, w2, w3, appendA_U]
  have e6 : E 6 = .lit (.slice none 0 0) := by rw [hE]; simp (config := { maxSteps := 1000000 }) only [go_sem, appendA_U]
  clear hE
  refine W.midN (fun s' => s'.ρ 2 = .ptr H.next 0 0 ∧ s'.ρ 5 = lin n ∧ ∃ p, IsPerm n p ∧ Over H1 s'.H ∧ OwnG H1.next s'.H 3 (s'.ρ 6) (ints p)) ?_ ?_
  · refine W.seq (vc_sound _ _ _ (by rfl) ?_)
    simp (config := { maxSteps := 1000000 }) only [go_sem, appendA_U]
    refine W.block ?_
    refine W.loop0 18014398508434368 (by kernel_rfl) (fun ρ Hx => ∃ (i : Nat) (p : List Int), ρ 7 = lin i ∧ i ≤ n ∧ IsPerm i p ∧ Over H1 Hx ∧ OwnG H1.next Hx 3 (ρ 6) (ints p)) (fun ρ Hx => n - (iv (ρ 7)).toNat) ?_ ?_
    · simp (config := { maxSteps := 1000000 }) only [go_sem, e6, appendA_U]
      exact ⟨0, [], rfl, by omega, ⟨rfl, by simp, by simp⟩, .refl _, .nil⟩
    rintro ρ Hx ⟨i, p, h7, hi, hp, ov, ho6⟩
    obtain ⟨v, hv⟩ : ∃ v, v = ρ 6 := ⟨_, rfl⟩
    rw [← hv] at ho6
    refine W.env fun E1 hE1 => ?_
    have f2 : E1 2 = .ptr H.next 0 0 := by rw [hE1]; simp (config := { maxSteps := 1000000 }) only [go_sem, e2, appendA_U]
    have f5 : E1 5 = lin n := by rw [hE1]; simp (config := { maxSteps := 1000000 }) only [go_sem, e5, appendA_U]
    have f6 : E1 6 = v := by rw [hE1]; simp (config := { maxSteps := 1000000 }) only [go_sem, hv, appendA_U]
    have f7 : E1 7 = lin i := by rw [hE1]; simp (config := { maxSteps := 1000000 }) only [go_sem, h7, appendA_U]
    clear hE1
    have vo := ho6.one
    have vcl := ho6.cells
    have ovn := ov.next
    have lx := get_live ((ov.old H.next (by omega)).trans b0)
    by_cases hb : (i : Int) < n
    rotate_left
    · refine vc_sound _ _ _ (by rfl) ?_
      simp (config := { maxSteps := 1000000 }) only [go_sem, f5, f7, hb, appendA_U]
      obtain rfl : i = n := by omega
      exact ⟨f2, p, hp, ov, by rw [f6]; exact ho6⟩
    obtain ⟨x, hx⟩ := get_of_lt (l := ord) (i := i) (by omega)
    have x8 := ho8 x (List.mem_of_getElem? hx)
    have cix := ci i x hx
    have x0 := x8.1
    have x1 := x8.2
    have u1 := IntWalk.i64_in x (by omega)
    have u2 := IntWalk.i64_in ((i : Int) + 1) (by omega)
    have u0 : ¬ (i : Int) + 1 = 0 := by omega
    obtain ⟨a, ha⟩ : ∃ a : Nat, (a : Int) = x % ((i : Int) + 1) := ⟨(x % ((i : Int) + 1)).toNat, by have := Int.emod_nonneg x u0; omega⟩
    have hai : a ≤ i := by have := Int.emod_lt_of_pos x (show 0 < (i : Int) + 1 by omega); omega
    have m2 : x.tmod ((i : Int) + 1) = a := by rw [ha]; exact Int.tmod_eq_emod_of_nonneg x0
    have u3 := IntWalk.i64_in (a : Int) (by omega)
    have i6 : (i : Int) < 6 := by omega
    refine W.seq (vc_sound _ _ _ (by rfl) ?_)
    simp (config := { maxSteps := 1000000 }) only [go_sem, f5, f7, hb, appendA_U]
    refine W.seq (W.block ?_)
    refine W.seq (vc_sound _ _ _ (by rfl) ?_)
    simp (config := { maxSteps := 1000000 }) only [go_sem, f2, f7, lx, cix, i6, u1, u2, u0, m2, u3, appendA_U]
    have hpl := hp.len
    obtain ⟨v', Ha, hA, hOa, hna, hpa⟩ := app_oneG (P := Tryd.prog) (t := 22) (x := lin 0) (n := Hx.next + 1) Tryd.underlying22 Tryd.cells3 Tryd.zero3 rfl (by rw [Tryd.bytes3, ints_length]; omega) ho6 ovn rfl
    simp only [lin] at hA
    have e0 : ints p ++ [lin 0] = ints (p.take i ++ 0 :: p.drop i) := by rw [List.take_of_length_le (by omega), List.drop_of_length_le (by omega)]; unfold ints; rw [List.map_append]; rfl
    rw [e0] at hOa
    obtain ⟨oi, og, o1i, o2i, rfl, gO⟩ : ∃ oi og, H1.next ≤ oi ∧ oi < Ha.next ∧ v' = .own oi og 0 (i + 1) 1 ∧ Ha.get oi = some (.arr og 3 (ints (p.take i ++ 0 :: p.drop i))) := by
      have hl : (ints (p.take i ++ 0 :: p.drop i)).length = i + 1 := by rw [ints_length, shift_len (by omega), hpl]
      rcases hOa with ⟨_, h⟩ | ⟨io, go, a1, a2, b1, d⟩
      · rw [h] at hl; simp at hl
      · exact ⟨io, go, a1, a2, by rw [b1, hl], d⟩
    refine W.seq (vc_sound _ _ _ (by rfl) ?_)
    simp (config := { maxSteps := 1000000 }) only [go_sem, f6, vo, vcl, hA]
    refine W.seq (vc_sound _ _ _ (by rfl) ?_)
    simp (config := { maxSteps := 1000000 }) only [go_sem, f7, appendA_U]
    refine W.env fun E2 hE2 => ?_
    have a2 : E2 2 = .ptr H.next 0 0 := by rw [hE2]; simp (config := { maxSteps := 1000000 }) only [go_sem, f2, appendA_U]
    have a5 : E2 5 = lin n := by rw [hE2]; simp (config := { maxSteps := 1000000 }) only [go_sem, f5, appendA_U]
    have a6 : E2 6 = .own oi og 0 (i + 1) 1 := by rw [hE2]; simp (config := { maxSteps := 1000000 }) only [go_sem, appendA_U]
    have a7 : E2 7 = lin i := by rw [hE2]; simp (config := { maxSteps := 1000000 }) only [go_sem, f7, appendA_U]
    have a8 : E2 8 = lin a := by rw [hE2]; simp (config := { maxSteps := 1000000 }) only [go_sem, appendA_U]
    have a9 : E2 9 = lin i := by rw [hE2]; simp (config := { maxSteps := 1000000 }) only [go_sem, f7, appendA_U]
    clear hE2
    refine W.loop0 1125762467889664 (by kernel_rfl) (fun ρ Hy => ∃ (k : Nat) (z : Int), ρ 9 = lin k ∧ a ≤ k ∧ k ≤ i ∧ Hy.next = Ha.next ∧ (∀ id, id ≠ oi → Hy.get id = Ha.get id) ∧ Hy.get oi = some (.arr og 3 (ints (p.take k ++ z :: p.drop k)))) (fun ρ Hy => (iv (ρ 9)).toNat) ?_ ?_
    · exact ⟨i, 0, a9, hai, by omega, rfl, fun _ _ => rfl, gO⟩
    rintro ρ2 Hy ⟨k, z, h9, hak, hki, ny, holdy, gy⟩
    refine W.env fun E3 hE3 => ?_
    have d2 : E3 2 = .ptr H.next 0 0 := by rw [hE3]; simp (config := { maxSteps := 1000000 }) only [go_sem, a2, appendA_U]
    have d5 : E3 5 = lin n := by rw [hE3]; simp (config := { maxSteps := 1000000 }) only [go_sem, a5, appendA_U]
    have d6 : E3 6 = .own oi og 0 (i + 1) 1 := by rw [hE3]; simp (config := { maxSteps := 1000000 }) only [go_sem, a6, appendA_U]
    have d7 : E3 7 = lin i := by rw [hE3]; simp (config := { maxSteps := 1000000 }) only [go_sem, a7, appendA_U]
    have d8 : E3 8 = lin a := by rw [hE3]; simp (config := { maxSteps := 1000000 }) only [go_sem, a8, appendA_U]
    have d9 : E3 9 = lin k := by rw [hE3]; simp (config := { maxSteps := 1000000 }) only [go_sem, h9, appendA_U]
    clear hE3
    have ly := get_live gy
    have il : ∀ z' k', k' ≤ i → (ints (p.take k' ++ z' :: p.drop k')).length = i + 1 := fun z' k' h => by rw [ints_length, shift_len (by omega), hpl]
    have ily := il z k hki
    by_cases hb2 : (k : Int) > a
    · obtain ⟨k, rfl⟩ : ∃ q, k = q + 1 := ⟨k - 1, by omega⟩
      obtain ⟨y, hy⟩ := get_of_lt (l := p) (i := k) (by omega)
      have hyg := shift_get (x := z) hy
      have hyn := ne_of_get hyg
      have s1 : IntKind.i64.wrap (((k + 1 : Nat) : Int) - 1) = (k : Int) := by rw [IntWalk.i64_in _ (by omega)]; omega
      have k0 : (k : Int) ≥ 0 := by omega
      have k1 : (k : Int) < (i : Int) + 1 := by omega
      have k2 : ((k + 1 : Nat) : Int) < (i : Int) + 1 := by omega
      refine vc_sound _ _ _ (by rfl) ?_
      simp (config := { maxSteps := 1000000 }) only [go_sem, d6, d7, d8, d9, hb2, ly, ily, hyg, hyn, s1, k0, k1, k2, appendA_U]
      refine ⟨by omega, by omega, by omega, by rw [upd_next]; omega, ⟨k, y, rfl, by omega, by omega, by rw [upd_next]; exact ny, fun id h => by rw [upd_get, if_neg h]; exact holdy id h, by rw [upd_get, if_pos rfl, setAt_ints (by rw [shift_len (by omega)]; omega), shift_set hy]⟩, by rw [h9]; simp only [lin, iv_int]; omega⟩
    obtain rfl : k = a := by omega
    refine vc_sound _ _ _ (by rfl) ?_
    simp (config := { maxSteps := 1000000 }) only [go_sem, d8, d9, hb2, appendA_U]
    refine vc_sound _ _ _ (by rfl) ?_
    simp (config := { maxSteps := 1000000 }) only [go_sem, d6, d7, d8, ly, ily, appendA_U]
    refine ⟨by omega, by omega, ?_⟩
    refine vc_sound _ _ _ (by rfl) ?_
    simp (config := { maxSteps := 1000000 }) only [go_sem, d7, u2, appendA_U]
    rw [setAt_ints (by rw [shift_len (by omega)]; omega), shift_put (by omega)]
    refine ⟨by rw [upd_next]; omega, ⟨i + 1, p.take k ++ (i : Int) :: p.drop k, rfl, by omega, isPerm_ins hp k hki, ⟨by rw [upd_next]; omega, fun id h => ?_⟩, .inr ⟨oi, og, o1i, by rw [upd_next]; omega, by rw [ints_length, shift_len (by omega), hpl]; exact d6, by rw [upd_get, if_pos rfl]⟩⟩, by rw [h7]; simp only [lin, iv_int]; omega⟩
    rw [upd_get, if_neg (by omega), holdy id (by omega), hpa id (by omega) (OwnG.neF ho6 h)]
    exact ov.old id h
  rintro ⟨ρ, Hx⟩ ⟨p2, p5, p, hp, ov, ho6⟩
  simp only at p2 p5 ho6 ov
  have hpl := hp.len
  have ovn := ov.next
  refine W.weak (WeakS.cutE G0_ok (s := ⟨ρ, Hx⟩) (n := H1.next) (t0 := 6) (v' := vecI p) (ho6.fzI fun i h => h)) (Nat.le_refl _) trivial ?_
  obtain ⟨H2, hH2⟩ : ∃ H2, H2 = Hx.cut H1.next := ⟨_, rfl⟩
  have n2 : H1.next ≤ H2.next := by rw [hH2]; exact ovn
  have g2 : ∀ id, id < H1.next → H2.get id = H1.get id := fun id h => by rw [hH2, cut_get h]; exact ov.old id h
  show W _ _ _ _ _ _ ⟨fun t => if t = 6 then vecI p else ρ t, Hx.cut H1.next⟩
  rw [← hH2]
  clear hH2
  refine W.env fun E1 hE1 => ?_
  have f2 : E1 2 = .ptr H.next 0 0 := by rw [hE1]; exact p2
  have f5 : E1 5 = lin n := by rw [hE1]; exact p5
  have f6 : E1 6 = vecI p := by rw [hE1]; exact if_pos rfl
  clear hE1
  refine W.seq (vc_sound _ _ _ (by rfl) ?_)
  simp (config := { maxSteps := 1000000 }) only [go_sem, f5, appendA_U]
  refine ⟨⟨by omega, by omega⟩, ?_⟩
  obtain ⟨H3, hH3⟩ : ∃ H3, H3 = ext H2 [.arr 0 100 (List.replicate n (AVal.lit (.int .u64 0)))] := ⟨_, rfl⟩
  have n3 : H3.next = H2.next + 1 := by rw [hH3]; rfl
  have g3 : H3.get H2.next = some (.arr 0 100 ((List.replicate n 0).map bitV)) := by rw [hH3, List.map_replicate]; exact ext1_get_new
  have o3 : Over H2 H3 := by rw [hH3]; exact .ext _ _
  rw [← hH3]
  clear hH3
  refine W.seq (vc_sound _ _ _ (by rfl) ?_)
  simp (config := { maxSteps := 1000000 }) only [go_sem, appendA_U]
  refine W.seq (vc_sound _ _ _ (by rfl) ?_)
  simp (config := { maxSteps := 1000000 }) only [go_sem, appendA_U]
  refine W.env fun E2 hE2 => ?_
  have a2 : E2 2 = .ptr H.next 0 0 := by rw [hE2]; simp (config := { maxSteps := 1000000 }) only [go_sem, f2, appendA_U]
  have a5 : E2 5 = lin n := by rw [hE2]; simp (config := { maxSteps := 1000000 }) only [go_sem, f5, appendA_U]
  have a6 : E2 6 = vecI p := by rw [hE2]; simp (config := { maxSteps := 1000000 }) only [go_sem, f6, appendA_U]
  have a10 : E2 10 = .own H2.next 0 0 n 1 := by rw [hE2]; simp (config := { maxSteps := 1000000 }) only [go_sem, appendA_U]
  have a11 : E2 11 = lin 0 := by rw [hE2]; simp (config := { maxSteps := 1000000 }) only [go_sem, appendA_U]
  have a12 : E2 12 = lin 1 := by rw [hE2]; simp (config := { maxSteps := 1000000 }) only [go_sem, appendA_U]
  clear hE2
  refine W.loop0 9903520314210984605155080192 (by kernel_rfl) (fun ρ Hy => ∃ (j bt : Nat) (ps : List Nat), ρ 12 = lin j ∧ 1 ≤ j ∧ j ≤ n ∧ ρ 11 = lin bt ∧ bt ≤ 6 * j ∧ Hy.next = H3.next ∧ (∀ id, id ≠ H2.next → Hy.get id = H3.get id) ∧ Hy.get H2.next = some (.arr 0 100 (ps.map bitV)) ∧ ps.length = n ∧ UpG p ps) (fun ρ Hy => n - (iv (ρ 12)).toNat) ?_ ?_
  · refine ⟨1, 0, _, a12, by omega, by omega, a11, by omega, rfl, fun _ _ => rfl, g3, by simp, fun v u h => ?_⟩
    rw [List.getD_eq_getElem?_getD, List.getElem?_replicate] at h
    split at h <;> simp at h
  rintro ρ1 Hy ⟨j, bt, ps, h12, hj1, hjn, h11, hbt, ny, holdy, gy, hpsl, hup⟩
  refine W.env fun E3 hE3 => ?_
  have d2 : E3 2 = .ptr H.next 0 0 := by rw [hE3]; simp (config := { maxSteps := 1000000 }) only [go_sem, a2, appendA_U]
  have d5 : E3 5 = lin n := by rw [hE3]; simp (config := { maxSteps := 1000000 }) only [go_sem, a5, appendA_U]
  have d6 : E3 6 = vecI p := by rw [hE3]; simp (config := { maxSteps := 1000000 }) only [go_sem, a6, appendA_U]
  have d10 : E3 10 = .own H2.next 0 0 n 1 := by rw [hE3]; simp (config := { maxSteps := 1000000 }) only [go_sem, a10, appendA_U]
  have d11 : E3 11 = lin bt := by rw [hE3]; simp (config := { maxSteps := 1000000 }) only [go_sem, h11, appendA_U]
  have d12 : E3 12 = lin j := by rw [hE3]; simp (config := { maxSteps := 1000000 }) only [go_sem, h12, appendA_U]
  clear hE3
  by_cases hb : (j : Int) < n
  rotate_left
  · refine vc_sound _ _ _ (by rfl) ?_
    simp (config := { maxSteps := 1000000 }) only [go_sem, d5, d12, hb, appendA_U]
    refine vc_sound _ _ _ (by rfl) ?_
    simp (config := { maxSteps := 1000000 }) only [go_sem, d10, appendA_U]
    refine FinV.dropO G0_ok hcl ⟨by omega, fun id h => ?_⟩ (v' := vecB ps) ?_ (hK ps (hup.ok hp hpsl))
    · rw [holdy id (by omega), o3.old id (by omega), g2 id (by omega)]
      exact o1.old id h
    · have : OwnG H.next Hy 100 (.own H2.next 0 0 n 1) (ps.map bitV) := .inr ⟨H2.next, 0, by omega, by omega, by rw [List.length_map, hpsl], gy⟩
      exact this.fzB fun i h => h
  obtain ⟨w, hw⟩ := get_of_lt (l := p) (i := j) (by omega)
  have hwr := hp.rng w (List.mem_of_getElem? hw)
  obtain ⟨v, rfl⟩ := Int.eq_ofNat_of_zero_le hwr.1
  have hwn := ne_of_get hw
  have w7 := IntWalk.i64_in ((j : Int) + 1) (by omega)
  refine W.seq (vc_sound _ _ _ (by rfl) ?_)
  simp (config := { maxSteps := 1000000 }) only [go_sem, d5, d12, hb, appendA_U]
  refine W.seq (W.block ?_)
  refine W.seq (vc_sound _ _ _ (by rfl) ?_)
  simp (config := { maxSteps := 1000000 }) only [go_sem, appendA_U]
  refine W.env fun E4 hE4 => ?_
  have k2 : E4 2 = .ptr H.next 0 0 := by rw [hE4]; simp (config := { maxSteps := 1000000 }) only [go_sem, d2, appendA_U]
  have k5 : E4 5 = lin n := by rw [hE4]; simp (config := { maxSteps := 1000000 }) only [go_sem, d5, appendA_U]
  have k6 : E4 6 = vecI p := by rw [hE4]; simp (config := { maxSteps := 1000000 }) only [go_sem, d6, appendA_U]
  have k10 : E4 10 = .own H2.next 0 0 n 1 := by rw [hE4]; simp (config := { maxSteps := 1000000 }) only [go_sem, d10, appendA_U]
  have k11 : E4 11 = lin bt := by rw [hE4]; simp (config := { maxSteps := 1000000 }) only [go_sem, d11, appendA_U]
  have k12 : E4 12 = lin j := by rw [hE4]; simp (config := { maxSteps := 1000000 }) only [go_sem, d12, appendA_U]
  have k13 : E4 13 = lin 0 := by rw [hE4]; simp (config := { maxSteps := 1000000 }) only [go_sem, appendA_U]
  clear hE4
  refine W.block ?_
  refine W.loop0 9903520311977199189979310080 (by kernel_rfl) (fun ρ Hz => ∃ (i bu : Nat) (qs : List Nat), ρ 13 = lin i ∧ i ≤ j ∧ ρ 11 = lin bu ∧ bu ≤ 6 * j + i ∧ Hz.next = H3.next ∧ (∀ id, id ≠ H2.next → Hz.get id = H3.get id) ∧ Hz.get H2.next = some (.arr 0 100 (qs.map bitV)) ∧ qs.length = n ∧ UpG p qs) (fun ρ Hz => j - (iv (ρ 13)).toNat) ?_ ?_
  · exact ⟨0, bt, ps, k13, by omega, k11, by omega, ny, holdy, gy, hpsl, hup⟩
  rintro ρ3 Hz ⟨i, bu, qs, h13, hij, h11', hbu, nz, holdz, gz, hqsl, hupq⟩
  refine W.env fun E5 hE5 => ?_
  have m2' : E5 2 = .ptr H.next 0 0 := by rw [hE5]; simp (config := { maxSteps := 1000000 }) only [go_sem, k2, appendA_U]
  have m5 : E5 5 = lin n := by rw [hE5]; simp (config := { maxSteps := 1000000 }) only [go_sem, k5, appendA_U]
  have m6 : E5 6 = vecI p := by rw [hE5]; simp (config := { maxSteps := 1000000 }) only [go_sem, k6, appendA_U]
  have m10 : E5 10 = .own H2.next 0 0 n 1 := by rw [hE5]; simp (config := { maxSteps := 1000000 }) only [go_sem, k10, appendA_U]
  have m11 : E5 11 = lin bu := by rw [hE5]; simp (config := { maxSteps := 1000000 }) only [go_sem, h11', appendA_U]
  have m12 : E5 12 = lin j := by rw [hE5]; simp (config := { maxSteps := 1000000 }) only [go_sem, k12, appendA_U]
  have m13 : E5 13 = lin i := by rw [hE5]; simp (config := { maxSteps := 1000000 }) only [go_sem, h13, appendA_U]
  clear hE5
  by_cases hb2 : (i : Int) < j
  rotate_left
  · refine vc_sound _ _ _ (by rfl) ?_
    simp (config := { maxSteps := 1000000 }) only [go_sem, m12, m13, hb2, appendA_U]
    refine vc_sound _ _ _ (by rfl) ?_
    simp (config := { maxSteps := 1000000 }) only [go_sem, m12, w7, appendA_U]
    exact ⟨by omega, ⟨j + 1, bu, qs, rfl, by omega, by omega, m11, by omega, nz, holdz, gz, hqsl, hupq⟩, by rw [h12]; simp only [lin, iv_int]; omega⟩
  have lz := get_live gz
  have lP := get_live ((holdz H.next (by omega)).trans ((o3.old _ (by omega)).trans ((g2 _ (by omega)).trans b0)))
  have w8 := IntWalk.i64_in ((i : Int) + 1) (by omega)
  have w9 := IntWalk.i64_in ((bu : Int) + 1) (by omega)
  have s1 := fun t x y => shrU16 (P := Tryd.prog) (t := t) (x := x) (y := y) (s := bu) he
  have s2 := fun t x y => bitU16 (P := Tryd.prog) (t := t) (x := x) (y := y) (s := bu) he
  have c7n : PC[1 + 6]? = some (.lit (.int .u16 ed)) := c7
  refine W.seq (vc_sound _ _ _ (by rfl) ?_)
  simp (config := { maxSteps := 1000000 }) only [go_sem, m12, m13, hb2, appendA_U]
  refine W.seq (W.block ?_)
  refine W.seq (W.seq ?_)
  refine vc_sound _ _ _ (by rfl) ?_
  have fin : ∀ (ρ' : Nat → AVal) (Hq : AHeap) (rs : List Nat), ρ' 11 = lin bu → ρ' 13 = lin i → Hq.next = H3.next → (∀ id, id ≠ H2.next → Hq.get id = H3.get id) → Hq.get H2.next = some (.arr 0 100 (rs.map bitV)) → rs.length = n → UpG p rs → Hy.next ≤ Hq.next ∧ (∃ (i' bu' : Nat) (qs' : List Nat), lin ((i : Int) + 1) = lin i' ∧ i' ≤ j ∧ lin ((bu : Int) + 1) = lin bu' ∧ bu' ≤ 6 * j + i' ∧ Hq.next = H3.next ∧ (∀ id, ¬id = H2.next → Hq.get id = H3.get id) ∧ Hq.get H2.next = some (.arr 0 100 (qs'.map bitV)) ∧ qs'.length = n ∧ UpG p qs') ∧ j - ((i : Int) + 1).toNat < j - (iv (ρ3 13)).toNat := fun ρ' Hq rs _ _ h1 h2 h3 h4 h5 =>
    ⟨by omega, ⟨i + 1, bu + 1, rs, rfl, by omega, rfl, by omega, h1, h2, h3, h4, h5⟩, by rw [h13]; simp only [lin, iv_int]; omega⟩
  cases hbit : ed.testBit bu
  · simp (config := { maxSteps := 1000000 }) only [go_sem, m2', m11, lP, c7, c7n, s1, s2, hbit, appendA_U]
    refine W.cond (t := false) (by simp (config := { maxSteps := 1000000 }) only [go_sem, appendA_U]) ?_
    refine vc_sound _ _ _ (by rfl) ?_
    simp (config := { maxSteps := 1000000 }) only [go_sem, appendA_U]
    refine vc_sound _ _ _ (by rfl) ?_
    simp (config := { maxSteps := 1000000 }) only [go_sem, m11, w9, appendA_U]
    refine vc_sound _ _ _ (by rfl) ?_
    simp (config := { maxSteps := 1000000 }) only [go_sem, m13, w8, appendA_U]
    exact fin E5 Hz qs m11 m13 nz holdz gz hqsl hupq
  · obtain ⟨y, hy⟩ := get_of_lt (l := p) (i := i) (by omega)
    have hyr := hp.rng y (List.mem_of_getElem? hy)
    obtain ⟨u, rfl⟩ := Int.eq_ofNat_of_zero_le hyr.1
    have hyn := ne_of_get hy
    obtain ⟨x, hx⟩ := get_of_lt (l := qs) (i := v) (by omega)
    have hxn := ne_of_get hx
    have hxb : (qs.map bitV)[v]? = some (.lit (.int .u64 (x : Int))) := by rw [List.getElem?_map, hx]; rfl
    have hxb2 := ne_of_get hxb
    have hx64 : x < 2 ^ 64 := by
      have := (hupq.ok hp hqsl).2.1 x (List.mem_of_getElem? hx)
      have h2 : 2 ^ n ≤ 2 ^ 64 := Nat.pow_le_pow_right (by decide) (by omega)
      omega
    have hu64 : (2 ^ u : Nat) < 2 ^ 64 := Nat.pow_lt_pow_right (by decide) (by omega)
    have s3 := fun t x y => shlB (P := Tryd.prog) (t := t) (x := x) (y := y) (k' := .i64) (s := u) (by omega)
    have s4 := fun t a b => orB (P := Tryd.prog) (t := t) (x := a) (y := b) (a := x) (b := 2 ^ u) hx64 hu64
    have jl : (j : Int) < p.length := by omega
    have il : (i : Int) < p.length := by omega
    have vn : (v : Int) < n := by omega
    have ql : (qs.map bitV).length = n := by rw [List.length_map, hqsl]
    simp (config := { maxSteps := 1000000 }) only [go_sem, m2', m11, lP, c7, c7n, s1, s2, hbit, appendA_U]
    refine W.cond (t := true) (by simp (config := { maxSteps := 1000000 }) only [go_sem, appendA_U]) ?_
    refine W.draw 18 [0, 0, 0, 6, 14, 0, 0, 0, 192, 448, 992, 2016, 0, 0, 12288, 28672, 61440, 131040] Tryd.mixed (by kernel_rfl) (by kernel_rfl) ?_
    simp (config := { maxSteps := 1000000 }) only [go_sem, m6, m10, m12, m13, hw, hwn, hy, hyn, lz, hxb, hxb2, jl, il, vn, ql, s3, s4, appendA_U]
    refine ⟨by omega, ?_⟩
    refine vc_sound _ _ _ (by rfl) ?_
    simp (config := { maxSteps := 1000000 }) only [go_sem, m11, w9, appendA_U]
    refine vc_sound _ _ _ (by rfl) ?_
    simp (config := { maxSteps := 1000000 }) only [go_sem, m13, w8, appendA_U]
    rw [setAt_bits (by omega)]
    exact fin E5 _ (qs.set v (x ||| 2 ^ u)) m11 m13 (by rw [upd_next]; exact nz) (fun id h => by rw [upd_get, if_neg h]; exact holdz id h) (by rw [upd_get, if_pos rfl]) (by rw [List.length_set]; exact hqsl) (hupq.set (by omega) hy hw hx)
set_option maxHeartbeats 2000000 in
theorem same05_refl (g : Int) (ns : List NodeP) (hf : NetFit ns) (H : AHeap) (K : ARes → AHeap → Prop) (hK : K (.ret (.lit (.bool true))) H) : ACall Tryd.prog G0 24 [netV g ns, netV g ns] H K := by
  refine ACall.clo ⟨_, Tryd.func24, rfl, rfl⟩ fun hcl => ?_
  have hl := hf.1
  refine ACall.of_bodyW (n := 81) (rs := [.tmp 4]) Tryd.func24 rfl rfl rfl (by decide) (by simp) ?_
  refine W.seq (vc_sound _ _ _ (by rfl) ?_)
  simp (config := { maxSteps := 1000000 }) only [go_sem, netV, nodesV, appendA_U]
  obtain ⟨R, hR⟩ : ∃ R, R = ext H [.arr 0 61 [.lit (.int .i64 g), .vec ns.length (nodesC ns)], .arr 0 61 [.lit (.int .i64 g), .vec ns.length (nodesC ns)]] := ⟨_, rfl⟩
  have oR : Over H R := by rw [hR]; exact .ext _ _
  have nR : R.next = H.next + 2 := by rw [hR]; rfl
  have l0 : R.live H.next 0 = some (61, [.lit (.int .i64 g), .vec ns.length (nodesC ns)]) := by rw [hR]; exact get_live (get_ext0 ..)
  have l1 : R.live (H.next + 1) 0 = some (61, [.lit (.int .i64 g), .vec ns.length (nodesC ns)]) := by rw [hR]; exact get_live (get_ext H _ 1 (by simp))
  rw [← hR]
  clear hR
  refine W.env fun E hE => ?_
  have e2 : E 2 = .ptr H.next 0 0 := by rw [hE]; simp (config := { maxSteps := 1000000 }) only [go_sem, appendA_U]
  have e3 : E 3 = .ptr (H.next + 1) 0 0 := by rw [hE]; simp (config := { maxSteps := 1000000 }) only [go_sem, appendA_U]
  clear hE
  refine W.seq (vc_sound _ _ _ (by rfl) ?_)
  simp (config := { maxSteps := 1000000 }) only [go_sem, e2, e3, l0, l1, appendA_U]
  refine W.seq ?_
  refine W.seq (vc_sound _ _ _ (by rfl) ?_)
  simp (config := { maxSteps := 1000000 }) only [go_sem, appendA_U]
  refine W.block ?_
  refine W.env fun E1 hE1 => ?_
  have f2 : E1 2 = .ptr H.next 0 0 := by rw [hE1]; simp (config := { maxSteps := 1000000 }) only [go_sem, e2, appendA_U]
  have f3 : E1 3 = .ptr (H.next + 1) 0 0 := by rw [hE1]; simp (config := { maxSteps := 1000000 }) only [go_sem, e3, appendA_U]
  have f5 : E1 5 = lin 0 := by rw [hE1]; simp (config := { maxSteps := 1000000 }) only [go_sem, appendA_U]
  clear hE1
  refine W.loop0 2417851639229258341024240 (by rfl) (fun ρ Hx => ∃ k : Nat, ρ 5 = lin k ∧ k ≤ ns.length ∧ Over R Hx) (fun ρ H => ns.length - (iv (ρ 5)).toNat) ?_ ?_
  · simp (config := { maxSteps := 1000000 }) only [go_sem, f5, appendA_U]
    exact ⟨0, rfl, by omega, .refl _⟩
  rintro ρ Hx ⟨k, h5, hk, ov⟩
  refine W.env fun E2 hE2 => ?_
  have a2 : E2 2 = .ptr H.next 0 0 := by rw [hE2]; simp (config := { maxSteps := 1000000 }) only [go_sem, f2, appendA_U]
  have a3 : E2 3 = .ptr (H.next + 1) 0 0 := by rw [hE2]; simp (config := { maxSteps := 1000000 }) only [go_sem, f3, appendA_U]
  have a5 : E2 5 = lin k := by rw [hE2]; simp (config := { maxSteps := 1000000 }) only [go_sem, h5, appendA_U]
  clear hE2
  have x0 := (ov.live (g := 0) (by omega : H.next < R.next)).trans l0
  have x1 := (ov.live (g := 0) (by omega : H.next + 1 < R.next)).trans l1
  by_cases hb : (k : Int) < ns.length
  rotate_left
  · refine vc_sound _ _ _ (by rfl) ?_
    simp (config := { maxSteps := 1000000 }) only [go_sem, a2, a5, x0, hb, appendA_U]
    refine vc_sound _ _ _ (by rfl) ?_
    simp (config := { maxSteps := 1000000 }) only [go_sem, appendA_U]
    exact FinV.dropO G0_ok hcl (oR.trans ov) (.lit _) hK
  obtain ⟨x, hx⟩ := get_of_lt (l := ns) (i := k) (by omega)
  obtain ⟨g1, g2, g3⟩ := hf.2 x (List.mem_of_getElem? hx)
  have p0 := nodesC_part hx
  have pne := nodesC_ne hx
  have p1 : k * 3 + 3 ≤ (nodesC ns).length := by rw [nodesC_len]; omega
  have w1 := IntWalk.i64_in ((k : Int) + 1) (by omega)
  refine W.seq (vc_sound _ _ _ (by rfl) ?_)
  simp (config := { maxSteps := 1000000 }) only [go_sem, a2, a5, x0, hb, appendA_U]
  refine W.seq (W.block (W.seq ?_))
  obtain ⟨zb, hzb⟩ : ∃ zb : Blk, zb = .arr 0 91 [.lit (.int .i64 0), .lit (.slice none 0 0), .lit (.slice none 0 0)] := ⟨_, rfl⟩
  have z0 : (ext (ext Hx [.arr 0 91 [.lit (.int .i64 0), .lit (.slice none 0 0), .lit (.slice none 0 0)]]) [.arr 0 91 [.lit (.int .i64 0), .lit (.slice none 0 0), .lit (.slice none 0 0)]]).live Hx.next 0 = some (91, [.lit (.int .i64 0), .lit (.slice none 0 0), .lit (.slice none 0 0)]) := by rw [ext_ext]; exact get_live (get_ext Hx _ 0 (by simp))
  have z1 : ∀ b, ((ext (ext Hx [.arr 0 91 [.lit (.int .i64 0), .lit (.slice none 0 0), .lit (.slice none 0 0)]]) [.arr 0 91 [.lit (.int .i64 0), .lit (.slice none 0 0), .lit (.slice none 0 0)]]).upd Hx.next b).live (Hx.next + 1) 0 = some (91, [.lit (.int .i64 0), .lit (.slice none 0 0), .lit (.slice none 0 0)]) := fun b => by rw [live_upd_other (by omega), ext_ext]; exact get_live (get_ext Hx _ 1 (by simp))
  have hnx := ov.next
  refine W.draw 13 [0, 1, 0, 7, 15, 0, 32, 0, 224, 480, 0, 0, 3103] Tryd.mixed (by kernel_rfl) (by kernel_rfl) ?_
  simp (config := { maxSteps := 1000000 }) only [go_sem, a2, a3, a5, x0, x1, hb, p0, p1, pne, vecV, z0, z1, appendA_U]
  refine ⟨by repeat' (first | refine And.intro ?_ ?_ | (intro x hx; omega)), by repeat' (first | refine And.intro ?_ ?_ | (intro x hx; omega)), ?_⟩
  refine ⟨by repeat' (first | refine And.intro ?_ ?_ | (intro x hx; omega)), ?_⟩
  obtain ⟨H2, hH2⟩ : ∃ H2, H2 = ((ext (ext Hx [.arr 0 91 [.lit (.int .i64 0), .lit (.slice none 0 0), .lit (.slice none 0 0)]]) [.arr 0 91 [.lit (.int .i64 0), .lit (.slice none 0 0), .lit (.slice none 0 0)]]).upd Hx.next (.arr 0 91 [.lit (.int .i64 x.card), .vec x.parents.length (ints x.parents), .vec x.rows.length (x.rows.map vecI)])).upd (Hx.next + 1) (.arr 0 91 [.lit (.int .i64 x.card), .vec x.parents.length (ints x.parents), .vec x.rows.length (x.rows.map vecI)]) := ⟨_, rfl⟩
  have o2 : Over Hx H2 := ⟨by rw [hH2, upd_next, upd_next, ext_ext, ext_next]; omega, fun i h => by rw [hH2, upd_get, if_neg (by omega), upd_get, if_neg (by omega), ext_ext]; exact get_ext_old _ _ _ h⟩
  have q0 : H2.live Hx.next 0 = some (91, [.lit (.int .i64 x.card), .vec x.parents.length (ints x.parents), .vec x.rows.length (x.rows.map vecI)]) := by rw [hH2, live_upd_other (by omega)]; exact live_upd_same
  have q1 : H2.live (Hx.next + 1) 0 = some (91, [.lit (.int .i64 x.card), .vec x.parents.length (ints x.parents), .vec x.rows.length (x.rows.map vecI)]) := by rw [hH2]; exact live_upd_same
  refine W.env fun E3 hE3 => ?_
  have b2 : E3 2 = .ptr H.next 0 0 := by rw [hE3]; simp (config := { maxSteps := 1000000 }) only [go_sem, a2, appendA_U]
  have b3 : E3 3 = .ptr (H.next + 1) 0 0 := by rw [hE3]; simp (config := { maxSteps := 1000000 }) only [go_sem, a3, appendA_U]
  have b5 : E3 5 = lin k := by rw [hE3]; simp (config := { maxSteps := 1000000 }) only [go_sem, a5, appendA_U]
  have b6 : E3 6 = .ptr Hx.next 0 0 := by rw [hE3]; simp (config := { maxSteps := 1000000 }) only [go_sem, appendA_U]
  have b7 : E3 7 = .ptr (Hx.next + 1) 0 0 := by rw [hE3]; simp (config := { maxSteps := 1000000 }) only [go_sem, appendA_U]
  clear hE3
  rw [← hH2]
  clear hH2
  refine W.seq ?_
  refine W.seq (vc_sound _ _ _ (by rfl) ?_)
  simp (config := { maxSteps := 1000000 }) only [go_sem, b6, b7, q0, q1, guardA_undef, appendA_U]
  refine AApply.clo (same02_spec x.parents x.parents (by omega) _ _ ⟨trivial, ?_⟩)
  simp (config := { maxSteps := 1000000 }) only [go_sem, b6, b7, q0, q1, guardA_undef, appendA_U]
  refine vc_sound _ _ _ (by rfl) ?_
  simp (config := { maxSteps := 1000000 }) only [go_sem, appendA_U]
  refine W.seq (vc_sound _ _ _ (by rfl) ?_)
  simp (config := { maxSteps := 1000000 }) only [go_sem, appendA_U]
  refine W.block ?_
  refine W.env fun E4 hE4 => ?_
  have c2 : E4 2 = .ptr H.next 0 0 := by rw [hE4]; simp (config := { maxSteps := 1000000 }) only [go_sem, b2, appendA_U]
  have c3 : E4 3 = .ptr (H.next + 1) 0 0 := by rw [hE4]; simp (config := { maxSteps := 1000000 }) only [go_sem, b3, appendA_U]
  have c5 : E4 5 = lin k := by rw [hE4]; simp (config := { maxSteps := 1000000 }) only [go_sem, b5, appendA_U]
  have c6 : E4 6 = .ptr Hx.next 0 0 := by rw [hE4]; simp (config := { maxSteps := 1000000 }) only [go_sem, b6, appendA_U]
  have c7 : E4 7 = .ptr (Hx.next + 1) 0 0 := by rw [hE4]; simp (config := { maxSteps := 1000000 }) only [go_sem, b7, appendA_U]
  have c8 : E4 8 = lin 0 := by rw [hE4]; simp (config := { maxSteps := 1000000 }) only [go_sem, appendA_U]
  clear hE4
  refine W.loop0 2417847027543239922024720 (by rfl) (fun ρ2 Hy => Hy = H2 ∧ ∃ j : Nat, ρ2 8 = lin j ∧ j ≤ x.rows.length) (fun ρ2 H => x.rows.length - (iv (ρ2 8)).toNat) ?_ ?_
  · simp (config := { maxSteps := 1000000 }) only [go_sem, c8, appendA_U]
    exact ⟨0, rfl, by omega⟩
  rintro ρ2 Hy ⟨rfl, j, h8, hj⟩
  refine W.env fun E5 hE5 => ?_
  have d5 : E5 5 = lin k := by rw [hE5]; simp (config := { maxSteps := 1000000 }) only [go_sem, c5, appendA_U]
  have d6 : E5 6 = .ptr Hx.next 0 0 := by rw [hE5]; simp (config := { maxSteps := 1000000 }) only [go_sem, c6, appendA_U]
  have d7 : E5 7 = .ptr (Hx.next + 1) 0 0 := by rw [hE5]; simp (config := { maxSteps := 1000000 }) only [go_sem, c7, appendA_U]
  have d8 : E5 8 = lin j := by rw [hE5]; simp (config := { maxSteps := 1000000 }) only [go_sem, h8, appendA_U]
  clear hE5
  by_cases hc : (j : Int) < x.rows.length
  rotate_left
  · refine vc_sound _ _ _ (by rfl) ?_
    simp (config := { maxSteps := 1000000 }) only [go_sem, d6, d8, q0, hc, appendA_U]
    refine vc_sound _ _ _ (by rfl) ?_
    simp (config := { maxSteps := 1000000 }) only [go_sem, d5, w1, appendA_U]
    exact ⟨Nat.le_trans ov.next o2.next, ⟨k + 1, rfl, by omega, ov.trans o2⟩, by rw [h5]; simp only [lin, iv_int]; omega⟩
  obtain ⟨l, hl⟩ := get_of_lt (l := x.rows) (i := j) (by omega)
  have hll := g3 l (List.mem_of_getElem? hl)
  have hlg : (x.rows.map vecI)[j]? = some (vecI l) := by rw [List.getElem?_map, hl]; rfl
  have hln := ne_of_get hl
  have w2 := IntWalk.i64_in ((j : Int) + 1) (by omega)
  refine W.seq (vc_sound _ _ _ (by rfl) ?_)
  simp (config := { maxSteps := 1000000 }) only [go_sem, d6, d8, q0, hc, appendA_U]
  refine W.seq (W.block (W.seq ?_))
  refine W.draw 10 [0, 1, 0, 7, 15, 0, 32, 0, 224, 480] Tryd.mixed (by kernel_rfl) (by kernel_rfl) ?_
  simp (config := { maxSteps := 1000000 }) only [go_sem, d6, d7, d8, q0, q1, hc, hlg, hln, appendA_U]
  refine AApply.clo (same02_spec l l (by omega) _ _ ⟨trivial, ?_⟩)
  simp (config := { maxSteps := 1000000 }) only [go_sem, appendA_U]
  refine vc_sound _ _ _ (by rfl) ?_
  simp (config := { maxSteps := 1000000 }) only [go_sem, appendA_U]
  refine vc_sound _ _ _ (by rfl) ?_
  simp (config := { maxSteps := 1000000 }) only [go_sem, d8, w2, appendA_U]
  exact ⟨⟨j + 1, rfl, by omega⟩, by rw [h8]; simp only [lin, iv_int]; omega⟩
theorem FitK.fit {cs : List Int} {xs : List (List Int)} {ps : List Nat} {grain prior least : Int} {ns : List NodeP} (hd : DataOk cs xs) (hg : GraphOk ps cs.length) (h : FitK cs xs ps grain prior least ps.length ns) : NetFit ns := by
  have c6 := hd.c1
  refine ⟨by rw [h.1, hg.1]; omega, fun x hx => ?_⟩
  obtain ⟨v, hv⟩ := List.mem_iff_getElem?.1 hx
  obtain ⟨s, hs⟩ := get_of_lt (l := ps) (i := v) (by rw [← h.1]; exact get_lt hv)
  obtain ⟨a1, a2, a3, a4⟩ := h.2 v s x hs hv
  have hl := parsL_len ps.length s
  have hpar : ParIn cs (parsL ps.length s) := ⟨fun p hp => by have := parsL_rng p hp; rw [hg.1] at this; omega, by rw [hg.1] at *; omega, hd.card⟩
  have hpr := hpar.prod (atL cs (parsL ps.length s)).length
  rw [List.take_of_length_le (Nat.le_refl _)] at hpr
  refine ⟨by rw [a2, hg.1] at *; omega, by omega, fun r hr => ?_⟩
  obtain ⟨j, hj⟩ := List.mem_iff_getElem?.1 hr
  obtain ⟨M, _, e⟩ := a4 j r hj
  rw [e, shares_len, cntsL_len]
  have hvc : v < cs.length := by rw [← hg.1, ← h.1]; exact get_lt hv
  obtain ⟨c, hc⟩ := get_of_lt hvc
  rw [getD_of_get hc]
  have := hd.card c (List.mem_of_getElem? hc)
  omega
end Go.Proofs
namespace Go.Proofs.YtikgmgmphkalkaaDoor
open Go.ChangeShapes Go.WideShapes Go.ChangeAt Go.RowKit Go.Hx
section
variable {W : World} {H : Type} {enc : TypeId × Value → H} {spare : Nat → Bool} {held : Bool}
theorem nat_u8 {n : Int} (h : (Lit.int .u8 n).wf = true) : ∃ m : Nat, n = m ∧ m < 256 := by
  have := wfU h
  unfold U8 at this
  exact ⟨n.toNat, by omega, by omega⟩
theorem opens_Plan : Opens enc Tryd.prog W spare held 43 fun _ zs => ∃ (n : Nat) (ord : List Int) (e : Nat), zs = planC n ord e ∧ n < 256 ∧ ord.length = 6 ∧ (∀ x ∈ ord, U8 x) ∧ e < 65536 := by
  have hu := Tryd.underlying43
  have c1 := Tryd.cells5
  have c2 : Tryd.prog.cellsOf 40 = 6 := by kernel_rfl
  have c3 := Tryd.cells41
  refine (opens_struct (φ := fun i _ xs => if i = 1 then ∃ l : List Int, xs = bytesL l ∧ l.length = 6 ∧ ∀ x ∈ l, U8 x else if i = 0 then ∃ n, xs = [.lit (.int .u8 n)] ∧ (Lit.int .u8 n).wf = true else ∃ n, xs = [.lit (.int .u16 n)] ∧ (Lit.int .u16 n).wf = true) hu
    (fun cs hcs => by
      have hc : Tryd.prog.cellsOf 43 = 8 := by kernel_rfl
      rw [hc] at hcs
      match cs, hcs with
      | [a, b, c, d, e, f, g, h], _ => simp [c1, c2, c3])
    (fun i hi => match i, hi with
      | 0, _ => (opens_int Tryd.underlying5).mono fun _ _ ⟨n, _, h, w⟩ => ⟨n, h, w⟩
      | 1, _ => (opens_intArr Tryd.underlying40 Tryd.underlying5 c1 c2).mono fun _ _ ⟨l, h1, h2, h3⟩ => ⟨l, h1, h2, fun c hc => wfU (h3 c hc)⟩
      | 2, _ => (opens_int Tryd.underlying41).mono fun _ _ ⟨n, _, h, w⟩ => ⟨n, h, w⟩)).mono fun d zs ⟨ds, rows, _, e, hl1, hl2, hall⟩ => ?_
  match rows, ds, hl2, hl1, hall with
  | [x, y, z], [d0, d1, d2], _, _, hall =>
    obtain ⟨n0, e0, w0⟩ := hall 0 (by simp) (by simp)
    obtain ⟨l, e1, w1, w1'⟩ := hall 1 (by simp) (by simp)
    obtain ⟨n2, e2, w2⟩ := hall 2 (by simp) (by simp)
    simp only [List.getElem_cons_zero, List.getElem_cons_succ] at e0 e1 e2
    subst e0; subst e1; subst e2
    obtain ⟨m, rfl, hm⟩ := nat_u8 w0
    have w3 := wfU16 w2
    obtain ⟨q, rfl⟩ := Int.eq_ofNat_of_zero_le w3.1
    refine ⟨m, l, q, ?_, hm, w1, w1', by omega⟩
    rw [e]
    simp [planC]
theorem arg_plan {r : Reach} {b : Nat} {v : Value} {d : DataW H} {ps : List MemPlace} (hval : Value.okWide Tryd.prog W r b 43 v) (hd : DataW.Trod enc Tryd.prog W 0 spare held 43 v d ps) :
    ∃ (n : Nat) (ord : List Int) (e : Nat), RelV Tryd.prog noG noH W (.agg (planC n ord e)) v ∧ ord.length = 6 ∧ (∀ x ∈ ord, U8 x) ∧ e < 65536 := by
  obtain ⟨xs, h1, n, ord, e, rfl, _, h3, h4, h5⟩ := arg_agg opens_Plan (.inl ⟨_, Tryd.underlying43⟩) hval hd
  exact ⟨n, ord, e, h1, h3, h4, h5⟩
end
end Go.Proofs.YtikgmgmphkalkaaDoor
namespace Go.Proofs
open Go.Hx
theorem cntF_perm {xs ys : List (List Int)} (h : ys.Perm xs) (cs P : List Int) (v : Nat) (k : Int) : cntF cs P v ys k = cntF cs P v xs k := h.countP_eq _
theorem cntsL_perm {xs ys : List (List Int)} (h : ys.Perm xs) (cs P : List Int) (v : Nat) (prior : Int) (j : Nat) : cntsL cs P v ys prior j = cntsL cs P v xs prior j := by
  unfold cntsL
  refine List.map_congr_left fun k _ => ?_
  rw [cntF_perm h]
theorem FitK.perm {cs : List Int} {xs ys : List (List Int)} {ps : List Nat} {grain prior least : Int} {k : Nat} {ns : List NodeP} (h : ys.Perm xs) (hf : FitK cs ys ps grain prior least k ns) : FitK cs xs ps grain prior least k ns :=
  ⟨hf.1, fun v s x hs hx => by
    obtain ⟨a1, a2, a3, a4⟩ := hf.2 v s x hs hx
    exact ⟨a1, a2, a3, fun j r hr => by rw [← cntsL_perm h]; exact a4 j r hr⟩⟩
theorem DataOk.perm {cs : List Int} {xs ys : List (List Int)} (h : ys.Perm xs) (hd : DataOk cs xs) : DataOk cs ys :=
  ⟨hd.c1, by rw [h.length_eq]; exact hd.x1, hd.card, hd.size, fun r hr => hd.row r (h.mem_iff.1 hr)⟩
theorem DataOk.none {cs : List Int} {xs : List (List Int)} (hd : DataOk cs xs) : DataOk cs [] := ⟨hd.c1, by simp, hd.card, hd.size, fun r hr => by cases hr⟩
theorem setN_parsL {n s : Nat} (h : s < 2 ^ n) : setN (parsL n s) = s := by
  refine Nat.eq_of_testBit_eq fun i => ?_
  rw [setN_bit fun p hp => (parsL_rng p hp).1]
  cases hb : s.testBit i with
  | false =>
    refine decide_eq_false fun hm => ?_
    unfold parsL at hm
    obtain ⟨q, hq, e⟩ := List.mem_map.1 hm
    have := (List.mem_filter.1 hq).2
    obtain rfl : q = i := by omega
    rw [hb] at this; cases this
  | true =>
    refine decide_eq_true ?_
    have hi : i < n := by
      rcases Nat.lt_or_ge i n with h1 | h1
      · exact h1
      · have := Nat.testBit_lt_two_pow (Nat.lt_of_lt_of_le h (Nat.pow_le_pow_right (by decide) h1)); rw [this] at hb; cases hb
    exact List.mem_map.2 ⟨i, List.mem_filter.2 ⟨List.mem_range.2 hi, hb⟩, rfl⟩
theorem parsL_pw (n s : Nat) : (parsL n s).Pairwise (· < ·) := by
  unfold parsL
  rw [List.pairwise_map]
  exact ((List.pairwise_lt_range (n := n)).filter _).imp fun h => by omega
section
variable {cs : List Int} {xs : List (List Int)} {ps : List Nat} {g prior least : Int} {ns : List NodeP}
theorem FitK.sets (hg : GraphOk ps cs.length) (h : FitK cs xs ps g prior least ps.length ns) : setsL ns = ps := by
  apply List.ext_getElem?
  intro v
  rcases Nat.lt_or_ge v ps.length with hv | hv
  · obtain ⟨s, hs⟩ := get_of_lt hv
    obtain ⟨x, hx⟩ := get_of_lt (l := ns) (i := v) (by rw [h.1]; exact hv)
    rw [setsL_get hx, (h.2 v s x hs hx).par, setN_parsL (by rw [hg.1]; exact hg.2.1 s (List.mem_of_getElem? hs)), hs]
  · rw [List.getElem?_eq_none (by simp [setsL, h.1]; exact hv), List.getElem?_eq_none hv]
theorem FitK.cards (hg : GraphOk ps cs.length) (h : FitK cs xs ps g prior least ps.length ns) : cardsL ns = cs := by
  apply List.ext_getElem?
  intro v
  rcases Nat.lt_or_ge v ps.length with hv | hv
  · obtain ⟨s, hs⟩ := get_of_lt hv
    obtain ⟨x, hx⟩ := get_of_lt (l := ns) (i := v) (by rw [h.1]; exact hv)
    obtain ⟨c, hc⟩ := get_of_lt (l := cs) (i := v) (by rw [← hg.1]; exact hv)
    unfold cardsL
    rw [List.getElem?_map, hx, hc, Option.map_some, (h.2 v s x hs hx).card, getD_of_get hc]
  · rw [List.getElem?_eq_none (by simp [cardsL, h.1]; exact hv), List.getElem?_eq_none (by rw [← hg.1]; exact hv)]
theorem FitK.rowAt (h : FitK cs xs ps g prior least ps.length ns) {v : Nat} {x : NodeP} {r : List Int} (hx : ns[v]? = some x) (hr : r ∈ x.rows) :
    ∃ s j, ps[v]? = some s ∧ ShareOk least (spareOf g least (cntsL cs (parsL ps.length s) v xs prior j)) (cntsL cs (parsL ps.length s) v xs prior j) r := by
  obtain ⟨s, hs⟩ := get_of_lt (l := ps) (i := v) (by rw [← h.1]; exact get_lt hx)
  obtain ⟨j, hj⟩ := List.mem_iff_getElem?.1 hr
  exact ⟨s, j, hs, (h.2 v s x hs hx).row j r hj⟩
theorem FitK.row (hd : DataOk cs xs) (hg : GraphOk ps cs.length) (hw : WantOk cs g prior least) (h : FitK cs xs ps g prior least ps.length ns) {v : Nat} {x : NodeP} {r : List Int} (hx : ns[v]? = some x) (hr : r ∈ x.rows) :
    RowOk g x.card r ∧ (∀ w ∈ r, least ≤ w) ∧ 2 ≤ x.card ∧ x.card ≤ 4 := by
  obtain ⟨s, j, hs, hS⟩ := h.rowAt hx hr
  obtain ⟨c, hc⟩ := get_of_lt (l := cs) (i := v) (by rw [← hg.1]; exact get_lt hs)
  have c4 := hd.card c (List.mem_of_getElem? hc)
  have hxc : x.card = c := by rw [(h.2 v s x hs hx).card, getD_of_get hc]
  obtain ⟨⟨g1, g60⟩, ⟨p0, p10⟩, ⟨l0, lg⟩, lc⟩ := hw
  obtain ⟨T, hT⟩ : ∃ T, T = cntsL cs (parsL ps.length s) v xs prior j := ⟨_, rfl⟩
  rw [← hT] at hS
  have Tl : (T.length : Int) = c := by rw [hT, cntsL_len, getD_of_get hc]; omega
  have T0 : ∀ q ∈ T, 0 ≤ q := by rw [hT]; exact fun q hq => (cntsL_rng ⟨p0, p10⟩ hd.x1 q hq).1
  have hsp : 0 ≤ spareOf g least T := by
    unfold spareOf
    rw [Tl]
    have := lc c (List.mem_of_getElem? hc)
    omega
  obtain ⟨a1, a2⟩ := share_sum (by omega) hS
  have a3 := share_ge T0 (by omega) hsp hS
  have a4 : ∀ w ∈ r, 0 ≤ w := fun w h => by have := a3 w h; omega
  exact ⟨⟨by rw [a1, Tl, hxc], fun w hw => ⟨a4 w hw, by have := sum_ge_mem a4 w hw; omega⟩, a2⟩, a3, by omega⟩
theorem FitK.net (hd : DataOk cs xs) (hg : GraphOk ps cs.length) (hw : WantOk cs g prior least) (h : FitK cs xs ps g prior least ps.length ns) : NetOk g ns where
  g1 := hw.1
  n1 := by have := hd.c1; rw [h.1, hg.1]; omega
  node x hx := by
    obtain ⟨v, hv⟩ := List.mem_iff_getElem?.1 hx
    obtain ⟨s, hs⟩ := get_of_lt (l := ps) (i := v) (by rw [← h.1]; exact get_lt hv)
    obtain ⟨c, hc⟩ := get_of_lt (l := cs) (i := v) (by rw [← hg.1]; exact get_lt hs)
    have c4 := hd.card c (List.mem_of_getElem? hc)
    obtain ⟨a1, a2, _, _⟩ := h.2 v s x hs hv
    rw [getD_of_get hc] at a1
    refine ⟨by omega, by rw [a2]; exact parsL_pw _ _, fun p hp => ?_⟩
    rw [a2] at hp
    rw [h.1]
    exact parsL_rng p hp
  size := by rw [h.cards hg]; exact hd.size
  acyc := by rw [h.sets hg]; exact hg.2.2
  rows x hx := by
    obtain ⟨v, hv⟩ := List.mem_iff_getElem?.1 hx
    obtain ⟨s, hs⟩ := get_of_lt (l := ps) (i := v) (by rw [← h.1]; exact get_lt hv)
    obtain ⟨_, a2, a3, _⟩ := h.2 v s x hs hv
    refine ⟨?_, fun r hr => (h.row hd hg hw hv hr).1⟩
    unfold parC
    rw [h.cards hg, a2]
    exact a3
end
theorem share_even {least sp p : Int} {n : Nat} {s : List Int} (h : ShareOk least sp (List.replicate n p) s) : ∀ a ∈ s, ∀ b ∈ s, a - b ≤ 1 := by
  obtain ⟨M, _, rfl⟩ := h
  obtain ⟨q, hq⟩ : ∃ q, effC (List.replicate n p) = List.replicate n q := by unfold effC; split; exact ⟨p, rfl⟩; exact ⟨1, by rw [List.length_replicate]⟩
  have hg : ∀ i, i < n → (effC (List.replicate n p)).getD i 0 = q := fun i hi => by rw [hq, List.getD_eq_getElem?_getD, List.getElem?_replicate, if_pos hi]; rfl
  have he : ∀ i, i < n → partAt sp (List.replicate n p) i = partAt sp (List.replicate n p) 0 := fun i hi => by
    unfold partAt
    rw [hg i hi, hg 0 (by omega)]
  intro a ha b hb
  unfold sharesM at ha hb
  obtain ⟨i, hi, rfl⟩ := List.mem_map.1 ha
  obtain ⟨j, hj, rfl⟩ := List.mem_map.1 hb
  have hi := List.mem_range.1 hi
  have hj := List.mem_range.1 hj
  rw [List.length_replicate] at hi hj
  rw [he i hi, he j hj]
  split <;> split <;> omega
theorem cntsL_nil (cs P : List Int) (v : Nat) (prior : Int) (j : Nat) : cntsL cs P v [] prior j = List.replicate (cs.getD v 0).toNat prior := by
  unfold cntsL
  apply List.ext_getElem
  · simp
  · intro i h1 h2; simp [cntF]
theorem swap_perm {α : Type} {l : List α} {i j : Nat} {a b : α} (hi : l[i]? = some a) (hj : l[j]? = some b) : ((l.set i b).set j a).Perm l := by
  have h1 := get_lt hi
  have h2 := get_lt hj
  rw [List.getElem?_eq_getElem h1] at hi
  rw [List.getElem?_eq_getElem h2] at hj
  cases hi; cases hj
  exact List.set_set_perm h1 h2
def minL : List Int → Int
  | [] => 0
  | a :: l => l.foldl min a
theorem foldl_min (l : List Int) : ∀ a, (l.foldl min a = a ∨ l.foldl min a ∈ l) := by
  induction l with
  | nil => exact fun a => .inl rfl
  | cons b l ih =>
    intro a
    simp only [List.foldl_cons]
    rcases ih (min a b) with h3 | h3
    · rw [h3]
      rcases Int.le_total a b with h | h
      · rw [Int.min_eq_left h]; exact .inl rfl
      · rw [Int.min_eq_right h]; exact .inr (by simp)
    · exact .inr (by simp [h3])
theorem minL_mem {l : List Int} (h : l ≠ []) : minL l ∈ l := by
  cases l with
  | nil => exact absurd rfl h
  | cons a l =>
    show l.foldl min a ∈ _
    rcases foldl_min l a with h | h
    · rw [h]; simp
    · exact List.mem_cons_of_mem _ h
theorem minL_snoc {l : List Int} (h : l ≠ []) (b : Int) : minL (l ++ [b]) = min (minL l) b := by
  cases l with
  | nil => exact absurd rfl h
  | cons a l =>
    show (l ++ [b]).foldl min a = _
    rw [List.foldl_append]; rfl
end Go.Proofs
