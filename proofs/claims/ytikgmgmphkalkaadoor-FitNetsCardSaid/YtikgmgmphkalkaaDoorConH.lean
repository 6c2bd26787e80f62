/- Own work: contracts. -/
import Derived.Test.YtikgmgmphkalkaaDoorConG
import Derived.Test.YtikgmgmphkalkaaDoorConC
import Derived.Test.YtikgmgmphkalkaaDoorConD
import Derived.Test.YtikgmgmphkalkaaDoorConE
set_option linter.all false
set_option maxRecDepth 100000
namespace Go.Proofs
open Go.Hx
def planC (n : Int) (ord : List Int) (e : Nat) : List AVal := .lit (.int .u8 n) :: bytesL ord ++ [.lit (.int .u16 (e : Int))]
theorem up_rank {ps : List Nat} {r : Nat → Nat} (h : ∀ v u : Nat, (ps.getD v 0).testBit u = true → r u < r v) : AcycB ps := by
  intro v _
  have step : ∀ (l : List Nat) (s : Nat), (∀ u, s.testBit u = true → r u < r v) → ∀ u, (l.foldl (upStep ps) s).testBit u = true → r u < r v := by
    intro l
    induction l with
    | nil => intro s hs; exact hs
    | cons a l ih =>
      intro s hs
      refine ih _ fun u hu => ?_
      unfold upStep at hu
      split at hu
      · rename_i ha
        rw [Nat.testBit_or, Bool.or_eq_true] at hu
        rcases hu with hu | hu
        · exact hs u hu
        · have := h a u hu; have := hs a ha; omega
      · exact hs u hu
  have all : ∀ k u, (upN ps k (ps.getD v 0)).testBit u = true → r u < r v := by
    intro k
    induction k with
    | zero => exact fun u hu => h v u hu
    | succ k ih => exact step _ _ ih
  rcases Bool.eq_false_or_eq_true ((upL ps (ps.getD v 0)).testBit v) with e | e
  · exact absurd (all _ v e) (Nat.lt_irrefl _)
  · exact e
def UpG (p : List Int) (ps : List Nat) : Prop := ∀ v u : Nat, (ps.getD v 0).testBit u = true → ∃ a b : Nat, a < b ∧ p[a]? = some (u : Int) ∧ p[b]? = some (v : Int)
theorem UpG.ok {n : Nat} {p : List Int} {ps : List Nat} (hp : IsPerm n p) (hl : ps.length = n) (h : UpG p ps) : GraphOk ps n := by
  refine ⟨hl, fun x hx => ?_, up_rank (r := fun v => p.idxOf (v : Int)) fun v u hu => ?_⟩
  · obtain ⟨v, hv⟩ := List.mem_iff_getElem?.1 hx
    refine Nat.lt_pow_two_of_testBit _ fun i hi => ?_
    rcases Bool.eq_false_or_eq_true (x.testBit i) with e | e
    · obtain ⟨a, b, _, ha, _⟩ := h v i (by rw [getD_of_get hv]; exact e)
      have := hp.rng _ (List.mem_of_getElem? ha)
      omega
    · exact e
  · obtain ⟨a, b, hab, ha, hb⟩ := h v u hu
    have e : ∀ (c : Nat) (z : Int), p[c]? = some z → p.idxOf z = c := fun c z hc => by
      have hl := get_lt hc
      rw [List.getElem?_eq_getElem hl] at hc
      cases hc
      exact List.Nodup.idxOf_getElem hp.nd c hl
    show p.idxOf (u : Int) < p.idxOf (v : Int)
    rw [e a _ ha, e b _ hb]
    exact hab
theorem UpG.set {p : List Int} {ps : List Nat} (h : UpG p ps) {a b u v x : Nat} (hab : a < b) (ha : p[a]? = some (u : Int)) (hb : p[b]? = some (v : Int)) (hx : ps[v]? = some x) : UpG p (ps.set v (x ||| 2 ^ u)) := by
  intro w q hq
  by_cases hw : w = v
  · subst hw
    rw [List.getD_eq_getElem?_getD, List.getElem?_set, if_pos rfl, if_pos (get_lt hx)] at hq
    simp only [Option.getD_some] at hq
    rw [Nat.testBit_or, Bool.or_eq_true] at hq
    rcases hq with hq | hq
    · exact h w q (by rw [getD_of_get hx]; exact hq)
    · rw [Nat.testBit_two_pow] at hq
      have : u = q := of_decide_eq_true hq
      subst this
      exact ⟨a, b, hab, ha, hb⟩
  · rw [List.getD_eq_getElem?_getD, List.getElem?_set, if_neg (fun e => hw e.symm), ← List.getD_eq_getElem?_getD] at hq
    exact h w q hq
theorem shrU16 {P : Program} {t : TypeId} {x y : Operand} {a s : Nat} (ha : a < 65536) : binA P .shr t x y (.lit (.int .u16 (a : Int))) (.lit (.int .i64 (s : Int))) = some (.lit (.int .u16 ((a >>> s : Nat) : Int))) := by
  rw [bin_shr (by omega)]
  congr 3
  rw [Int.toNat_natCast, Nat.shiftRight_eq_div_pow]
  rcases Nat.lt_or_ge s 16 with h | h
  · rw [Nat.min_eq_left (by show s ≤ 16; omega), Int.fdiv_eq_ediv_of_nonneg _ (by exact_mod_cast Nat.zero_le _)]
    push_cast
    rfl
  · rw [Nat.min_eq_right (by show 16 ≤ s; exact h), Int.fdiv_eq_ediv_of_nonneg _ (by exact_mod_cast Nat.zero_le _)]
    have h2 : 2 ^ 16 ≤ 2 ^ s := Nat.pow_le_pow_right (by decide) h
    have h1 : a / 2 ^ s = 0 := Nat.div_eq_of_lt (by omega)
    rw [h1]
    show (a : Int) / 2 ^ 16 = 0
    exact Int.ediv_eq_zero_of_lt (by omega) (by omega)
theorem bitU16 {P : Program} {t : TypeId} {x y : Operand} {a s : Nat} (ha : a < 65536) : binA P .and t x y (.lit (.int .u16 ((a >>> s : Nat) : Int))) (.lit (.int .u16 1)) = some (.lit (.int .u16 (if a.testBit s then 1 else 0))) := by
  have hs : a >>> s < 65536 := Nat.lt_of_le_of_lt (Nat.shiftRight_le a s) ha
  rw [bin_and]
  have e1 : (BitVec.ofInt IntKind.u16.bits ((a >>> s : Nat) : Int)).toNat = a >>> s := by
    show (BitVec.ofInt 16 _).toNat = _
    rw [BitVec.ofInt_natCast, BitVec.toNat_ofNat, Nat.mod_eq_of_lt (by exact hs)]
  have e2 : (BitVec.ofInt IntKind.u16.bits (1 : Int)).toNat = 1 := by decide
  rw [BitVec.toNat_and, e1, e2, Nat.and_one_is_mod]
  have : (a >>> s) % 2 = if a.testBit s then 1 else 0 := by
    rw [Nat.testBit_eq_decide_div_mod_eq, Nat.shiftRight_eq_div_pow]
    rcases Nat.mod_two_eq_zero_or_one (a / 2 ^ s) with h | h <;> rw [h] <;> simp
  rw [this]
  split <;> rfl
theorem shift_get {p : List Int} {k : Nat} {x y : Int} (hy : p[k]? = some y) : (p.take (k + 1) ++ x :: p.drop (k + 1))[k]? = some y := by
  have := get_lt hy
  rw [List.getElem?_append_left (by rw [List.length_take]; omega), List.getElem?_take, if_pos (by omega)]
  exact hy
theorem shift_set {p : List Int} {k : Nat} {x y : Int} (hy : p[k]? = some y) : (p.take (k + 1) ++ x :: p.drop (k + 1)).set (k + 1) y = p.take k ++ y :: p.drop k := by
  have hl := get_lt hy
  have e1 : (p.take (k + 1)).length = k + 1 := by rw [List.length_take]; omega
  rw [List.set_append_right _ _ (by omega), e1, Nat.sub_self, List.set_cons_zero, take_succ_get hy]
  have e2 : p.drop k = y :: p.drop (k + 1) := by
    rw [List.drop_eq_getElem_cons hl]
    rw [List.getElem?_eq_getElem hl] at hy
    rw [Option.some.inj hy]
  rw [e2]
  simp
theorem shift_put {p : List Int} {k : Nat} {x y : Int} (hk : k ≤ p.length) : (p.take k ++ x :: p.drop k).set k y = p.take k ++ y :: p.drop k := by
  have e1 : (p.take k).length = k := by rw [List.length_take]; omega
  rw [List.set_append_right _ _ (by omega), e1, Nat.sub_self, List.set_cons_zero]
theorem shift_len {p : List Int} {k : Nat} {x : Int} (hk : k ≤ p.length) : (p.take k ++ x :: p.drop k).length = p.length + 1 := by
  rw [List.length_append, List.length_take, List.length_cons, List.length_drop]; omega

set_option maxHeartbeats 8000000 in
theorem graphP_spec (b n : Nat) (ord : List Int) (ed : Nat) (hb : b < 256) (ho : ord.length = 6) (ho8 : ∀ x ∈ ord, U8 x) (he : ed < 65536) (hn : n = 1 + b % 6) (H : AHeap) (K : ARes → AHeap → Prop)
    (hK : ∀ ps : List Nat, GraphOk ps n → K (.ret (vecB ps)) H) :
    ACall Tryd.prog G0 16 [.agg (planC b ord ed), lin 6] H K := by
  refine ACall.clo ⟨_, Tryd.func16, rfl, rfl⟩ fun hcl => ?_
  have hn6 : 1 ≤ n ∧ n ≤ 6 := by omega
  have w1 : IntKind.i64.wrap (b : Int) = b := IntWalk.i64_in _ (by omega)
  have m1 : (b : Int).tmod 6 = ((b % 6 : Nat) : Int) := by rw [Int.tmod_eq_emod_of_nonneg (by omega)]; push_cast; rfl
  have w2 : IntKind.i64.wrap ((b % 6 : Nat) : Int) = ((b % 6 : Nat) : Int) := IntWalk.i64_in _ (by omega)
  have w3 : IntKind.i64.wrap (1 + ((b % 6 : Nat) : Int)) = (n : Int) := by rw [IntWalk.i64_in _ (by omega)]; omega
  obtain ⟨PC, hPC⟩ : ∃ PC, PC = planC b ord ed := ⟨_, rfl⟩
  have c0 : PC[0]? = some (.lit (.int .u8 b)) := by rw [hPC]; rfl
  have ci : ∀ (i : Nat) (x : Int), ord[i]? = some x → PC[1 + i]? = some (.lit (.int .u8 x)) := fun i x h => by
    rw [hPC, Nat.add_comm]; unfold planC
    rw [List.cons_append, List.getElem?_cons_succ, List.getElem?_append_left (by rw [bytesL_len]; exact get_lt h)]
    exact bytesL_get h
  have c7 : PC[7]? = some (.lit (.int .u16 ed)) := by
    rw [hPC]; unfold planC
    rw [List.cons_append, List.getElem?_cons_succ, List.getElem?_append_right (by rw [bytesL_len]; omega), bytesL_len, ho]; rfl
  have cne := ne_of_get c0
  have cl : PC.length = 8 := by rw [hPC]; unfold planC; simp [bytesL_len, ho]
  rw [← hPC]
  refine ACall.of_bodyW (n := 94) (rs := [.tmp 4]) Tryd.func16 rfl rfl rfl (by decide) (by simp) ?_
  refine W.seq (vc_sound _ _ _ (by rfl) ?_)
  simp (config := { maxSteps := 1000000 }) only [go_sem, appendA_U]
  obtain ⟨H1, hH1⟩ : ∃ H1, H1 = ext H [.arr 0 43 PC] := ⟨_, rfl⟩
  have b0 : H1.get H.next = some (.arr 0 43 PC) := by rw [hH1]; exact get_ext0 ..
  have n1 : H1.next = H.next + 1 := by rw [hH1]; rfl
  have o1 : Over H H1 := by rw [hH1]; exact .ext _ _
  have l1 := get_live b0
  rw [← hH1]
  refine W.seq (vc_sound _ _ _ (by rfl) ?_)
  simp (config := { maxSteps := 1000000 }) only [go_sem, l1, c0, cne, w1, m1, w2, w3, appendA_U]
  refine W.seq (vc_sound _ _ _ (by rfl) ?_)
  simp (config := { maxSteps := 1000000 }) only [go_sem, appendA_U]
  refine W.env fun E hE => ?_
  have e2 : E 2 = .ptr H.next 0 0 := by rw [hE]; simp (config := { maxSteps := 1000000 }) only [go_sem, appendA_U]
  have e5 : E 5 = lin n := by rw [hE]; simp (config := { maxSteps := 1000000 }) only [go_sem, l1, c0, cne, w1, m1, w2, w3, appendA_U]
  have e6 : E 6 = .lit (.slice none 0 0) := by rw [hE]; simp (config := { maxSteps := 1000000 }) only [go_sem, appendA_U]
  clear hE
  refine W.midN (fun s' => s'.ρ 2 = .ptr H.next 0 0 ∧ s'.ρ 5 = lin n ∧ ∃ p, IsPerm n p ∧ Over H1 s'.H ∧ OwnG H1.next s'.H 3 (s'.ρ 6) (ints p)) ?_ ?_
  · refine W.seq (vc_sound _ _ _ (by rfl) ?_)
    simp (config := { maxSteps := 1000000 }) only [go_sem, appendA_U]
    refine W.block ?_
    refine W.loop0 18014398508434368 (by kernel_rfl) (fun ρ Hx => ∃ (i : Nat) (p : List Int), ρ 7 = lin i ∧ i ≤ n ∧ IsPerm i p ∧ Over H1 Hx ∧ OwnG H1.next Hx 3 (ρ 6) (ints p)) (fun ρ Hx => n - (iv (ρ 7)).toNat) ?_ ?_
    · simp (config := { maxSteps := 1000000 }) only [go_sem, e6, appendA_U]
      exact ⟨0, [], rfl, by omega, ⟨rfl, by simp, by simp⟩, .refl _, .nil⟩
    rintro ρ Hx ⟨i, p, h7, hi, hp, ov, ho6⟩
    obtain ⟨v, hv⟩ : ∃ v, v = ρ 6 := ⟨_, rfl⟩
    rw [← hv] at ho6
    refine W.env fun E1 hE1 => ?_
    have f2 : E1 2 = .ptr H.next 0 0 := by rw [hE1]; simp (config := { maxSteps := 1000000 }) only [go_sem, e2, appendA_U]
    have f5 : E1 5 = lin n := by rw [hE1]; simp (config := { maxSteps := 1000000 }) only [go_sem, e5, appendA_U]
    have f6 : E1 6 = v := by rw [hE1]; simp (config := { maxSteps := 1000000 }) only [go_sem, hv, appendA_U]
    have f7 : E1 7 = lin i := by rw [hE1]; simp (config := { maxSteps := 1000000 }) only [go_sem, h7, appendA_U]
    clear hE1
    have vo := ho6.one
    have vcl := ho6.cells
    have ovn := ov.next
    have lx := get_live ((ov.old H.next (by omega)).trans b0)
    by_cases hb : (i : Int) < n
    rotate_left
    · refine vc_sound _ _ _ (by rfl) ?_
      simp (config := { maxSteps := 1000000 }) only [go_sem, f5, f7, hb, appendA_U]
      obtain rfl : i = n := by omega
      exact ⟨f2, p, hp, ov, by rw [f6]; exact ho6⟩
    obtain ⟨x, hx⟩ := get_of_lt (l := ord) (i := i) (by omega)
    have x8 := ho8 x (List.mem_of_getElem? hx)
    have cix := ci i x hx
    have x0 := x8.1
    have x1 := x8.2
    have u1 := IntWalk.i64_in x (by omega)
    have u2 := IntWalk.i64_in ((i : Int) + 1) (by omega)
    have u0 : ¬ (i : Int) + 1 = 0 := by omega
    obtain ⟨a, ha⟩ : ∃ a : Nat, (a : Int) = x % ((i : Int) + 1) := ⟨(x % ((i : Int) + 1)).toNat, by have := Int.emod_nonneg x u0; omega⟩
    have hai : a ≤ i := by have := Int.emod_lt_of_pos x (show 0 < (i : Int) + 1 by omega); omega
    have m2 : x.tmod ((i : Int) + 1) = a := by rw [ha]; exact Int.tmod_eq_emod_of_nonneg x0
    have u3 := IntWalk.i64_in (a : Int) (by omega)
    have i6 : (i : Int) < 6 := by omega
    refine W.seq (vc_sound _ _ _ (by rfl) ?_)
    simp (config := { maxSteps := 1000000 }) only [go_sem, f5, f7, hb, appendA_U]
    refine W.seq (W.block ?_)
    refine W.seq (vc_sound _ _ _ (by rfl) ?_)
    simp (config := { maxSteps := 1000000 }) only [go_sem, f2, f7, lx, cix, i6, u1, u2, u0, m2, u3, appendA_U]
    have hpl := hp.len
    obtain ⟨v', Ha, hA, hOa, hna, hpa⟩ := app_oneG (P := Tryd.prog) (t := 22) (x := lin 0) (n := Hx.next + 1) Tryd.underlying22 Tryd.cells3 Tryd.zero3 rfl (by rw [Tryd.bytes3, ints_length]; omega) ho6 ovn rfl
    simp only [lin] at hA
    have e0 : ints p ++ [lin 0] = ints (p.take i ++ 0 :: p.drop i) := by rw [List.take_of_length_le (by omega), List.drop_of_length_le (by omega)]; unfold ints; rw [List.map_append]; rfl
    rw [e0] at hOa
    obtain ⟨oi, og, o1i, o2i, rfl, gO⟩ : ∃ oi og, H1.next ≤ oi ∧ oi < Ha.next ∧ v' = .own oi og 0 (i + 1) 1 ∧ Ha.get oi = some (.arr og 3 (ints (p.take i ++ 0 :: p.drop i))) := by
      have hl : (ints (p.take i ++ 0 :: p.drop i)).length = i + 1 := by rw [ints_length, shift_len (by omega), hpl]
      rcases hOa with ⟨_, h⟩ | ⟨io, go, a1, a2, b1, d⟩
      · rw [h] at hl; simp at hl
      · exact ⟨io, go, a1, a2, by rw [b1, hl], d⟩
    refine W.seq (vc_sound _ _ _ (by rfl) ?_)
    simp (config := { maxSteps := 1000000 }) only [go_sem, f6, vo, vcl, hA]
    refine W.seq (vc_sound _ _ _ (by rfl) ?_)
    simp (config := { maxSteps := 1000000 }) only [go_sem, f7, appendA_U]
    refine W.env fun E2 hE2 => ?_
    have a2 : E2 2 = .ptr H.next 0 0 := by rw [hE2]; simp (config := { maxSteps := 1000000 }) only [go_sem, f2, appendA_U]
    have a5 : E2 5 = lin n := by rw [hE2]; simp (config := { maxSteps := 1000000 }) only [go_sem, f5, appendA_U]
    have a6 : E2 6 = .own oi og 0 (i + 1) 1 := by rw [hE2]; simp (config := { maxSteps := 1000000 }) only [go_sem, appendA_U]
    have a7 : E2 7 = lin i := by rw [hE2]; simp (config := { maxSteps := 1000000 }) only [go_sem, f7, appendA_U]
    have a8 : E2 8 = lin a := by rw [hE2]; simp (config := { maxSteps := 1000000 }) only [go_sem, appendA_U]
    have a9 : E2 9 = lin i := by rw [hE2]; simp (config := { maxSteps := 1000000 }) only [go_sem, f7, appendA_U]
    clear hE2
    refine W.loop0 1125762467889664 (by kernel_rfl) (fun ρ Hy => ∃ (k : Nat) (z : Int), ρ 9 = lin k ∧ a ≤ k ∧ k ≤ i ∧ Hy.next = Ha.next ∧ (∀ id, id ≠ oi → Hy.get id = Ha.get id) ∧ Hy.get oi = some (.arr og 3 (ints (p.take k ++ z :: p.drop k)))) (fun ρ Hy => (iv (ρ 9)).toNat) ?_ ?_
    · exact ⟨i, 0, a9, hai, by omega, rfl, fun _ _ => rfl, gO⟩
    rintro ρ2 Hy ⟨k, z, h9, hak, hki, ny, holdy, gy⟩
    refine W.env fun E3 hE3 => ?_
    have d2 : E3 2 = .ptr H.next 0 0 := by rw [hE3]; simp (config := { maxSteps := 1000000 }) only [go_sem, a2, appendA_U]
    have d5 : E3 5 = lin n := by rw [hE3]; simp (config := { maxSteps := 1000000 }) only [go_sem, a5, appendA_U]
    have d6 : E3 6 = .own oi og 0 (i + 1) 1 := by rw [hE3]; simp (config := { maxSteps := 1000000 }) only [go_sem, a6, appendA_U]
    have d7 : E3 7 = lin i := by rw [hE3]; simp (config := { maxSteps := 1000000 }) only [go_sem, a7, appendA_U]
    have d8 : E3 8 = lin a := by rw [hE3]; simp (config := { maxSteps := 1000000 }) only [go_sem, a8, appendA_U]
    have d9 : E3 9 = lin k := by rw [hE3]; simp (config := { maxSteps := 1000000 }) only [go_sem, h9, appendA_U]
    clear hE3
    have ly := get_live gy
    have il : ∀ z' k', k' ≤ i → (ints (p.take k' ++ z' :: p.drop k')).length = i + 1 := fun z' k' h => by rw [ints_length, shift_len (by omega), hpl]
    have ily := il z k hki
    by_cases hb2 : (k : Int) > a
    · obtain ⟨k, rfl⟩ : ∃ q, k = q + 1 := ⟨k - 1, by omega⟩
      obtain ⟨y, hy⟩ := get_of_lt (l := p) (i := k) (by omega)
      have hyg := shift_get (x := z) hy
      have hyn := ne_of_get hyg
      have s1 : IntKind.i64.wrap (((k + 1 : Nat) : Int) - 1) = (k : Int) := by rw [IntWalk.i64_in _ (by omega)]; omega
      have k0 : (k : Int) ≥ 0 := by omega
      have k1 : (k : Int) < (i : Int) + 1 := by omega
      have k2 : ((k + 1 : Nat) : Int) < (i : Int) + 1 := by omega
      refine vc_sound _ _ _ (by rfl) ?_
      simp (config := { maxSteps := 1000000 }) only [go_sem, d6, d7, d8, d9, hb2, ly, ily, hyg, hyn, s1, k0, k1, k2, appendA_U]
      refine ⟨by omega, by omega, by omega, by rw [upd_next]; omega, ⟨k, y, rfl, by omega, by omega, by rw [upd_next]; exact ny, fun id h => by rw [upd_get, if_neg h]; exact holdy id h, by rw [upd_get, if_pos rfl, setAt_ints (by rw [shift_len (by omega)]; omega), shift_set hy]⟩, by rw [h9]; simp only [lin, iv_int]; omega⟩
    obtain rfl : k = a := by omega
    refine vc_sound _ _ _ (by rfl) ?_
    simp (config := { maxSteps := 1000000 }) only [go_sem, d8, d9, hb2, appendA_U]
    refine vc_sound _ _ _ (by rfl) ?_
    simp (config := { maxSteps := 1000000 }) only [go_sem, d6, d7, d8, ly, ily, appendA_U]
    refine ⟨by omega, by omega, ?_⟩
    refine vc_sound _ _ _ (by rfl) ?_
    simp (config := { maxSteps := 1000000 }) only [go_sem, d7, u2, appendA_U]
    rw [setAt_ints (by rw [shift_len (by omega)]; omega), shift_put (by omega)]
    refine ⟨by rw [upd_next]; omega, ⟨i + 1, p.take k ++ (i : Int) :: p.drop k, rfl, by omega, isPerm_ins hp k hki, ⟨by rw [upd_next]; omega, fun id h => ?_⟩, .inr ⟨oi, og, o1i, by rw [upd_next]; omega, by rw [ints_length, shift_len (by omega), hpl]; exact d6, by rw [upd_get, if_pos rfl]⟩⟩, by rw [h7]; simp only [lin, iv_int]; omega⟩
    rw [upd_get, if_neg (by omega), holdy id (by omega), hpa id (by omega) (OwnG.neF ho6 h)]
    exact ov.old id h
  rintro ⟨ρ, Hx⟩ ⟨p2, p5, p, hp, ov, ho6⟩
  simp only at p2 p5 ho6 ov
  have hpl := hp.len
  have ovn := ov.next
  refine W.weak (WeakS.cutE G0_ok (s := ⟨ρ, Hx⟩) (n := H1.next) (t0 := 6) (v' := vecI p) (ho6.fzI fun i h => h)) (Nat.le_refl _) trivial ?_
  obtain ⟨H2, hH2⟩ : ∃ H2, H2 = Hx.cut H1.next := ⟨_, rfl⟩
  have n2 : H1.next ≤ H2.next := by rw [hH2]; exact ovn
  have g2 : ∀ id, id < H1.next → H2.get id = H1.get id := fun id h => by rw [hH2, cut_get h]; exact ov.old id h
  show W _ _ _ _ _ _ ⟨fun t => if t = 6 then vecI p else ρ t, Hx.cut H1.next⟩
  rw [← hH2]
  clear hH2
  refine W.env fun E1 hE1 => ?_
  have f2 : E1 2 = .ptr H.next 0 0 := by rw [hE1]; exact p2
  have f5 : E1 5 = lin n := by rw [hE1]; exact p5
  have f6 : E1 6 = vecI p := by rw [hE1]; exact if_pos rfl
  clear hE1
  refine W.seq (vc_sound _ _ _ (by rfl) ?_)
  simp (config := { maxSteps := 1000000 }) only [go_sem, f5, appendA_U]
  refine ⟨⟨by omega, by omega⟩, ?_⟩
  obtain ⟨H3, hH3⟩ : ∃ H3, H3 = ext H2 [.arr 0 100 (List.replicate n (AVal.lit (.int .u64 0)))] := ⟨_, rfl⟩
  have n3 : H3.next = H2.next + 1 := by rw [hH3]; rfl
  have g3 : H3.get H2.next = some (.arr 0 100 ((List.replicate n 0).map bitV)) := by rw [hH3, List.map_replicate]; exact ext1_get_new
  have o3 : Over H2 H3 := by rw [hH3]; exact .ext _ _
  rw [← hH3]
  clear hH3
  refine W.seq (vc_sound _ _ _ (by rfl) ?_)
  simp (config := { maxSteps := 1000000 }) only [go_sem, appendA_U]
  refine W.seq (vc_sound _ _ _ (by rfl) ?_)
  simp (config := { maxSteps := 1000000 }) only [go_sem, appendA_U]
  refine W.env fun E2 hE2 => ?_
  have a2 : E2 2 = .ptr H.next 0 0 := by rw [hE2]; simp (config := { maxSteps := 1000000 }) only [go_sem, f2, appendA_U]
  have a5 : E2 5 = lin n := by rw [hE2]; simp (config := { maxSteps := 1000000 }) only [go_sem, f5, appendA_U]
  have a6 : E2 6 = vecI p := by rw [hE2]; simp (config := { maxSteps := 1000000 }) only [go_sem, f6, appendA_U]
  have a10 : E2 10 = .own H2.next 0 0 n 1 := by rw [hE2]; simp (config := { maxSteps := 1000000 }) only [go_sem, appendA_U]
  have a11 : E2 11 = lin 0 := by rw [hE2]; simp (config := { maxSteps := 1000000 }) only [go_sem, appendA_U]
  have a12 : E2 12 = lin 1 := by rw [hE2]; simp (config := { maxSteps := 1000000 }) only [go_sem, appendA_U]
  clear hE2
  refine W.loop0 9903520314210984605155080192 (by kernel_rfl) (fun ρ Hy => ∃ (j bt : Nat) (ps : List Nat), ρ 12 = lin j ∧ 1 ≤ j ∧ j ≤ n ∧ ρ 11 = lin bt ∧ bt ≤ 6 * j ∧ Hy.next = H3.next ∧ (∀ id, id ≠ H2.next → Hy.get id = H3.get id) ∧ Hy.get H2.next = some (.arr 0 100 (ps.map bitV)) ∧ ps.length = n ∧ UpG p ps) (fun ρ Hy => n - (iv (ρ 12)).toNat) ?_ ?_
  · refine ⟨1, 0, _, a12, by omega, by omega, a11, by omega, rfl, fun _ _ => rfl, g3, by simp, fun v u h => ?_⟩
    rw [List.getD_eq_getElem?_getD, List.getElem?_replicate] at h
    split at h <;> simp at h
  rintro ρ1 Hy ⟨j, bt, ps, h12, hj1, hjn, h11, hbt, ny, holdy, gy, hpsl, hup⟩
  refine W.env fun E3 hE3 => ?_
  have d2 : E3 2 = .ptr H.next 0 0 := by rw [hE3]; simp (config := { maxSteps := 1000000 }) only [go_sem, a2, appendA_U]
  have d5 : E3 5 = lin n := by rw [hE3]; simp (config := { maxSteps := 1000000 }) only [go_sem, a5, appendA_U]
  have d6 : E3 6 = vecI p := by rw [hE3]; simp (config := { maxSteps := 1000000 }) only [go_sem, a6, appendA_U]
  have d10 : E3 10 = .own H2.next 0 0 n 1 := by rw [hE3]; simp (config := { maxSteps := 1000000 }) only [go_sem, a10, appendA_U]
  have d11 : E3 11 = lin bt := by rw [hE3]; simp (config := { maxSteps := 1000000 }) only [go_sem, h11, appendA_U]
  have d12 : E3 12 = lin j := by rw [hE3]; simp (config := { maxSteps := 1000000 }) only [go_sem, h12, appendA_U]
  clear hE3
  by_cases hb : (j : Int) < n
  rotate_left
  · refine vc_sound _ _ _ (by rfl) ?_
    simp (config := { maxSteps := 1000000 }) only [go_sem, d5, d12, hb, appendA_U]
    refine vc_sound _ _ _ (by rfl) ?_
    simp (config := { maxSteps := 1000000 }) only [go_sem, d10, appendA_U]
    refine FinV.dropO G0_ok hcl ⟨by omega, fun id h => ?_⟩ (v' := vecB ps) ?_ (hK ps (hup.ok hp hpsl))
    · rw [holdy id (by omega), o3.old id (by omega), g2 id (by omega)]
      exact o1.old id h
    · have : OwnG H.next Hy 100 (.own H2.next 0 0 n 1) (ps.map bitV) := .inr ⟨H2.next, 0, by omega, by omega, by rw [List.length_map, hpsl], gy⟩
      exact this.fzB fun i h => h
  obtain ⟨w, hw⟩ := get_of_lt (l := p) (i := j) (by omega)
  have hwr := hp.rng w (List.mem_of_getElem? hw)
  obtain ⟨v, rfl⟩ := Int.eq_ofNat_of_zero_le hwr.1
  have hwn := ne_of_get hw
  have w7 := IntWalk.i64_in ((j : Int) + 1) (by omega)
  refine W.seq (vc_sound _ _ _ (by rfl) ?_)
  simp (config := { maxSteps := 1000000 }) only [go_sem, d5, d12, hb, appendA_U]
  refine W.seq (W.block ?_)
  refine W.seq (vc_sound _ _ _ (by rfl) ?_)
  simp (config := { maxSteps := 1000000 }) only [go_sem, appendA_U]
  refine W.env fun E4 hE4 => ?_
  have k2 : E4 2 = .ptr H.next 0 0 := by rw [hE4]; simp (config := { maxSteps := 1000000 }) only [go_sem, d2, appendA_U]
  have k5 : E4 5 = lin n := by rw [hE4]; simp (config := { maxSteps := 1000000 }) only [go_sem, d5, appendA_U]
  have k6 : E4 6 = vecI p := by rw [hE4]; simp (config := { maxSteps := 1000000 }) only [go_sem, d6, appendA_U]
  have k10 : E4 10 = .own H2.next 0 0 n 1 := by rw [hE4]; simp (config := { maxSteps := 1000000 }) only [go_sem, d10, appendA_U]
  have k11 : E4 11 = lin bt := by rw [hE4]; simp (config := { maxSteps := 1000000 }) only [go_sem, d11, appendA_U]
  have k12 : E4 12 = lin j := by rw [hE4]; simp (config := { maxSteps := 1000000 }) only [go_sem, d12, appendA_U]
  have k13 : E4 13 = lin 0 := by rw [hE4]; simp (config := { maxSteps := 1000000 }) only [go_sem, appendA_U]
  clear hE4
  refine W.block ?_
  refine W.loop0 9903520311977199189979310080 (by kernel_rfl) (fun ρ Hz => ∃ (i bu : Nat) (qs : List Nat), ρ 13 = lin i ∧ i ≤ j ∧ ρ 11 = lin bu ∧ bu ≤ 6 * j + i ∧ Hz.next = H3.next ∧ (∀ id, id ≠ H2.next → Hz.get id = H3.get id) ∧ Hz.get H2.next = some (.arr 0 100 (qs.map bitV)) ∧ qs.length = n ∧ UpG p qs) (fun ρ Hz => j - (iv (ρ 13)).toNat) ?_ ?_
  · exact ⟨0, bt, ps, k13, by omega, k11, by omega, ny, holdy, gy, hpsl, hup⟩
  rintro ρ3 Hz ⟨i, bu, qs, h13, hij, h11', hbu, nz, holdz, gz, hqsl, hupq⟩
  refine W.env fun E5 hE5 => ?_
  have m2' : E5 2 = .ptr H.next 0 0 := by rw [hE5]; simp (config := { maxSteps := 1000000 }) only [go_sem, k2, appendA_U]
  have m5 : E5 5 = lin n := by rw [hE5]; simp (config := { maxSteps := 1000000 }) only [go_sem, k5, appendA_U]
  have m6 : E5 6 = vecI p := by rw [hE5]; simp (config := { maxSteps := 1000000 }) only [go_sem, k6, appendA_U]
  have m10 : E5 10 = .own H2.next 0 0 n 1 := by rw [hE5]; simp (config := { maxSteps := 1000000 }) only [go_sem, k10, appendA_U]
  have m11 : E5 11 = lin bu := by rw [hE5]; simp (config := { maxSteps := 1000000 }) only [go_sem, h11', appendA_U]
  have m12 : E5 12 = lin j := by rw [hE5]; simp (config := { maxSteps := 1000000 }) only [go_sem, k12, appendA_U]
  have m13 : E5 13 = lin i := by rw [hE5]; simp (config := { maxSteps := 1000000 }) only [go_sem, h13, appendA_U]
  clear hE5
  by_cases hb2 : (i : Int) < j
  rotate_left
  · refine vc_sound _ _ _ (by rfl) ?_
    simp (config := { maxSteps := 1000000 }) only [go_sem, m12, m13, hb2, appendA_U]
    refine vc_sound _ _ _ (by rfl) ?_
    simp (config := { maxSteps := 1000000 }) only [go_sem, m12, w7, appendA_U]
    exact ⟨by omega, ⟨j + 1, bu, qs, rfl, by omega, by omega, m11, by omega, nz, holdz, gz, hqsl, hupq⟩, by rw [h12]; simp only [lin, iv_int]; omega⟩
  have lz := get_live gz
  have lP := get_live ((holdz H.next (by omega)).trans ((o3.old _ (by omega)).trans ((g2 _ (by omega)).trans b0)))
  have w8 := IntWalk.i64_in ((i : Int) + 1) (by omega)
  have w9 := IntWalk.i64_in ((bu : Int) + 1) (by omega)
  have s1 := fun t x y => shrU16 (P := Tryd.prog) (t := t) (x := x) (y := y) (s := bu) he
  have s2 := fun t x y => bitU16 (P := Tryd.prog) (t := t) (x := x) (y := y) (s := bu) he
  have c7n : PC[1 + 6]? = some (.lit (.int .u16 ed)) := c7
  refine W.seq (vc_sound _ _ _ (by rfl) ?_)
  simp (config := { maxSteps := 1000000 }) only [go_sem, m12, m13, hb2, appendA_U]
  refine W.seq (W.block ?_)
  refine W.seq (W.seq ?_)
  refine vc_sound _ _ _ (by rfl) ?_
  have fin : ∀ (ρ' : Nat → AVal) (Hq : AHeap) (rs : List Nat), ρ' 11 = lin bu → ρ' 13 = lin i → Hq.next = H3.next → (∀ id, id ≠ H2.next → Hq.get id = H3.get id) → Hq.get H2.next = some (.arr 0 100 (rs.map bitV)) → rs.length = n → UpG p rs → Hy.next ≤ Hq.next ∧ (∃ (i' bu' : Nat) (qs' : List Nat), lin ((i : Int) + 1) = lin i' ∧ i' ≤ j ∧ lin ((bu : Int) + 1) = lin bu' ∧ bu' ≤ 6 * j + i' ∧ Hq.next = H3.next ∧ (∀ id, ¬id = H2.next → Hq.get id = H3.get id) ∧ Hq.get H2.next = some (.arr 0 100 (qs'.map bitV)) ∧ qs'.length = n ∧ UpG p qs') ∧ j - ((i : Int) + 1).toNat < j - (iv (ρ3 13)).toNat := fun ρ' Hq rs _ _ h1 h2 h3 h4 h5 =>
    ⟨by omega, ⟨i + 1, bu + 1, rs, rfl, by omega, rfl, by omega, h1, h2, h3, h4, h5⟩, by rw [h13]; simp only [lin, iv_int]; omega⟩
  cases hbit : ed.testBit bu
  · simp (config := { maxSteps := 1000000 }) only [go_sem, m2', m11, lP, c7, c7n, s1, s2, hbit, appendA_U]
    refine W.cond (t := false) (by simp (config := { maxSteps := 1000000 }) only [go_sem, appendA_U]) ?_
    refine vc_sound _ _ _ (by rfl) ?_
    simp (config := { maxSteps := 1000000 }) only [go_sem, appendA_U]
    refine vc_sound _ _ _ (by rfl) ?_
    simp (config := { maxSteps := 1000000 }) only [go_sem, m11, w9, appendA_U]
    refine vc_sound _ _ _ (by rfl) ?_
    simp (config := { maxSteps := 1000000 }) only [go_sem, m13, w8, appendA_U]
    exact fin E5 Hz qs m11 m13 nz holdz gz hqsl hupq
  · obtain ⟨y, hy⟩ := get_of_lt (l := p) (i := i) (by omega)
    have hyr := hp.rng y (List.mem_of_getElem? hy)
    obtain ⟨u, rfl⟩ := Int.eq_ofNat_of_zero_le hyr.1
    have hyn := ne_of_get hy
    obtain ⟨x, hx⟩ := get_of_lt (l := qs) (i := v) (by omega)
    have hxn := ne_of_get hx
    have hxb : (qs.map bitV)[v]? = some (.lit (.int .u64 (x : Int))) := by rw [List.getElem?_map, hx]; rfl
    have hxb2 := ne_of_get hxb
    have hx64 : x < 2 ^ 64 := by
      have := (hupq.ok hp hqsl).2.1 x (List.mem_of_getElem? hx)
      have h2 : 2 ^ n ≤ 2 ^ 64 := Nat.pow_le_pow_right (by decide) (by omega)
      omega
    have hu64 : (2 ^ u : Nat) < 2 ^ 64 := Nat.pow_lt_pow_right (by decide) (by omega)
    have s3 := fun t x y => shlB (P := Tryd.prog) (t := t) (x := x) (y := y) (k' := .i64) (s := u) (by omega)
    have s4 := fun t a b => orB (P := Tryd.prog) (t := t) (x := a) (y := b) (a := x) (b := 2 ^ u) hx64 hu64
    have jl : (j : Int) < p.length := by omega
    have il : (i : Int) < p.length := by omega
    have vn : (v : Int) < n := by omega
    have ql : (qs.map bitV).length = n := by rw [List.length_map, hqsl]
    simp (config := { maxSteps := 1000000 }) only [go_sem, m2', m11, lP, c7, c7n, s1, s2, hbit, appendA_U]
    refine W.cond (t := true) (by simp (config := { maxSteps := 1000000 }) only [go_sem, appendA_U]) ?_
    refine W.draw 18 [0, 0, 0, 6, 14, 0, 0, 0, 192, 448, 992, 2016, 0, 0, 12288, 28672, 61440, 131040] Tryd.mixed (by kernel_rfl) (by kernel_rfl) ?_
    simp (config := { maxSteps := 1000000 }) only [go_sem, m6, m10, m12, m13, hw, hwn, hy, hyn, lz, hxb, hxb2, jl, il, vn, ql, s3, s4, appendA_U]
    refine ⟨by omega, ?_⟩
    refine vc_sound _ _ _ (by rfl) ?_
    simp (config := { maxSteps := 1000000 }) only [go_sem, m11, w9, appendA_U]
    refine vc_sound _ _ _ (by rfl) ?_
    simp (config := { maxSteps := 1000000 }) only [go_sem, m13, w8, appendA_U]
    rw [setAt_bits (by omega)]
    exact fin E5 _ (qs.set v (x ||| 2 ^ u)) m11 m13 (by rw [upd_next]; exact nz) (fun id h => by rw [upd_get, if_neg h]; exact holdz id h) (by rw [upd_get, if_pos rfl]) (by rw [List.length_set]; exact hqsl) (hupq.set (by omega) hy hw hx)
def rowE (s j : Nat) : Nat → List (Nat × Nat)
  | 0 => []
  | i + 1 => if s.testBit i = true then rowE s j i ++ [(i, j)] else rowE s j i
def eds (ps : List Nat) : Nat → List (Nat × Nat)
  | 0 => []
  | j + 1 => eds ps j ++ rowE (ps.getD j 0) j ps.length
def turnF (ps : List Nat) (k : Nat) : List Nat :=
  if eds ps ps.length = [] then ps else
    let e := (eds ps ps.length).getD (k % (eds ps ps.length).length) (0, 0)
    let qs := ps.set e.2 (subN (ps.getD e.2 0) (2 ^ e.1))
    qs.set e.1 (qs.getD e.1 0 ||| 2 ^ e.2)
theorem rowE_rng {s j n : Nat} : ∀ {i : Nat}, i ≤ n → ∀ e ∈ rowE s j i, e.1 < n ∧ e.2 = j
  | 0, _, e, h => by cases h
  | i + 1, hi, e, h => by
    unfold rowE at h
    split at h
    · rcases List.mem_append.1 h with h | h
      · exact rowE_rng (by omega) e h
      · obtain rfl := List.mem_singleton.1 h; exact ⟨hi, rfl⟩
    · exact rowE_rng (by omega) e h
theorem rowE_len {s j : Nat} : ∀ i, (rowE s j i).length ≤ i
  | 0 => Nat.le_refl _
  | i + 1 => by
    unfold rowE
    have := rowE_len (s := s) (j := j) i
    split
    · rw [List.length_append, List.length_singleton]; omega
    · omega
theorem eds_rng {ps : List Nat} : ∀ {j : Nat}, j ≤ ps.length → ∀ e ∈ eds ps j, e.1 < ps.length ∧ e.2 < ps.length
  | 0, _, e, h => by cases h
  | j + 1, hj, e, h => by
    unfold eds at h
    rcases List.mem_append.1 h with h | h
    · exact eds_rng (by omega) e h
    · obtain ⟨a, b⟩ := rowE_rng (Nat.le_refl _) e h
      exact ⟨a, by omega⟩
theorem eds_len {ps : List Nat} : ∀ j, (eds ps j).length ≤ j * ps.length
  | 0 => Nat.zero_le _
  | j + 1 => by
    unfold eds
    have h1 := eds_len (ps := ps) j
    have h2 := rowE_len (s := ps.getD j 0) (j := j) ps.length
    rw [List.length_append, Nat.succ_mul]
    omega
theorem turnF_ok {ps : List Nat} {k : Nat} (hp : ∀ p ∈ ps, p < 2 ^ 64) (hl : ps.length ≤ 64) : (turnF ps k).length = ps.length ∧ ∀ q ∈ turnF ps k, q < 2 ^ 64 := by
  unfold turnF
  split
  · exact ⟨rfl, hp⟩
  · rename_i hne
    have hpos : 0 < (eds ps ps.length).length := by
      cases h : eds ps ps.length with
      | nil => exact absurd h hne
      | cons a l => simp
    obtain ⟨e, he⟩ := get_of_lt (l := eds ps ps.length) (i := k % (eds ps ps.length).length) (Nat.mod_lt _ hpos)
    obtain ⟨r1, r2⟩ := eds_rng (Nat.le_refl _) e (List.mem_of_getElem? he)
    rw [List.getD_eq_getElem?_getD, he]
    simp only [Option.getD_some]
    refine ⟨by simp, fun q hq => ?_⟩
    have h64 : ∀ q ∈ ps.set e.2 (subN (ps.getD e.2 0) (2 ^ e.1)), q < 2 ^ 64 := fun q hq => by
      rcases List.mem_or_eq_of_mem_set hq with h | rfl
      · exact hp q h
      · exact subN_lt _ _
    rcases List.mem_or_eq_of_mem_set hq with h | rfl
    · exact h64 q h
    · refine Nat.or_lt_two_pow ?_ (Nat.pow_lt_pow_right (by decide) (by omega))
      obtain ⟨z, hz⟩ := get_of_lt (l := ps.set e.2 (subN (ps.getD e.2 0) (2 ^ e.1))) (i := e.1) (by simpa using r1)
      rw [getD_of_get hz]
      exact h64 z (List.mem_of_getElem? hz)
def fstI (l : List (Nat × Nat)) : List Int := l.map fun e => (e.1 : Int)
def sndI (l : List (Nat × Nat)) : List Int := l.map fun e => (e.2 : Int)
theorem fstI_len (l : List (Nat × Nat)) : (fstI l).length = l.length := List.length_map ..
theorem sndI_len (l : List (Nat × Nat)) : (sndI l).length = l.length := List.length_map ..

set_option maxHeartbeats 8000000 in
theorem turned_spec (ps : List Nat) (k : Nat) (hl1 : 1 ≤ ps.length) (hl : ps.length ≤ 6) (hp : ∀ p ∈ ps, p < 2 ^ 64) (hk : k < 256) (H : AHeap) (K : ARes → AHeap → Prop)
    (hK : K (.ret (vecB (turnF ps k))) H) :
    ACall Tryd.prog G0 18 [vecB ps, .lit (.int .u8 (k : Int))] H K := by
  refine ACall.clo ⟨_, Tryd.func18, rfl, rfl⟩ fun hcl => ?_
  have hall : (ps.map bitV).all AVal.one = true := List.all_eq_true.2 fun c hc => by obtain ⟨z, _, rfl⟩ := List.mem_map.1 hc; rfl
  have hl0 : ¬ ps.length = 0 := by omega
  refine ACall.of_bodyW (n := 82) (rs := [.tmp 4]) Tryd.func18 rfl rfl rfl (by decide) (by simp) ?_
  refine W.seq (vc_sound _ _ _ (by rfl) ?_)
  simp (config := { maxSteps := 1000000 }) only [go_sem, appendA_U]
  refine W.seq (vc_sound _ _ _ (by rfl) ?_)
  simp (config := { maxSteps := 1000000 }) only [go_sem, hl0, appendA_U]
  refine ⟨by simp, ⟨by simp, by omega, by omega, hall⟩, ?_⟩
  obtain ⟨H1, hH1⟩ : ∃ H1, H1 = ext H [.arr 1 100 (List.replicate 0 (AVal.lit (.int .u64 0)) ++ ps.map bitV)] := ⟨_, rfl⟩
  have g1 : H1.get H.next = some (.arr 1 100 (ps.map bitV)) := by rw [hH1]; exact ext1_get_new
  have n1 : H1.next = H.next + 1 := by rw [hH1]; rfl
  have o1 : Over H H1 := by rw [hH1]; exact .ext _ _
  rw [← hH1]
  clear hH1
  refine W.seq (vc_sound _ _ _ (by rfl) ?_)
  simp (config := { maxSteps := 1000000 }) only [go_sem, appendA_U]
  refine W.seq (vc_sound _ _ _ (by rfl) ?_)
  simp (config := { maxSteps := 1000000 }) only [go_sem, appendA_U]
  refine W.env fun E hE => ?_
  have e0 : E 0 = vecB ps := by rw [hE]; simp (config := { maxSteps := 1000000 }) only [go_sem, appendA_U]
  have e1 : E 1 = .lit (.int .u8 (k : Int)) := by rw [hE]; simp (config := { maxSteps := 1000000 }) only [go_sem, appendA_U]
  have e5 : E 5 = .own H.next 1 0 ps.length 1 := by rw [hE]; simp (config := { maxSteps := 1000000 }) only [go_sem, appendA_U]
  have e6 : E 6 = .lit (.slice none 0 0) := by rw [hE]; simp (config := { maxSteps := 1000000 }) only [go_sem, appendA_U]
  have e7 : E 7 = .lit (.slice none 0 0) := by rw [hE]; simp (config := { maxSteps := 1000000 }) only [go_sem, appendA_U]
  have e8 : E 8 = lin 0 := by rw [hE]; simp (config := { maxSteps := 1000000 }) only [go_sem, appendA_U]
  clear hE
  refine W.loop0 2199023223744 (by kernel_rfl) (fun ρ Hx => ∃ (j : Nat), ρ 8 = lin j ∧ j ≤ ps.length ∧ Over H1 Hx ∧ Own2 H1.next Hx 3 (ρ 6) (ints (fstI (eds ps j))) (ρ 7) (ints (sndI (eds ps j)))) (fun ρ Hx => ps.length - (iv (ρ 8)).toNat) ?_ ?_
  · refine ⟨0, e8, by omega, .refl _, ?_⟩
    show Own2 _ _ _ (E 6) _ (E 7) _
    rw [e6, e7]
    exact .nil
  rintro ρ Hx ⟨j, h8, hj, ov, hO⟩
  obtain ⟨v, hv⟩ : ∃ v, v = ρ 6 := ⟨_, rfl⟩
  obtain ⟨u, hu⟩ : ∃ u, u = ρ 7 := ⟨_, rfl⟩
  rw [← hv, ← hu] at hO
  refine W.env fun E1 hE1 => ?_
  have f0 : E1 0 = vecB ps := by rw [hE1]; simp (config := { maxSteps := 1000000 }) only [go_sem, e0, appendA_U]
  have f1 : E1 1 = .lit (.int .u8 (k : Int)) := by rw [hE1]; simp (config := { maxSteps := 1000000 }) only [go_sem, e1, appendA_U]
  have f5 : E1 5 = .own H.next 1 0 ps.length 1 := by rw [hE1]; simp (config := { maxSteps := 1000000 }) only [go_sem, e5, appendA_U]
  have f6 : E1 6 = v := by rw [hE1]; simp (config := { maxSteps := 1000000 }) only [go_sem, hv, appendA_U]
  have f7 : E1 7 = u := by rw [hE1]; simp (config := { maxSteps := 1000000 }) only [go_sem, hu, appendA_U]
  have f8 : E1 8 = lin j := by rw [hE1]; simp (config := { maxSteps := 1000000 }) only [go_sem, h8, appendA_U]
  clear hE1
  by_cases hb : (j : Int) < ps.length
  · obtain ⟨s, hs⟩ := get_of_lt (l := ps) (i := j) (by omega)
    have hsn := ne_of_get hs
    have hs64 := hp s (List.mem_of_getElem? hs)
    have w1 := IntWalk.i64_in ((j : Int) + 1) (by omega)
    refine W.seq (vc_sound _ _ _ (by rfl) ?_)
    simp (config := { maxSteps := 1000000 }) only [go_sem, f0, f8, hb, appendA_U]
    refine W.seq (W.block ?_)
    refine W.seq (vc_sound _ _ _ (by rfl) ?_)
    simp (config := { maxSteps := 1000000 }) only [go_sem, appendA_U]
    refine W.block ?_
    refine W.env fun E2 hE2 => ?_
    have a0 : E2 0 = vecB ps := by rw [hE2]; simp (config := { maxSteps := 1000000 }) only [go_sem, f0, appendA_U]
    have a6 : E2 6 = v := by rw [hE2]; simp (config := { maxSteps := 1000000 }) only [go_sem, f6, appendA_U]
    have a7 : E2 7 = u := by rw [hE2]; simp (config := { maxSteps := 1000000 }) only [go_sem, f7, appendA_U]
    have a8 : E2 8 = lin j := by rw [hE2]; simp (config := { maxSteps := 1000000 }) only [go_sem, f8, appendA_U]
    have a9 : E2 9 = lin 0 := by rw [hE2]; simp (config := { maxSteps := 1000000 }) only [go_sem, appendA_U]
    clear hE2
    refine W.loop0 2199021159104 (by kernel_rfl) (fun ρ Hy => ∃ (i : Nat), ρ 9 = lin i ∧ i ≤ ps.length ∧ Over H1 Hy ∧ Hx.next ≤ Hy.next ∧ Own2 H1.next Hy 3 (ρ 6) (ints (fstI (eds ps j ++ rowE s j i))) (ρ 7) (ints (sndI (eds ps j ++ rowE s j i)))) (fun ρ Hy => ps.length - (iv (ρ 9)).toNat) ?_ ?_
    · refine ⟨0, a9, by omega, ov, Nat.le_refl _, ?_⟩
      show Own2 _ _ _ (E2 6) _ (E2 7) _
      rw [a6, a7, show rowE s j 0 = [] from rfl, List.append_nil]
      exact hO
    rintro ρ2 Hy ⟨i, h9, hi, ov2, hxy, hO2⟩
    obtain ⟨v2, hv2⟩ : ∃ v, v = ρ2 6 := ⟨_, rfl⟩
    obtain ⟨u2, hu2⟩ : ∃ u, u = ρ2 7 := ⟨_, rfl⟩
    rw [← hv2, ← hu2] at hO2
    refine W.env fun E3 hE3 => ?_
    have b0 : E3 0 = vecB ps := by rw [hE3]; simp (config := { maxSteps := 1000000 }) only [go_sem, a0, appendA_U]
    have b6 : E3 6 = v2 := by rw [hE3]; simp (config := { maxSteps := 1000000 }) only [go_sem, hv2, appendA_U]
    have b7 : E3 7 = u2 := by rw [hE3]; simp (config := { maxSteps := 1000000 }) only [go_sem, hu2, appendA_U]
    have b8 : E3 8 = lin j := by rw [hE3]; simp (config := { maxSteps := 1000000 }) only [go_sem, a8, appendA_U]
    have b9 : E3 9 = lin i := by rw [hE3]; simp (config := { maxSteps := 1000000 }) only [go_sem, h9, appendA_U]
    clear hE3
    have hov := ov2.next
    by_cases hb2 : (i : Int) < ps.length
    rotate_left
    · refine vc_sound _ _ _ (by rfl) ?_
      simp (config := { maxSteps := 1000000 }) only [go_sem, b0, b9, hb2, appendA_U]
      refine vc_sound _ _ _ (by rfl) ?_
      simp (config := { maxSteps := 1000000 }) only [go_sem, b8, w1, appendA_U]
      obtain rfl : i = ps.length := by omega
      exact ⟨by omega, ⟨j + 1, rfl, by omega, ov2, by rw [b6, b7, eds, getD_of_get hs]; exact hO2⟩, by rw [h8]; simp only [lin, iv_int]; omega⟩
    have w2 := IntWalk.i64_in ((i : Int) + 1) (by omega)
    refine W.seq (vc_sound _ _ _ (by rfl) ?_)
    simp (config := { maxSteps := 1000000 }) only [go_sem, b0, b9, hb2, appendA_U]
    refine W.seq (W.block ?_)
    refine W.seq ?_
    refine vc_sound _ _ _ (by rfl) ?_
    simp (config := { maxSteps := 1000000 }) only [go_sem, b0, b8, b9, hb, hs, hsn, appendA_U]
    refine AApply.clo (in25_spec s i hs64 (by omega) Hy _ ⟨trivial, ?_⟩)
    cases hbit : s.testBit i
    · simp (config := { maxSteps := 1000000 }) only [go_sem, appendA_U]
      refine vc_sound _ _ _ (by rfl) ?_
      simp (config := { maxSteps := 1000000 }) only [go_sem, appendA_U]
      refine vc_sound _ _ _ (by rfl) ?_
      simp (config := { maxSteps := 1000000 }) only [go_sem, b9, w2, appendA_U]
      exact ⟨by omega, ⟨i + 1, rfl, by omega, ov2, hxy, by rw [b6, b7, rowE, if_neg (by rw [hbit]; decide)]; exact hO2⟩, by rw [h9]; simp only [lin, iv_int]; omega⟩
    have few : (eds ps j ++ rowE s j i).length ≤ 64 := by
      have h1 := eds_len (ps := ps) j
      have h2 := rowE_len (s := s) (j := j) i
      have h3 : j * ps.length ≤ 6 * 6 := Nat.mul_le_mul (by omega) hl
      rw [List.length_append]; omega
    have lf := fstI_len (eds ps j ++ rowE s j i)
    have lt := sndI_len (eds ps j ++ rowE s j i)
    have vo := hO2.a.one
    have vcl := hO2.a.cells
    have uo := hO2.b.one
    have ucl := hO2.b.cells
    obtain ⟨v', Ha, hA1, hOa, hna, hpa1⟩ := Own2.app (P := Tryd.prog) (t := 22) (x := lin i) (n := Hy.next + 1) Tryd.underlying22 Tryd.cells3 Tryd.zero3 rfl (by rw [Tryd.bytes3, ints_length]; omega) hO2 hov rfl
    simp only [lin] at hA1
    have vo1 := hOa.a.one
    have vc1 := hOa.a.cells
    obtain ⟨u', Hc, hA2, hOc, hnc, hpc⟩ := Own2.app (P := Tryd.prog) (t := 22) (x := lin j) (n := Ha.next + 1) Tryd.underlying22 Tryd.cells3 Tryd.zero3 rfl (by rw [Tryd.bytes3, ints_length]; omega) hOa.symm (by omega) rfl
    simp only [lin] at hA2
    have vo2 := hOc.a.one
    have vc2 := hOc.a.cells
    simp (config := { maxSteps := 1000000 }) only [go_sem, appendA_U]
    refine vc_sound _ _ _ (by rfl) ?_
    simp (config := { maxSteps := 1000000 }) only [go_sem, b6, b7, b8, b9, vo, vcl, uo, ucl, hA1, vo1, vc1, hA2, vo2, vc2]
    refine vc_sound _ _ _ (by rfl) ?_
    simp (config := { maxSteps := 1000000 }) only [go_sem, b9, w2, appendA_U]
    have er : ∀ (l : List Int) (z : Int), ints l ++ [lin z] = ints (l ++ [z]) := fun l z => by unfold ints; rw [List.map_append]; rfl
    rw [er, er] at hOc
    have e1 : fstI (eds ps j ++ rowE s j i) ++ [(i : Int)] = fstI (eds ps j ++ rowE s j (i + 1)) := by rw [rowE, if_pos hbit, ← List.append_assoc]; unfold fstI; rw [List.map_append (l₂ := [(i, j)])]; rfl
    have e2 : sndI (eds ps j ++ rowE s j i) ++ [(j : Int)] = sndI (eds ps j ++ rowE s j (i + 1)) := by rw [rowE, if_pos hbit, ← List.append_assoc]; unfold sndI; rw [List.map_append (l₂ := [(i, j)])]; rfl
    rw [e1, e2] at hOc
    exact ⟨by omega, ⟨i + 1, rfl, by omega, ⟨by omega, fun id hid => (hpc id hid).trans ((hpa1 id hid).trans (ov2.old id hid))⟩, by omega, hOc.symm⟩, by rw [h9]; simp only [lin, iv_int]; omega⟩
  refine vc_sound _ _ _ (by rfl) ?_
  simp (config := { maxSteps := 1000000 }) only [go_sem, f0, f8, hb, appendA_U]
  obtain rfl : j = ps.length := by omega
  have ovn := ov.next
  have gp : Hx.get H.next = some (.arr 1 100 (ps.map bitV)) := (ov.old _ (by omega)).trans g1
  have oH : Over H Hx := o1.trans ov
  obtain ⟨L, hL⟩ : ∃ L, L = eds ps ps.length := ⟨_, rfl⟩
  rw [← hL] at hO
  have hrng := fun e (h : e ∈ L) => eds_rng (ps := ps) (Nat.le_refl _) e (hL ▸ h)
  have few : L.length ≤ 36 := by
    have h1 := eds_len (ps := ps) ps.length
    have h3 : ps.length * ps.length ≤ 6 * 6 := Nat.mul_le_mul hl hl
    rw [hL]; omega
  have done : ∀ (Hq : AHeap), (turnF ps k).length = ps.length → Over H Hq → H.next < Hq.next → Hq.get H.next = some (.arr 1 100 ((turnF ps k).map bitV)) → FinV Tryd.prog G0 H K (.own H.next 1 0 ps.length 1) Hq := fun Hq h1 h3 h4 h5 =>
    FinV.dropO G0_ok hcl h3 (v' := vecB (turnF ps k)) ((show OwnG H.next Hq 100 (.own H.next 1 0 ps.length 1) ((turnF ps k).map bitV) from .inr ⟨H.next, 1, Nat.le_refl _, h4, by rw [List.length_map, h1], h5⟩).fzB fun i h => h) hK
  have dn0 : L.length = 0 → FinV Tryd.prog G0 H K (.own H.next 1 0 ps.length 1) Hx := fun h => by
    have e : turnF ps k = ps := by unfold turnF; rw [if_pos (by rw [← hL]; exact List.length_eq_zero_iff.1 h)]
    exact done Hx (by rw [e]) oH (by omega) (by rw [e]; exact gp)
  have il := ints_length (fstI L)
  have il2 := ints_length (sndI L)
  rw [fstI_len] at il
  rw [sndI_len] at il2
  rcases hO.a with ⟨hv0, hf0⟩ | ⟨io, go, hio, hio2, hv0, gio⟩
  · refine W.seq (vc_sound _ _ _ (by rfl) ?_)
    simp (config := { maxSteps := 1000000 }) only [go_sem, f5, f6, hv0, appendA_U]
    exact dn0 (by rw [← il, hf0]; rfl)
  rw [il] at hv0
  have lio := get_live gio
  by_cases hz : (L.length : Int) = 0
  · refine W.seq (vc_sound _ _ _ (by rfl) ?_)
    simp (config := { maxSteps := 1000000 }) only [go_sem, f5, f6, hv0, lio, il, hz, appendA_U]
    exact dn0 (by omega)
  obtain ⟨ir, gr, hir, hir2, hu0, gir⟩ : ∃ ir gr, H1.next ≤ ir ∧ ir < Hx.next ∧ u = .own ir gr 0 L.length 1 ∧ Hx.get ir = some (.arr gr 3 (ints (sndI L))) := by
    rcases hO.b with ⟨_, h⟩ | ⟨io, go, a1, a2, b1, d⟩
    · rw [h] at il2; simp at il2; omega
    · exact ⟨io, go, a1, a2, by rw [b1, il2], d⟩
  have lir := get_live gir
  have u1 := IntWalk.i64_in (k : Int) (by omega)
  obtain ⟨a, ha⟩ : ∃ a : Nat, a = k % L.length := ⟨_, rfl⟩
  have hal : a < L.length := by rw [ha]; exact Nat.mod_lt _ (by omega)
  have m1 : (k : Int).tmod L.length = a := by rw [ha, Int.tmod_eq_emod_of_nonneg (by omega)]; push_cast; rfl
  have u2 := IntWalk.i64_in (a : Int) (by omega)
  obtain ⟨e, hel⟩ := get_of_lt hal
  obtain ⟨x, y⟩ := e
  have hx : (fstI L)[a]? = some (x : Int) := by unfold fstI; rw [List.getElem?_map, hel]; rfl
  have hy : (sndI L)[a]? = some (y : Int) := by unfold sndI; rw [List.getElem?_map, hel]; rfl
  obtain ⟨hxr, hyr⟩ := hrng (x, y) (List.mem_of_getElem? hel)
  simp only at hxr hyr
  have hxn := ne_of_get hx
  have hyn := ne_of_get hy
  have al1 : (a : Int) < L.length := by omega
  refine W.seq (vc_sound _ _ _ (by rfl) ?_)
  simp (config := { maxSteps := 1000000 }) only [go_sem, f6, hv0, lio, il, hz, appendA_U]
  refine W.seq ?_
  refine W.draw 17 [0, 0, 2, 0, 8, 30, 63, 127, 0, 0, 512, 0, 2048, 7680, 16128, 32512, 255] Tryd.mixed (by kernel_rfl) (by kernel_rfl) ?_
  simp (config := { maxSteps := 1000000 }) only [go_sem, f1, f6, f7, hv0, hu0, lio, lir, il, il2, hz, u1, m1, u2, hx, hxn, hy, hyn, al1, appendA_U]
  refine W.env fun E4 hE4 => ?_
  have d5 : E4 5 = .own H.next 1 0 ps.length 1 := by rw [hE4]; simp (config := { maxSteps := 1000000 }) only [go_sem, f5, appendA_U]
  have d10 : E4 10 = lin x := by rw [hE4]; simp (config := { maxSteps := 1000000 }) only [go_sem, appendA_U]
  have d11 : E4 11 = lin y := by rw [hE4]; simp (config := { maxSteps := 1000000 }) only [go_sem, appendA_U]
  clear hE4
  obtain ⟨p, hpy⟩ := get_of_lt (l := ps) (i := y) (by omega)
  have hpb : (ps.map bitV)[y]? = some (.lit (.int .u64 (p : Int))) := by rw [List.getElem?_map, hpy]; rfl
  have hpn := ne_of_get hpb
  have lp := get_live gp
  have pl : (ps.map bitV).length = ps.length := List.length_map ..
  have yl : (y : Int) < ps.length := by omega
  have xl : (x : Int) < ps.length := by omega
  have s1 := fun t a b => shlB (P := Tryd.prog) (t := t) (x := a) (y := b) (k' := .i64) (s := x) (by omega)
  have s2 := fun t a b => subB (P := Tryd.prog) (t := t) (x := a) (y := b) (a := p) (b := 2 ^ x)
  refine W.seq ?_
  refine W.draw 9 [0, 0, 0, 0, 12, 28, 0, 64, 252] Tryd.mixed (by kernel_rfl) (by kernel_rfl) ?_
  simp (config := { maxSteps := 1000000 }) only [go_sem, d5, d10, d11, lp, hpb, hpn, pl, yl, s1, s2, appendA_U]
  refine ⟨by omega, ?_⟩
  rw [setAt_bits (by omega)]
  obtain ⟨qs, hqs⟩ : ∃ qs, qs = ps.set y (subN p (2 ^ x)) := ⟨_, rfl⟩
  have hql : qs.length = ps.length := by rw [hqs, List.length_set]
  have hq64 : ∀ q ∈ qs, q < 2 ^ 64 := fun q hq => by
    rw [hqs] at hq
    rcases List.mem_or_eq_of_mem_set hq with h | rfl
    · exact hp q h
    · exact subN_lt _ _
  have hturn : turnF ps k = qs.set x (qs.getD x 0 ||| 2 ^ y) := by
    unfold turnF
    rw [← hL, if_neg (fun h => by rw [h] at hz; simp at hz), ← ha, List.getD_eq_getElem?_getD (l := L), hel]
    simp only [Option.getD_some]
    rw [getD_of_get hpy, ← hqs]
  rw [← hqs]
  obtain ⟨H5, hH5⟩ : ∃ H5, H5 = Hx.upd H.next (.arr 1 100 (qs.map bitV)) := ⟨_, rfl⟩
  have n5 : H5.next = Hx.next := by rw [hH5]; rfl
  have g5 : H5.get H.next = some (.arr 1 100 (qs.map bitV)) := by rw [hH5, upd_get, if_pos rfl]
  have o5 : Over H H5 := by rw [hH5]; exact oH.upd (Nat.le_refl _) _
  rw [← hH5]
  clear hH5 hqs
  refine W.env fun E5 hE5 => ?_
  have k5 : E5 5 = .own H.next 1 0 ps.length 1 := by rw [hE5]; simp (config := { maxSteps := 1000000 }) only [go_sem, d5, appendA_U]
  have k10 : E5 10 = lin x := by rw [hE5]; simp (config := { maxSteps := 1000000 }) only [go_sem, d10, appendA_U]
  have k11 : E5 11 = lin y := by rw [hE5]; simp (config := { maxSteps := 1000000 }) only [go_sem, d11, appendA_U]
  clear hE5
  obtain ⟨q, hqx⟩ := get_of_lt (l := qs) (i := x) (by omega)
  have hqb : (qs.map bitV)[x]? = some (.lit (.int .u64 (q : Int))) := by rw [List.getElem?_map, hqx]; rfl
  have hqn := ne_of_get hqb
  have lq := get_live g5
  have ql : (qs.map bitV).length = ps.length := by rw [List.length_map, hql]
  have h2y : (2 ^ y : Nat) < 2 ^ 64 := Nat.pow_lt_pow_right (by decide) (by omega)
  have hqq := hq64 q (List.mem_of_getElem? hqx)
  have s3 := fun t a b => shlB (P := Tryd.prog) (t := t) (x := a) (y := b) (k' := .i64) (s := y) (by omega)
  have s4 := fun t a b => orB (P := Tryd.prog) (t := t) (x := a) (y := b) (a := q) (b := 2 ^ y) hqq h2y
  rw [getD_of_get hqx] at hturn
  refine W.seq ?_
  refine W.draw 9 [0, 0, 0, 0, 12, 28, 0, 64, 252] Tryd.mixed (by kernel_rfl) (by kernel_rfl) ?_
  simp (config := { maxSteps := 1000000 }) only [go_sem, k5, k10, k11, lq, hqb, hqn, ql, xl, s3, s4, appendA_U]
  refine ⟨by omega, ?_⟩
  rw [setAt_bits (by omega)]
  refine vc_sound _ _ _ (by rfl) ?_
  simp (config := { maxSteps := 1000000 }) only [go_sem, k5, appendA_U]
  exact done _ (by rw [hturn, List.length_set, hql]) (o5.upd (Nat.le_refl _) _) (by rw [upd_next]; omega) (by rw [upd_get, if_pos rfl, hturn])
theorem FitK.fit {cs : List Int} {xs : List (List Int)} {ps : List Nat} {grain prior least : Int} {ns : List NodeP} (hd : DataOk cs xs) (hg : GraphOk ps cs.length) (h : FitK cs xs ps grain prior least ps.length ns) : NetFit ns := by
  have c6 := hd.c1
  refine ⟨by rw [h.1, hg.1]; omega, fun x hx => ?_⟩
  obtain ⟨v, hv⟩ := List.mem_iff_getElem?.1 hx
  obtain ⟨s, hs⟩ := get_of_lt (l := ps) (i := v) (by rw [← h.1]; exact get_lt hv)
  obtain ⟨a1, a2, a3, a4⟩ := h.2 v s x hs hv
  have hl := parsL_len ps.length s
  have hpar : ParIn cs (parsL ps.length s) := ⟨fun p hp => by have := parsL_rng p hp; rw [hg.1] at this; omega, by rw [hg.1] at *; omega, hd.card⟩
  have hpr := hpar.prod (atL cs (parsL ps.length s)).length
  rw [List.take_of_length_le (Nat.le_refl _)] at hpr
  refine ⟨by rw [a2, hg.1] at *; omega, by omega, fun r hr => ?_⟩
  obtain ⟨j, hj⟩ := List.mem_iff_getElem?.1 hr
  obtain ⟨M, _, e⟩ := a4 j r hj
  rw [e, shares_len, cntsL_len]
  have hvc : v < cs.length := by rw [← hg.1, ← h.1]; exact get_lt hv
  obtain ⟨c, hc⟩ := get_of_lt hvc
  rw [getD_of_get hc]
  have := hd.card c (List.mem_of_getElem? hc)
  omega

set_option maxHeartbeats 8000000 in
theorem nets_round {cs : List Int} {xs : List (List Int)} (hf : DataFit cs xs) {ps : List Nat} (hpl : (ps.length : Int) < 2 ^ 39) (hp : ∀ p ∈ ps, p < 2 ^ 64) {a b c : Int} {L6 : List AVal} {j Y : Nat} {Hx : AHeap} {E : Nat → AVal} {Q : AX → St → Prop}
    (gY : Hx.get Y = some (.arr 0 50 [vecI cs, vecV xs])) (hY : Y < Hx.next) (l6 : L6.length = 6) (hj : j < 2) (hpart : (L6.drop (j * 3)).take 3 = [lin a, lin b, lin c])
    (e16 : E 16 = .ptr Y 0 0) (e18 : E 18 = vecB ps) (e80 : E 80 = .agg L6) (e81 : E 81 = lin j) (hQ : ∀ (ρ' : Nat → AVal) (H' : AHeap), ρ' 81 = lin j → Over Hx H' → Q .normal ⟨ρ', H'⟩)
    (code : Code) (hcode : blockOf 5 (bodyOf Tryd.f4) = some code) : W Tryd.prog G0 138 none code Q ⟨E, Hx⟩ := by
  simp only [blockOf, bodyOf, Tryd.f4, Option.getD_some, Nat.reduceBEq, Bool.false_eq_true, if_false, if_true, reduceIte] at hcode
  obtain rfl := Option.some.inj hcode
  clear hcode
  have jb : j * 3 + 3 ≤ 6 := by omega
  have lY := get_live gY
  refine W.seq (vc_sound _ _ _ (by rfl) ?_)
  simp (config := { maxSteps := 1000000 }) only [go_sem, e80, e81, hpart, l6, jb, appendA_U]
  refine ⟨by omega, ?_⟩
  obtain ⟨H1, hH1⟩ : ∃ H1, H1 = ext Hx [.arr 0 57 [.lit (.int .i64 a), .lit (.int .i64 b), .lit (.int .i64 c)]] := ⟨_, rfl⟩
  have n1 : H1.next = Hx.next + 1 := by rw [hH1]; rfl
  have o1 : Over Hx H1 := by rw [hH1]; exact .ext _ _
  have gA : H1.get Hx.next = some (.arr 0 57 [.lit (.int .i64 a), .lit (.int .i64 b), .lit (.int .i64 c)]) := by rw [hH1]; exact ext1_get_new
  have lA := get_live gA
  have lY1 := get_live ((o1.old Y hY).trans gY)
  refine W.env fun E1 hE1 => ?_
  have f16 : E1 16 = .ptr Y 0 0 := by rw [hE1]; simp (config := { maxSteps := 1000000 }) only [go_sem, e16, appendA_U]
  have f18 : E1 18 = vecB ps := by rw [hE1]; simp (config := { maxSteps := 1000000 }) only [go_sem, e18, appendA_U]
  have f20 : E1 20 = .ptr Hx.next 0 0 := by rw [hE1]; simp (config := { maxSteps := 1000000 }) only [go_sem, appendA_U]
  have f81 : E1 81 = lin j := by rw [hE1]; simp (config := { maxSteps := 1000000 }) only [go_sem, e81, appendA_U]
  clear hE1
  show W _ _ _ _ _ _ ⟨E1, ext Hx [.arr 0 57 [.lit (.int .i64 a), .lit (.int .i64 b), .lit (.int .i64 c)]]⟩
  rw [← hH1]
  clear hH1
  refine W.seq (vc_sound _ _ _ (by rfl) ?_)
  simp (config := { maxSteps := 1000000 }) only [go_sem, f16, f18, f20, lA, lY1, appendA_U]
  refine AApply.clo (fit_spec cs xs hf ps hpl hp a b c H1 _ fun g ns hok hbad => ⟨trivial, ?_⟩)
  simp (config := { maxSteps := 1000000 }) only [go_sem, netV, nodesV, appendA_U]
  refine W.seq (vc_sound _ _ _ (by rfl) ?_)
  simp (config := { maxSteps := 1000000 }) only [go_sem, appendA_U]
  refine W.seq (vc_sound _ _ _ (by rfl) ?_)
  simp (config := { maxSteps := 1000000 }) only [go_sem, appendA_U]
  obtain ⟨H2, hH2⟩ : ∃ H2, H2 = ext H1 [.arr 0 61 [.lit (.int .i64 g), .vec ns.length (nodesC ns)], .arr 0 61 [.lit (.int .i64 0), .lit (.slice none 0 0)]] := ⟨_, rfl⟩
  have n2 : H2.next = H1.next + 2 := by rw [hH2]; rfl
  have o2 : Over H1 H2 := by rw [hH2]; exact .ext _ _
  have gM : H2.get H1.next = some (.arr 0 61 [.lit (.int .i64 g), .vec ns.length (nodesC ns)]) := by rw [hH2]; exact get_ext0 ..
  have gW : H2.get (H1.next + 1) = some (.arr 0 61 [.lit (.int .i64 0), .lit (.slice none 0 0)]) := by rw [hH2]; exact get_ext H1 _ 1 (by simp)
  refine W.env fun E2 hE2 => ?_
  have a16 : E2 16 = .ptr Y 0 0 := by rw [hE2]; simp (config := { maxSteps := 1000000 }) only [go_sem, f16, appendA_U]
  have a18 : E2 18 = vecB ps := by rw [hE2]; simp (config := { maxSteps := 1000000 }) only [go_sem, f18, appendA_U]
  have a20 : E2 20 = .ptr Hx.next 0 0 := by rw [hE2]; simp (config := { maxSteps := 1000000 }) only [go_sem, f20, appendA_U]
  have a21 : E2 21 = .ptr H1.next 0 0 := by rw [hE2]; simp (config := { maxSteps := 1000000 }) only [go_sem, appendA_U]
  have a22 : E2 22 = lin (fitE cs xs ps a b c) := by rw [hE2]; simp (config := { maxSteps := 1000000 }) only [go_sem, appendA_U]
  have a23 : E2 23 = .ptr (H1.next + 1) 0 0 := by rw [hE2]; simp (config := { maxSteps := 1000000 }) only [go_sem, appendA_U]
  have a24 : E2 24 = lin 2 := by rw [hE2]; simp (config := { maxSteps := 1000000 }) only [go_sem, appendA_U]
  have a81 : E2 81 = lin j := by rw [hE2]; simp (config := { maxSteps := 1000000 }) only [go_sem, f81, appendA_U]
  clear hE2
  show W _ _ _ _ _ _ ⟨E2, ext H1 [.arr 0 61 [.lit (.int .i64 g), .vec ns.length (nodesC ns)], .arr 0 61 [.lit (.int .i64 0), .lit (.slice none 0 0)]]⟩
  rw [← hH2]
  clear hH2
  have lA2 := get_live ((o2.old _ (by omega)).trans gA)
  have lY2 := get_live ((o2.old Y (by omega)).trans ((o1.old Y hY).trans gY))
  have lM := get_live gM
  have lW := get_live gW
  obtain ⟨e, he⟩ : ∃ e, e = fitE cs xs ps a b c := ⟨_, rfl⟩
  rw [← he] at a22 hok hbad
  refine W.midN (fun s' => s'.ρ 21 = .ptr H1.next 0 0 ∧ s'.ρ 22 = lin e ∧ s'.ρ 23 = .ptr (H1.next + 1) 0 0 ∧ s'.ρ 24 = lin e ∧ s'.ρ 81 = lin j ∧ Over Hx s'.H ∧ NetFit ns ∧ s'.H.live H1.next 0 = some (61, [.lit (.int .i64 g), .vec ns.length (nodesC ns)]) ∧ ∃ w, s'.H.live (H1.next + 1) 0 = some (61, [.lit (.int .i64 g), w]) ∧ w.one = true ∧ w.cells = [w] ∧ ∀ (S : Nat → Prop) (Hz : AHeap) (nx : Nat), Fz S Hz nx w (nodesV ns)) ?_ ?_
  · have bad : e ≠ 0 → NetFit ns ∧ H2.live H1.next 0 = some (61, [.lit (.int .i64 g), .vec ns.length (nodesC ns)]) ∧ ∃ w, H2.live (H1.next + 1) 0 = some (61, [.lit (.int .i64 g), w]) ∧ w.one = true ∧ w.cells = [w] ∧ ∀ (S : Nat → Prop) (Hz : AHeap) (nx : Nat), Fz S Hz nx w (nodesV ns) := fun h => by
      obtain ⟨rfl, rfl⟩ := hbad h
      exact ⟨⟨by simp, by simp⟩, lM, .lit (.slice none 0 0), lW, rfl, rfl, fun S Hz nx => .nil⟩
    refine W.block ?_
    refine W.seq (vc_sound _ _ _ (by rfl) ?_)
    simp (config := { maxSteps := 1000000 }) only [go_sem, a16, lY2, appendA_U]
    refine AApply.clo (right25_spec cs xs hf H2 _ ⟨trivial, ?_⟩)
    cases hD : dataB cs xs
    · rw [fitE_data hD] at he
      simp (config := { maxSteps := 1000000 }) only [go_sem, appendA_U]
      refine vc_sound _ _ _ (by rfl) ?_
      simp (config := { maxSteps := 1000000 }) only [go_sem, appendA_U]
      exact ⟨a21, a22, a23, by rw [he], a81, o1.trans o2, bad (by omega)⟩
    have dok := dataB_iff.1 hD
    have c6 := dok.c1
    simp (config := { maxSteps := 1000000 }) only [go_sem, appendA_U]
    refine W.cond (t := false) (by simp (config := { maxSteps := 1000000 }) only [go_sem, appendA_U]) ?_
    refine W.seq (vc_sound _ _ _ (by rfl) ?_)
    simp (config := { maxSteps := 1000000 }) only [go_sem, a16, a18, a20, lY2, appendA_U]
    refine AApply.clo (fits25_spec ps cs.length (by omega) hpl hp H2 _ ⟨trivial, ?_⟩)
    cases hG : graphB ps cs.length
    · rw [fitE_arg hD fun h => by rw [graphB_true h.1] at hG; cases hG] at he
      simp (config := { maxSteps := 1000000 }) only [go_sem, appendA_U]
      refine vc_sound _ _ _ (by rfl) ?_
      simp (config := { maxSteps := 1000000 }) only [go_sem, appendA_U]
      exact ⟨a21, a22, a23, by rw [he]; exact a24, a81, o1.trans o2, bad (by omega)⟩
    have gok := graphB_iff.1 hG
    simp (config := { maxSteps := 1000000 }) only [go_sem, a16, a20, lA2, lY2, appendA_U]
    refine AApply.clo (wanted_spec cs xs dok a b c H2 _ fun bb hbb => ⟨trivial, ?_⟩)
    cases bb
    · rw [fitE_arg hD fun h => by have := hbb.2 h.2; cases this] at he
      simp (config := { maxSteps := 1000000 }) only [go_sem, appendA_U]
      refine vc_sound _ _ _ (by rfl) ?_
      simp (config := { maxSteps := 1000000 }) only [go_sem, appendA_U]
      exact ⟨a21, a22, a23, by rw [he]; exact a24, a81, o1.trans o2, bad (by omega)⟩
    have wok := hbb.1 rfl
    rw [fitE_ok hD ⟨gok, wok⟩] at he
    obtain ⟨rfl, hfk⟩ := hok he
    simp (config := { maxSteps := 1000000 }) only [go_sem, appendA_U]
    refine vc_sound _ _ _ (by rfl) ?_
    simp (config := { maxSteps := 1000000 }) only [go_sem, a16, a18, a20, lA2, lY2, appendA_U]
    refine AApply.clo (fit26_spec cs xs dok ps gok g b c wok H2 _ fun ns' hns => ⟨trivial, ?_⟩)
    obtain rfl := hfk.unique hns
    have hnf := hfk.fit dok gok
    simp (config := { maxSteps := 1000000 }) only [go_sem, a23, lW, netV, nodesV, appendA_U]
    refine ⟨a21, a22, by rw [he], a81, (o1.trans o2).upd (by omega) _, hnf, ?_, .vec ns.length (nodesC ns), rfl, rfl, rfl, fun S Hz nx => .vec rfl fun i hi _ => ?_⟩
    · rw [live_upd_other (by omega)]; exact lM
    · have hm : ∀ q ∈ nodesC ns, Fz S Hz nx q q := fun q hq => fitC_fz (n := ns.length) (ns := ns) q (by rw [fitC_all]; exact hq) _ Hz nx
      exact hm _ (List.getElem_mem hi)
  rintro ⟨ρ3, H3⟩ ⟨p21, p22, p23, p24, p81, o3, nfit, m1, w, m2, wo, wc, hfz⟩
  simp only at p21 p22 p23 p24 p81 o3 m1 m2
  have ww : ∀ (Hz : AHeap) (i : Nat) (h : i < [AVal.agg [.lit (.int .i64 g), .vec ns.length (nodesC ns)], .agg [.lit (.int .i64 g), w]].length) (h' : i < [netV g ns, netV g ns].length), Fz (fun _ => False) Hz Hz.next [AVal.agg [.lit (.int .i64 g), .vec ns.length (nodesC ns)], .agg [.lit (.int .i64 g), w]][i] [netV g ns, netV g ns][i] := fun Hz i h h' => by
    match i, h with
    | 0, _ =>
      refine .agg rfl fun i hi _ => ?_
      match i, hi with
      | 0, _ => exact .lit _
      | 1, _ =>
        refine .vec rfl fun i hi _ => ?_
        have hm : ∀ q ∈ nodesC ns, Fz (fun _ => False) Hz Hz.next q q := fun q hq => fitC_fz (n := ns.length) (ns := ns) q (by rw [fitC_all]; exact hq) _ Hz Hz.next
        exact hm _ (List.getElem_mem hi)
    | 1, _ =>
      refine .agg rfl fun i hi _ => ?_
      match i, hi with
      | 0, _ => exact .lit _
      | 1, _ => exact hfz _ Hz Hz.next
  refine vc_sound _ _ _ (by rfl) ?_
  simp (config := { maxSteps := 1000000 }) only [go_sem, p21, p22, p23, p24, m1, m2, wo, wc, appendA_U]
  refine AApply.clo (ACall.weakArgs (args' := [netV g ns, netV g ns]) G0_ok rfl (ww _) (same05_refl g ns nfit _ _ ⟨trivial, ?_⟩))
  simp (config := { maxSteps := 1000000 }) only [go_sem, appendA_U]
  exact hQ _ _ (by simp (config := { maxSteps := 1000000 }) only [go_sem, p81, appendA_U]) o3
def askC (a b c : Int) (s0 s1 s2 : Nat) : List AVal := [lin a, lin b, lin c, .lit (.int .u8 (s0 : Int)), .lit (.int .u8 (s1 : Int)), .lit (.int .u8 (s2 : Int))]

set_option maxHeartbeats 8000000 in
theorem nets_spec (d : D25) (hd : d.Ok) (bw ba bn : Int) (hbw : U8 bw) (hba : U8 ba) (pn : Nat) (ord : List Int) (ed : Nat) (ho : ord.length = 6) (ho8 : ∀ x ∈ ord, U8 x) (he : ed < 65536) (k : Nat) (hk : k < 256) (raw : List Nat) (hrl : (raw.length : Int) < 2 ^ 63) (hr64 : ∀ x ∈ raw, x < 2 ^ 64)
    (a b c : Int) (s0 s1 s2 : Nat) (h0 : s0 < 256) (h1 : s1 < 256) (h2 : s2 < 256) (H : AHeap) (K : ARes → AHeap → Prop) (hK : ∀ H', H.next ≤ H'.next → K (.ret (.lit (.bool true))) H') :
    ACall Tryd.prog G0 4 [.agg d.cells, .agg (bend25C bw ba bn), .agg (planC pn ord ed), .lit (.int .u8 (k : Int)), vecB raw, .agg (askC a b c s0 s1 s2)] H K := by
  obtain ⟨DC, hDC⟩ : ∃ DC, DC = d.cells := ⟨_, rfl⟩
  have dcl : DC.length = 4 := by rw [hDC]; rfl
  obtain ⟨PC, hPC⟩ : ∃ PC, PC = planC pn ord ed := ⟨_, rfl⟩
  have pcl : PC.length = 8 := by rw [hPC]; unfold planC; simp [bytesL_len, ho]
  obtain ⟨BC, hBC⟩ : ∃ BC, BC = bend25C bw ba bn := ⟨_, rfl⟩
  have bcl : BC.length = 3 := by rw [hBC]; rfl
  rw [← hDC, ← hPC, ← hBC]
  obtain ⟨cs, hcs⟩ : ∃ cs, cs = cardsD d := ⟨_, rfl⟩
  obtain ⟨xs, hxs⟩ : ∃ xs, xs = missD d := ⟨_, rfl⟩
  have cl5 := cardsD_len d
  have mok := missD_ok d
  rw [← hcs] at cl5 mok
  rw [← hxs] at mok
  refine ACall.of_bodyW (n := 138) (rs := [.tmp 12]) Tryd.func4 rfl rfl rfl (by decide) (by simp) ?_
  refine W.seq (vc_sound _ _ _ (by rfl) ?_)
  simp (config := { maxSteps := 1000000 }) only [go_sem, appendA_U]
  obtain ⟨H1, hH1⟩ : ∃ H1, H1 = ext H [.arr 0 37 DC, .arr 0 39 BC, .arr 0 43 PC, .arr 0 47 (askC a b c s0 s1 s2)] := ⟨_, rfl⟩
  have n1 : H1.next = H.next + 4 := by rw [hH1]; rfl
  have o1 : Over H H1 := by rw [hH1]; exact .ext _ _
  have b0 : H1.get H.next = some (.arr 0 37 DC) := by rw [hH1]; exact get_ext0 ..
  have b1 : H1.get (H.next + 1) = some (.arr 0 39 BC) := by rw [hH1]; exact get_ext H _ 1 (by simp)
  have b2 : H1.get (H.next + 2) = some (.arr 0 43 PC) := by rw [hH1]; exact get_ext H _ 2 (by simp)
  have b3 : H1.get (H.next + 3) = some (.arr 0 47 (askC a b c s0 s1 s2)) := by rw [hH1]; exact get_ext H _ 3 (by simp)
  refine W.env fun E hE => ?_
  have e3 : E 3 = .lit (.int .u8 (k : Int)) := by rw [hE]; simp (config := { maxSteps := 1000000 }) only [go_sem, appendA_U]
  have e4 : E 4 = vecB raw := by rw [hE]; simp (config := { maxSteps := 1000000 }) only [go_sem, appendA_U]
  have e6 : E 6 = .ptr H.next 0 0 := by rw [hE]; simp (config := { maxSteps := 1000000 }) only [go_sem, appendA_U]
  have e7 : E 7 = .ptr (H.next + 1) 0 0 := by rw [hE]; simp (config := { maxSteps := 1000000 }) only [go_sem, appendA_U]
  have e8 : E 8 = .ptr (H.next + 2) 0 0 := by rw [hE]; simp (config := { maxSteps := 1000000 }) only [go_sem, appendA_U]
  have e11 : E 11 = .ptr (H.next + 3) 0 0 := by rw [hE]; simp (config := { maxSteps := 1000000 }) only [go_sem, appendA_U]
  clear hE
  show W _ _ _ _ _ _ ⟨E, ext H [.arr 0 37 DC, .arr 0 39 BC, .arr 0 43 PC, .arr 0 47 (askC a b c s0 s1 s2)]⟩
  rw [← hH1]
  clear hH1
  have l0 := get_live b0
  have dt : DC.take 4 = DC := List.take_of_length_le (by omega)
  refine W.seq (vc_sound _ _ _ (by rfl) ?_)
  simp (config := { maxSteps := 1000000 }) only [go_sem, e6, l0, dcl, dt, appendA_U]
  rw [hDC]
  refine AApply.clo (data25_spec d hd H1 _ ⟨trivial, ?_⟩)
  rw [← hDC, ← hcs, ← hxs]
  simp (config := { maxSteps := 1000000 }) only [go_sem, dataV, vecV, appendA_U]
  obtain ⟨H2, hH2⟩ : ∃ H2, H2 = ext H1 [.arr 0 50 [.vec cs.length (ints cs), .vec xs.length (xs.map vecI)]] := ⟨_, rfl⟩
  have n2 : H2.next = H1.next + 1 := by rw [hH2]; rfl
  have o2 : Over H1 H2 := by rw [hH2]; exact .ext _ _
  have gd : H2.get H1.next = some (.arr 0 50 [.vec cs.length (ints cs), .vec xs.length (xs.map vecI)]) := by rw [hH2]; exact ext1_get_new
  have ld := get_live gd
  have l2 := get_live ((o2.old (H.next + 2) (by omega)).trans b2)
  refine W.env fun E1 hE1 => ?_
  have f3 : E1 3 = .lit (.int .u8 (k : Int)) := by rw [hE1]; simp (config := { maxSteps := 1000000 }) only [go_sem, e3, appendA_U]
  have f4 : E1 4 = vecB raw := by rw [hE1]; simp (config := { maxSteps := 1000000 }) only [go_sem, e4, appendA_U]
  have f7 : E1 7 = .ptr (H.next + 1) 0 0 := by rw [hE1]; simp (config := { maxSteps := 1000000 }) only [go_sem, e7, appendA_U]
  have f8 : E1 8 = .ptr (H.next + 2) 0 0 := by rw [hE1]; simp (config := { maxSteps := 1000000 }) only [go_sem, e8, appendA_U]
  have f11 : E1 11 = .ptr (H.next + 3) 0 0 := by rw [hE1]; simp (config := { maxSteps := 1000000 }) only [go_sem, e11, appendA_U]
  have f13 : E1 13 = .ptr H1.next 0 0 := by rw [hE1]; simp (config := { maxSteps := 1000000 }) only [go_sem, appendA_U]
  clear hE1
  show W _ _ _ _ _ _ ⟨E1, ext H1 [.arr 0 50 [.vec cs.length (ints cs), .vec xs.length (xs.map vecI)]]⟩
  rw [← hH2]
  clear hH2
  obtain ⟨m, hm⟩ : ∃ m, cs.length = m + 1 := ⟨cs.length - 1, by omega⟩
  have w1 : IntKind.i64.wrap ((cs.length : Int) - 1) = (m : Int) := by rw [IntWalk.i64_in _ (by omega)]; omega
  have w2 : IntKind.u8.wrap (m : Int) = (m : Int) := IntWalk.u8_in _ (by omega)
  have pst : AVal.lit (.int .u8 (m : Int)) :: PC.drop 1 = planC m ord ed := by rw [hPC]; rfl
  have pcl2 : (planC m ord ed).length = 8 := by unfold planC; simp [bytesL_len, ho]
  have ptk : (planC m ord ed).take 8 = planC m ord ed := List.take_of_length_le (by omega)
  refine W.seq (vc_sound _ _ _ (by rfl) ?_)
  simp (config := { maxSteps := 1000000 }) only [go_sem, f8, f13, ld, l2, w1, w2, pcl, appendA_U]
  rw [pst]
  obtain ⟨H3, hH3⟩ : ∃ H3, H3 = H2.upd (H.next + 2) (.arr 0 43 (planC m ord ed)) := ⟨_, rfl⟩
  have n3 : H3.next = H2.next := by rw [hH3]; rfl
  have g3 : ∀ id, id ≠ H.next + 2 → H3.get id = H2.get id := fun id h => by rw [hH3, upd_get, if_neg h]
  have gp : H3.get (H.next + 2) = some (.arr 0 43 (planC m ord ed)) := by rw [hH3, upd_get, if_pos rfl]
  rw [← hH3]
  clear hH3
  have lp := get_live gp
  have ld3 := get_live ((g3 H1.next (by omega)).trans gd)
  have gb3 : H3.get (H.next + 1) = some (.arr 0 39 BC) := (g3 _ (by omega)).trans ((o2.old _ (by omega)).trans b1)
  have lb3 := get_live gb3
  have ga3 : H3.get (H.next + 3) = some (.arr 0 47 (askC a b c s0 s1 s2)) := (g3 _ (by omega)).trans ((o2.old _ (by omega)).trans b3)
  have btk : BC.take 3 = BC := List.take_of_length_le (by omega)
  refine W.seq (vc_sound _ _ _ (by rfl) ?_)
  simp (config := { maxSteps := 1000000 }) only [go_sem, f8, lp, pcl2, ptk, appendA_U]
  refine AApply.clo (graphP_spec m (m + 1) ord ed (by omega) ho ho8 he (by omega) H3 _ fun ps hg => ⟨trivial, ?_⟩)
  simp (config := { maxSteps := 1000000 }) only [go_sem, appendA_U]
  refine W.env fun E2 hE2 => ?_
  have a3 : E2 3 = .lit (.int .u8 (k : Int)) := by rw [hE2]; simp (config := { maxSteps := 1000000 }) only [go_sem, f3, appendA_U]
  have a4 : E2 4 = vecB raw := by rw [hE2]; simp (config := { maxSteps := 1000000 }) only [go_sem, f4, appendA_U]
  have a7 : E2 7 = .ptr (H.next + 1) 0 0 := by rw [hE2]; simp (config := { maxSteps := 1000000 }) only [go_sem, f7, appendA_U]
  have a11 : E2 11 = .ptr (H.next + 3) 0 0 := by rw [hE2]; simp (config := { maxSteps := 1000000 }) only [go_sem, f11, appendA_U]
  have a13 : E2 13 = .ptr H1.next 0 0 := by rw [hE2]; simp (config := { maxSteps := 1000000 }) only [go_sem, f13, appendA_U]
  have a14 : E2 14 = vecB ps := by rw [hE2]; simp (config := { maxSteps := 1000000 }) only [go_sem, appendA_U]
  clear hE2
  have hcs1 : 1 ≤ cs.length ∧ cs.length ≤ 64 := by omega
  obtain ⟨D, hD⟩ : ∃ D, D = bendD bw ba bn cs xs := ⟨_, rfl⟩
  have dfit := bendD_fit (w := bw) (a := ba) (n := bn) hcs1 (by omega) mok.2
  rw [← hD] at dfit
  refine W.seq (W.seq ?_)
  refine W.draw 6 [0, 0, 0, 6, 15, 0] Tryd.mixed (by kernel_rfl) (by kernel_rfl) ?_
  simp (config := { maxSteps := 1000000 }) only [go_sem, a7, a13, ld3, lb3, bcl, btk, appendA_U]
  rw [hBC]
  refine ⟨dataV D.1 D.2, [], PCall.pure (fun Hz => bend25_spec bw ba bn hbw hba cs xs hcs1 (by omega) mok.2 Hz _ ⟨by rw [hD], rfl⟩), ?_⟩
  simp (config := { maxSteps := 1000000 }) only [go_sem, dataV, vecV, appendA_U]
  obtain ⟨L4, hL4⟩ : ∃ L4, L4 = [AVal.vec cs.length (ints cs), .vec xs.length (xs.map vecI), .vec D.1.length (ints D.1), .vec D.2.length (D.2.map vecI)] := ⟨_, rfl⟩
  have l4 : L4.length = 4 := by rw [hL4]; rfl
  refine W.env fun E3 hE3 => ?_
  have q3 : E3 3 = .lit (.int .u8 (k : Int)) := by rw [hE3]; simp (config := { maxSteps := 1000000 }) only [go_sem, a3, appendA_U]
  have q4 : E3 4 = vecB raw := by rw [hE3]; simp (config := { maxSteps := 1000000 }) only [go_sem, a4, appendA_U]
  have q11 : E3 11 = .ptr (H.next + 3) 0 0 := by rw [hE3]; simp (config := { maxSteps := 1000000 }) only [go_sem, a11, appendA_U]
  have q14 : E3 14 = vecB ps := by rw [hE3]; simp (config := { maxSteps := 1000000 }) only [go_sem, a14, appendA_U]
  have q39 : E3 39 = .agg L4 := by rw [hE3, hL4]; simp (config := { maxSteps := 1000000 }) only [go_sem, vecV, appendA_U]
  have q40 : E3 40 = lin 0 := by rw [hE3]; simp (config := { maxSteps := 1000000 }) only [go_sem, appendA_U]
  clear hE3
  have hps64 : ∀ p ∈ ps, p < 2 ^ 64 := fun p hp => Nat.lt_of_lt_of_le (hg.2.1 p hp) (Nat.pow_le_pow_right (by decide) (by omega))
  have hpsl : ps.length = cs.length := by rw [hg.1, hm]
  have hp6 : ps.length ≤ 6 := by omega
  refine W.block ?_
  refine W.loop0 174224571863520493293247799003965845475328 (by kernel_rfl) (fun ρ Hx => Over H3 Hx ∧ ∃ i : Nat, ρ 40 = lin i ∧ i ≤ 2) (fun ρ H => 2 - (iv (ρ 40)).toNat) ?_ ?_
  · exact ⟨.refl _, 0, q40, by omega⟩
  rintro ρ Hx ⟨ov, i, h40, hi⟩
  have ovn := ov.next
  refine W.env fun E4 hE4 => ?_
  have d3 : E4 3 = .lit (.int .u8 (k : Int)) := by rw [hE4]; simp (config := { maxSteps := 1000000 }) only [go_sem, q3, appendA_U]
  have d4 : E4 4 = vecB raw := by rw [hE4]; simp (config := { maxSteps := 1000000 }) only [go_sem, q4, appendA_U]
  have d11 : E4 11 = .ptr (H.next + 3) 0 0 := by rw [hE4]; simp (config := { maxSteps := 1000000 }) only [go_sem, q11, appendA_U]
  have d14 : E4 14 = vecB ps := by rw [hE4]; simp (config := { maxSteps := 1000000 }) only [go_sem, q14, appendA_U]
  have d39 : E4 39 = .agg L4 := by rw [hE4]; simp (config := { maxSteps := 1000000 }) only [go_sem, q39, appendA_U]
  have d40 : E4 40 = lin i := by rw [hE4]; simp (config := { maxSteps := 1000000 }) only [go_sem, h40, appendA_U]
  clear hE4
  by_cases hb : (i : Int) < 2
  rotate_left
  · refine vc_sound _ _ _ (by rfl) ?_
    simp (config := { maxSteps := 1000000 }) only [go_sem, d40, hb, appendA_U]
    refine vc_sound _ _ _ (by rfl) ?_
    simp (config := { maxSteps := 1000000 }) only [go_sem, appendA_U]
    refine AApply.clo (works_ok _ _ ⟨trivial, ?_⟩)
    simp (config := { maxSteps := 1000000 }) only [go_sem, appendA_U]
    exact FinV.mk (by omega) (hK _ (by omega))
  obtain ⟨yc, yx, hpart, fitD⟩ : ∃ (yc : List Int) (yx : List (List Int)), (L4.drop (i * 2)).take 2 = [.vec yc.length (ints yc), .vec yx.length (yx.map vecI)] ∧ DataFit yc yx := by
    have hi2 : i = 0 ∨ i = 1 := by omega
    rcases hi2 with rfl | rfl
    · exact ⟨cs, xs, by rw [hL4]; rfl, rowsN_fit hcs1.2 (by omega) fun r hr => by rw [mok.2 r hr]; exact hcs1.2⟩
    · exact ⟨D.1, D.2, by rw [hL4]; rfl, dfit⟩
  have ib : i * 2 + 2 ≤ 4 := by omega
  refine W.seq (vc_sound _ _ _ (by rfl) ?_)
  simp (config := { maxSteps := 1000000 }) only [go_sem, d40, hb, appendA_U]
  refine W.seq (vc_sound _ _ _ (by rfl) ?_)
  simp (config := { maxSteps := 1000000 }) only [go_sem, appendA_U]
  refine W.seq (W.block ?_)
  refine W.seq (vc_sound _ _ _ (by rfl) ?_)
  simp (config := { maxSteps := 1000000 }) only [go_sem, d39, d40, hpart, l4, ib, appendA_U]
  refine ⟨by omega, ?_⟩
  obtain ⟨H4, hH4⟩ : ∃ H4, H4 = ext Hx [.arr 0 50 [.vec yc.length (ints yc), .vec yx.length (yx.map vecI)]] := ⟨_, rfl⟩
  have n4 : H4.next = Hx.next + 1 := by rw [hH4]; rfl
  have o4 : Over Hx H4 := by rw [hH4]; exact .ext _ _
  have gY : H4.get Hx.next = some (.arr 0 50 [vecI yc, vecV yx]) := by rw [hH4]; exact ext1_get_new
  have o34 := ov.trans o4
  have ga4 := (o34.old (H.next + 3) (by omega)).trans ga3
  have la4 := get_live ga4
  refine W.env fun E5 hE5 => ?_
  have k3 : E5 3 = .lit (.int .u8 (k : Int)) := by rw [hE5]; simp (config := { maxSteps := 1000000 }) only [go_sem, d3, appendA_U]
  have k4 : E5 4 = vecB raw := by rw [hE5]; simp (config := { maxSteps := 1000000 }) only [go_sem, d4, appendA_U]
  have k11 : E5 11 = .ptr (H.next + 3) 0 0 := by rw [hE5]; simp (config := { maxSteps := 1000000 }) only [go_sem, d11, appendA_U]
  have k14 : E5 14 = vecB ps := by rw [hE5]; simp (config := { maxSteps := 1000000 }) only [go_sem, d14, appendA_U]
  have k16 : E5 16 = .ptr Hx.next 0 0 := by rw [hE5]; simp (config := { maxSteps := 1000000 }) only [go_sem, appendA_U]
  have k40 : E5 40 = lin i := by rw [hE5]; simp (config := { maxSteps := 1000000 }) only [go_sem, d40, appendA_U]
  clear hE5
  show W _ _ _ _ _ _ ⟨E5, ext Hx [.arr 0 50 [.vec yc.length (ints yc), .vec yx.length (yx.map vecI)]]⟩
  rw [← hH4]
  clear hH4
  obtain ⟨tr, htr⟩ : ∃ tr, tr = turnF ps k := ⟨_, rfl⟩
  have tok := turnF_ok (k := k) hps64 (by omega)
  rw [← htr] at tok
  obtain ⟨r, hr⟩ : ∃ r : Nat, r = min raw.length 7 := ⟨_, rfl⟩
  have hmn : (if 7 < (raw.length : Int) then 7 else (raw.length : Int)) = r := by split <;> omega
  have rle : (r : Int) ≤ raw.length := by omega
  refine W.seq ?_
  refine W.draw 11 [0, 0, 0, 6, 0, 0, 32, 96, 240, 511, 0] Tryd.mixed (by kernel_rfl) (by kernel_rfl) ?_
  simp (config := { maxSteps := 1000000 }) only [go_sem, k3, k4, k14, builtin_min, hmn, rle, appendA_U]
  refine ⟨vecB tr, [], PCall.pure (fun Hz => turned_spec ps k (by omega) hp6 hps64 hk Hz _ ⟨by rw [htr], rfl⟩), ?_⟩
  simp (config := { maxSteps := 1000000 }) only [go_sem, k3, k4, k14, builtin_min, hmn, rle, appendA_U]
  refine ⟨List.length_map .., ?_⟩
  obtain ⟨L3, hL3⟩ : ∃ L3, L3 = [vecB ps, vecB tr, .vec r ((raw.map bitV).take r)] := ⟨_, rfl⟩
  have l3 : L3.length = 3 := by rw [hL3]; rfl
  refine W.env fun E6 hE6 => ?_
  have m11 : E6 11 = .ptr (H.next + 3) 0 0 := by rw [hE6]; simp (config := { maxSteps := 1000000 }) only [go_sem, k11, appendA_U]
  have m16 : E6 16 = .ptr Hx.next 0 0 := by rw [hE6]; simp (config := { maxSteps := 1000000 }) only [go_sem, k16, appendA_U]
  have m40 : E6 40 = lin i := by rw [hE6]; simp (config := { maxSteps := 1000000 }) only [go_sem, k40, appendA_U]
  have m52 : E6 52 = .agg L3 := by rw [hE6, hL3]; simp (config := { maxSteps := 1000000 }) only [go_sem, appendA_U]
  have m53 : E6 53 = lin 0 := by rw [hE6]; simp (config := { maxSteps := 1000000 }) only [go_sem, appendA_U]
  clear hE6
  have w5 := IntWalk.i64_in ((i : Int) + 1) (by omega)
  refine W.block ?_
  refine W.loop0 87112285931760246646623890495333440163840 (by kernel_rfl) (fun ρ Hy => Over H4 Hy ∧ ∃ z : Nat, ρ 53 = lin z ∧ z ≤ 3) (fun ρ H => 3 - (iv (ρ 53)).toNat) ?_ ?_
  · exact ⟨.refl _, 0, m53, by omega⟩
  rintro ρ2 Hy ⟨ovy, z, h53, hz⟩
  have ovyn := ovy.next
  refine W.env fun E7 hE7 => ?_
  have r11 : E7 11 = .ptr (H.next + 3) 0 0 := by rw [hE7]; simp (config := { maxSteps := 1000000 }) only [go_sem, m11, appendA_U]
  have r16 : E7 16 = .ptr Hx.next 0 0 := by rw [hE7]; simp (config := { maxSteps := 1000000 }) only [go_sem, m16, appendA_U]
  have r40 : E7 40 = lin i := by rw [hE7]; simp (config := { maxSteps := 1000000 }) only [go_sem, m40, appendA_U]
  have r52 : E7 52 = .agg L3 := by rw [hE7]; simp (config := { maxSteps := 1000000 }) only [go_sem, m52, appendA_U]
  have r53 : E7 53 = lin z := by rw [hE7]; simp (config := { maxSteps := 1000000 }) only [go_sem, h53, appendA_U]
  clear hE7
  by_cases hb2 : (z : Int) < 3
  rotate_left
  · refine vc_sound _ _ _ (by rfl) ?_
    simp (config := { maxSteps := 1000000 }) only [go_sem, r53, hb2, appendA_U]
    refine vc_sound _ _ _ (by rfl) ?_
    simp (config := { maxSteps := 1000000 }) only [go_sem, r40, w5, appendA_U]
    exact ⟨by omega, ⟨o34.trans ovy, i + 1, rfl, by omega⟩, by rw [h40]; simp only [lin, iv_int]; omega⟩
  obtain ⟨qs, hqs, hql, hq64⟩ : ∃ qs : List Nat, L3[z]? = some (vecB qs) ∧ (qs.length : Int) < 2 ^ 39 ∧ ∀ q ∈ qs, q < 2 ^ 64 := by
    have hz3 : z = 0 ∨ z = 1 ∨ z = 2 := by omega
    rcases hz3 with rfl | rfl | rfl
    · exact ⟨ps, by rw [hL3]; rfl, by omega, hps64⟩
    · exact ⟨tr, by rw [hL3]; rfl, by rw [tok.1]; omega, tok.2⟩
    · refine ⟨raw.take r, ?_, by rw [List.length_take]; omega, fun q hq => hr64 q (List.mem_of_mem_take hq)⟩
      rw [hL3]
      show some (AVal.vec r ((raw.map bitV).take r)) = some (vecB (raw.take r))
      unfold vecB
      rw [List.map_take, List.length_take, show min r raw.length = r by omega]
  have w6 := IntWalk.i64_in ((z : Int) + 1) (by omega)
  have lay := get_live ((ovy.old _ (by omega)).trans ga4)
  refine W.seq (vc_sound _ _ _ (by rfl) ?_)
  simp (config := { maxSteps := 1000000 }) only [go_sem, r53, hb2, appendA_U]
  refine W.seq (vc_sound _ _ _ (by rfl) ?_)
  simp (config := { maxSteps := 1000000 }) only [go_sem, appendA_U]
  refine W.seq (W.block ?_)
  refine W.seq (vc_sound _ _ _ (by rfl) ?_)
  simp (config := { maxSteps := 1000000 }) only [go_sem, r52, r53, hqs, l3, appendA_U]
  refine ⟨by omega, ?_⟩
  have x0 : IntKind.i64.wrap (s0 : Int) = s0 := IntWalk.i64_in _ (by omega)
  have x1 : (s0 : Int).tmod 60 = ((s0 % 60 : Nat) : Int) := by rw [Int.tmod_eq_emod_of_nonneg (by omega)]; push_cast; rfl
  have x2 : IntKind.i64.wrap ((s0 % 60 : Nat) : Int) = ((s0 % 60 : Nat) : Int) := IntWalk.i64_in _ (by omega)
  have x3 : IntKind.i64.wrap (1 + ((s0 % 60 : Nat) : Int)) = 1 + ((s0 % 60 : Nat) : Int) := IntWalk.i64_in _ (by omega)
  have y1 : (s1 : Int).tmod 4 = ((s1 % 4 : Nat) : Int) := by rw [Int.tmod_eq_emod_of_nonneg (by omega)]; push_cast; rfl
  have y2 : IntKind.u8.wrap ((s1 % 4 : Nat) : Int) = ((s1 % 4 : Nat) : Int) := IntWalk.u8_in _ (by omega)
  have y3 : IntKind.i64.wrap ((s1 % 4 : Nat) : Int) = ((s1 % 4 : Nat) : Int) := IntWalk.i64_in _ (by omega)
  have z1 : (s2 : Int).tmod 3 = ((s2 % 3 : Nat) : Int) := by rw [Int.tmod_eq_emod_of_nonneg (by omega)]; push_cast; rfl
  have z2 : IntKind.u8.wrap ((s2 % 3 : Nat) : Int) = ((s2 % 3 : Nat) : Int) := IntWalk.u8_in _ (by omega)
  have z3 : IntKind.i64.wrap ((s2 % 3 : Nat) : Int) = ((s2 % 3 : Nat) : Int) := IntWalk.i64_in _ (by omega)
  refine W.seq (vc_sound _ _ _ (by rfl) ?_)
  simp (config := { maxSteps := 1000000 }) only [go_sem, r11, lay, askC, x0, x1, x2, x3, y1, y2, y3, z1, z2, z3, appendA_U]
  obtain ⟨L6, hL6⟩ : ∃ L6, L6 = [lin a, lin b, lin c, lin (1 + ((s0 % 60 : Nat) : Int)), lin ((s1 % 4 : Nat) : Int), lin ((s2 % 3 : Nat) : Int)] := ⟨_, rfl⟩
  have l6 : L6.length = 6 := by rw [hL6]; rfl
  refine W.env fun E8 hE8 => ?_
  have t16 : E8 16 = .ptr Hx.next 0 0 := by rw [hE8]; simp (config := { maxSteps := 1000000 }) only [go_sem, r16, appendA_U]
  have t18 : E8 18 = vecB qs := by rw [hE8]; simp (config := { maxSteps := 1000000 }) only [go_sem, appendA_U]
  have t53 : E8 53 = lin z := by rw [hE8]; simp (config := { maxSteps := 1000000 }) only [go_sem, r53, appendA_U]
  have t80 : E8 80 = .agg L6 := by rw [hE8, hL6]; simp (config := { maxSteps := 1000000 }) only [go_sem, appendA_U]
  have t81 : E8 81 = lin 0 := by rw [hE8]; simp (config := { maxSteps := 1000000 }) only [go_sem, appendA_U]
  clear hE8
  refine W.block ?_
  refine W.loop0 43556142965880120905460310522008014163968 (by kernel_rfl) (fun ρ Hw => Over Hy Hw ∧ ∃ j : Nat, ρ 81 = lin j ∧ j ≤ 2) (fun ρ H => 2 - (iv (ρ 81)).toNat) ?_ ?_
  · exact ⟨.refl _, 0, t81, by omega⟩
  rintro ρ4 Hw ⟨ovw, j, h81, hj⟩
  have ovwn := ovw.next
  refine W.env fun E9 hE9 => ?_
  have u16 : E9 16 = .ptr Hx.next 0 0 := by rw [hE9]; simp (config := { maxSteps := 1000000 }) only [go_sem, t16, appendA_U]
  have u18 : E9 18 = vecB qs := by rw [hE9]; simp (config := { maxSteps := 1000000 }) only [go_sem, t18, appendA_U]
  have u53 : E9 53 = lin z := by rw [hE9]; simp (config := { maxSteps := 1000000 }) only [go_sem, t53, appendA_U]
  have u80 : E9 80 = .agg L6 := by rw [hE9]; simp (config := { maxSteps := 1000000 }) only [go_sem, t80, appendA_U]
  have u81 : E9 81 = lin j := by rw [hE9]; simp (config := { maxSteps := 1000000 }) only [go_sem, h81, appendA_U]
  clear hE9
  by_cases hb3 : (j : Int) < 2
  rotate_left
  · refine vc_sound _ _ _ (by rfl) ?_
    simp (config := { maxSteps := 1000000 }) only [go_sem, u81, hb3, appendA_U]
    refine vc_sound _ _ _ (by rfl) ?_
    simp (config := { maxSteps := 1000000 }) only [go_sem, u53, w6, appendA_U]
    exact ⟨by omega, ⟨ovy.trans ovw, z + 1, rfl, by omega⟩, by rw [h53]; simp only [lin, iv_int]; omega⟩
  obtain ⟨qa, qb, qc, hpart3⟩ : ∃ qa qb qc : Int, (L6.drop (j * 3)).take 3 = [lin qa, lin qb, lin qc] := by
    have hj2 : j = 0 ∨ j = 1 := by omega
    rcases hj2 with rfl | rfl
    · exact ⟨a, b, c, by rw [hL6]; rfl⟩
    · exact ⟨_, _, _, by rw [hL6]; rfl⟩
  have w7 := IntWalk.i64_in ((j : Int) + 1) (by omega)
  have gYw := (ovw.old Hx.next (by omega)).trans ((ovy.old _ (by omega)).trans gY)
  refine W.seq (vc_sound _ _ _ (by rfl) ?_)
  simp (config := { maxSteps := 1000000 }) only [go_sem, u81, hb3, appendA_U]
  refine W.seq (vc_sound _ _ _ (by rfl) ?_)
  simp (config := { maxSteps := 1000000 }) only [go_sem, appendA_U]
  refine W.seq (W.block ?_)
  refine nets_round fitD hql hq64 (Y := Hx.next) (L6 := L6) (j := j) gYw (by omega) l6 (by omega) hpart3 (by simp (config := { maxSteps := 1000000 }) only [go_sem, u16, appendA_U]) (by simp (config := { maxSteps := 1000000 }) only [go_sem, u18, appendA_U]) (by simp (config := { maxSteps := 1000000 }) only [go_sem, u80, appendA_U]) (by simp (config := { maxSteps := 1000000 }) only [go_sem, u81, appendA_U]) (fun ρ' H' h81' o' => ?_) _ (by kernel_rfl)
  refine vc_sound _ _ _ (by rfl) ?_
  simp (config := { maxSteps := 1000000 }) only [go_sem, h81', w7, appendA_U]
  have := o'.next
  exact ⟨by omega, ⟨ovw.trans o', j + 1, rfl, by omega⟩, by rw [h81]; simp only [lin, iv_int]; omega⟩
end Go.Proofs
