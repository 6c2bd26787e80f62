/- Own work: contracts. -/
import Derived.Test.YtikgmgmphkalkaaDoorConC
import Derived.Test.YtikgmgmphkalkaaDoorConD
import Derived.Test.YtikgmgmphkalkaaDoorConB
import Derived.Test.YtikgmgmphkalkaaDoorLibD
set_option linter.all false
set_option maxRecDepth 100000
namespace Go.Hx
variable {P : Program} {G : Nat → Option (List AVal)}
def AHeap.meltN (H : AHeap) (n ob : Nat) (b : Blk) : AHeap := ⟨fun id => if n ≤ id then none else if id = ob then some b else H.get id, H.next⟩
theorem meltN_ob {H : AHeap} {n ob : Nat} {b : Blk} (h : ob < n) : (H.meltN n ob b).get ob = some b := by simp [AHeap.meltN, Nat.not_le.2 h]
theorem meltN_other {H : AHeap} {n ob id : Nat} {b : Blk} (h : id < n) (h2 : id ≠ ob) : (H.meltN n ob b).get id = H.get id := by simp [AHeap.meltN, Nat.not_le.2 h, h2]
theorem fzH_meltN {H : AHeap} (hc : Clo H) {n ob g : Nat} {e : TypeId} {cells cells' : List AVal} (hob : H.get ob = some (.arr g e cells)) (hlt : ob < n) (hl : cells'.length = cells.length)
    (hcell : ∀ i (h : i < cells.length) (h' : i < cells'.length), Fz (fun id => n ≤ id) H H.next cells[i] cells'[i]) : FzH (fun id => n ≤ id) H (H.meltN n ob (.arr g e cells')) where
  gone id hs := by simp [AHeap.meltN, hs]
  kept id b hs hb := by
    have hbb := hc.below id b hb
    refine ⟨hc.lt id b hb, ?_⟩
    by_cases h : id = ob
    · subst h
      rw [hob] at hb
      cases hb
      exact ⟨.arr g e cells', by simp [AHeap.meltN, hs], rfl, rfl, hl, hcell⟩
    · refine ⟨b, by simp [AHeap.meltN, hs, h, hb], ?_⟩
      cases b with
      | rsv => trivial
      | mp => rfl
      | arr g e cells => exact ⟨rfl, rfl, rfl, fun i h _ => .dead (hbb i h)⟩
      | loop st pend n env ps asg body => exact ⟨rfl, rfl, rfl, rfl, rfl, rfl, rfl, fun t ht => .dead (hbb t ht)⟩
  none id hs hb := by
    by_cases h : id = ob
    · subst h; rw [hob] at hb; cases hb
    · simp [AHeap.meltN, hs, h, hb]
theorem WeakS.meltN (hG : GOk G) {s : St} {n ob g : Nat} {e : TypeId} {cells cells' : List AVal} (hob : s.H.get ob = some (.arr g e cells)) (hlt : ob < n) (hl : cells'.length = cells.length)
    (hcell : ∀ i (h : i < cells.length) (h' : i < cells'.length), Fz (fun id => n ≤ id) s.H s.H.next cells[i] cells'[i]) : WeakS P G s ⟨s.ρ, s.H.meltN n ob (.arr g e cells')⟩ := by
  intro n' wb Γ a w hs
  exact WeakS.freeze (s := s) (s' := ⟨s.ρ, s.H.meltN n ob (.arr g e cells')⟩) hG (fzH_meltN hs.heap.clo hob hlt hl hcell) (fun t => .dead (hs.env t).belowN) n' wb Γ a w hs
theorem OwnG2.upd {lo : Nat} {H : AHeap} {e1 e0 : TypeId} {v : AVal} {rows : List (List AVal)} (h : OwnG2 lo H e1 e0 v rows) {k : Nat} {b : Blk} (hk : k < lo) : OwnG2 lo (H.upd k b) e1 e0 v rows := by
  obtain ⟨cs, c1, c2, c3⟩ := h
  refine ⟨cs, c1.keep (Nat.le_refl _) (by rw [upd_next]; exact Nat.le_refl _) fun id _ h1 _ _ _ => by rw [upd_get, if_neg (by omega)], c2, fun j r c hr hc => (c3 j r c hr hc).keep (Nat.le_refl _) (by rw [upd_next]; exact Nat.le_refl _) fun id _ h1 _ _ _ => by rw [upd_get, if_neg (by omega)]⟩
end Go.Hx
namespace Go.Proofs
open Go.Hx
structure RInv (g : Int) (c : List Int) (m : Nat) (d : List Int) (last : Nat) : Prop where
  dl : d.length = c.length
  d0 : ∀ x ∈ d, 0 ≤ x
  dd : d.drop m = c.drop m
  dg : (d.take m).sum ≤ g
  ds : c.sum * (d.take m).sum ≤ g * (c.take m).sum
  la : last < c.length
structure DrP where
  card : Int
  par : Int
  w : List Int
def DrP.cells (x : DrP) : List AVal := [.lit (.int .u8 x.card), .lit (.int .u8 x.par), .vec x.w.length (bytesL x.w)]
def drC (l : List DrP) : List AVal := (l.map DrP.cells).flatten
def DrP.Ok (x : DrP) : Prop := U8 x.card ∧ U8 x.par ∧ (x.w.length : Int) < 2 ^ 63 ∧ ∀ b ∈ x.w, U8 b
def draft05V (g : Int) (ps : List DrP) (ord : List Int) : AVal := .agg [.lit (.int .u8 g), .vec ps.length (drC ps), .vec ord.length (bytesL ord)]
theorem fz_vecV {S : Nat → Prop} {H : AHeap} {nx : Nat} (l : List (List Int)) : Fz S H nx (vecV l) (vecV l) := .vec rfl fun i hi _ => by simp only [List.getElem_map]; exact .keepInts _
theorem own_len {lo : Nat} {H : AHeap} {e : TypeId} {v : AVal} {cs : List AVal} (h : OwnG lo H e v cs) {d : Option TypeDesc} {t : TypeId} (hd : d = some (.slice t)) : lenU d H v = some (.lit (.int .i64 cs.length)) := by
  subst hd
  rcases h with ⟨rfl, rfl⟩ | ⟨id, g, _, _, rfl, h4⟩
  · rfl
  · rw [lenU_slice, lenS_own, get_live h4]; rfl
theorem app_intG {lo : Nat} {H' : AHeap} {v : AVal} {l : List Int} (x : Int) (h : OwnG lo H' 3 v (ints l)) (hlo : lo ≤ H'.next) (hl : l.length < 2 ^ 40) :
    ∃ v' H2, appendA Tryd.prog (ext H' [.arr 0 3 [.lit (.int .i64 x)]]) (H'.next + 1) 22 22 v (.own H'.next 0 0 1 1) = some (v', H2) ∧ OwnG lo H2 3 v' (ints (l ++ [x])) ∧ H'.next ≤ H2.next ∧ (∀ k, k < H'.next → (∀ g n, v ≠ .own k g 0 n 1) → H2.get k = H'.get k) := by
  obtain ⟨v', H2, hA, hO, hn2, hp⟩ := app_oneG (P := Tryd.prog) (H := H') (t := 22) (x := lin x) (n := H'.next + 1) Tryd.underlying22 Tryd.cells3 Tryd.zero3 rfl (by rw [Tryd.bytes3, ints_length]; omega) h hlo rfl
  simp only [lin] at hA
  exact ⟨v', H2, hA, by simpa [ints, lin] using hO, hn2, hp⟩
theorem ownD2_one {lo : Nat} {H : AHeap} {e1 e0 : TypeId} {v : AVal} {rows : List (List AVal)} (h : OwnD2 lo H e1 e0 v rows) : v.one = true ∧ v.cells = [v] := let ⟨_, a, _⟩ := h; ⟨a.one, a.cells⟩
theorem ownD2_upd {lo : Nat} {H : AHeap} {e1 e0 : TypeId} {v : AVal} {rows : List (List AVal)} (h : OwnD2 lo H e1 e0 v rows) {k : Nat} {b : Blk} (hk : k < lo) : OwnD2 lo (H.upd k b) e1 e0 v rows :=
  let ⟨cs, a, b', c, e⟩ := h
  have u : ∀ {u : AVal} {e : TypeId} {l : List AVal}, OwnG lo H e u l → OwnG lo (H.upd k b) e u l := fun h => h.keep (Nat.le_refl _) (by rw [upd_next]; exact Nat.le_refl _) fun i _ h1 _ _ _ => by rw [upd_get, if_neg (by omega)]
  ⟨cs, u a, b', fun j r q h1 h2 => u (c j r q h1 h2), e⟩
abbrev data25B (d : D25) : Blk := .arr 0 37 [.vec d.cards.length (bytesL d.cards), .vec d.cases.length (casesC d.cases), .lit (.int .u8 d.follow), .vec d.miss.length (bytesL d.miss)]
abbrev dBlk (a b : AVal) : Blk := .arr 0 50 [a, b]
set_option maxHeartbeats 4000000 in
theorem data25_spec (d : D25) (hd : d.Ok) (H : AHeap) (K : ARes → AHeap → Prop) (hK : K (.ret (dataV (cardsD d) (missD d))) H) : ACall Tryd.prog G0 15 [.agg d.cells] H K := by
  refine ACall.clo ⟨_, Tryd.func15, rfl, rfl⟩ fun hcl => ?_
  refine ACall.of_bodyW (n := 139) (rs := [.cell 2 50]) Tryd.func15 rfl rfl rfl (by decide) (by simp) ?_
  refine W.seq (vc_sound _ _ _ (by rfl) ?_)
  simp (config := { maxSteps := 1000000 }) only [go_sem, D25.cells, appendA_U]
  refine W.seq (vc_sound _ _ _ (by rfl) ?_)
  simp (config := { maxSteps := 1000000 }) only [go_sem, appendA_U]
  obtain ⟨H1, hH1⟩ : ∃ H1, H1 = ext H [data25B d, dBlk (.lit (.slice none 0 0)) (.lit (.slice none 0 0)), dBlk (.lit (.slice none 0 0)) (.lit (.slice none 0 0))] := ⟨_, rfl⟩
  have b0 : H1.get H.next = some (data25B d) := by rw [hH1]; exact get_ext0 ..
  have b1 : H1.get (H.next + 1) = some (dBlk (.lit (.slice none 0 0)) (.lit (.slice none 0 0))) := by rw [hH1]; exact get_ext H _ 1 (by simp)
  have b2 : H1.get (H.next + 2) = some (dBlk (.lit (.slice none 0 0)) (.lit (.slice none 0 0))) := by rw [hH1]; exact get_ext H _ 2 (by simp)
  have n1 : H1.next = H.next + 3 := by rw [hH1]; rfl
  have o1 : Over H H1 := by rw [hH1]; exact .ext _ _
  refine W.env fun E hE => ?_
  have e1 : E 1 = .ptr H.next 0 0 := by rw [hE]; simp (config := { maxSteps := 1000000 }) only [go_sem, appendA_U]
  have e2 : E 2 = .ptr (H.next + 1) 0 0 := by rw [hE]; simp (config := { maxSteps := 1000000 }) only [go_sem, appendA_U]
  have e3 : E 3 = .ptr (H.next + 2) 0 0 := by rw [hE]; simp (config := { maxSteps := 1000000 }) only [go_sem, appendA_U]
  clear hE
  rw [← hH1]
  clear hH1
  refine W.midN (fun s' => s'.ρ 1 = .ptr H.next 0 0 ∧ s'.ρ 2 = .ptr (H.next + 1) 0 0 ∧ s'.ρ 3 = .ptr (H.next + 2) 0 0 ∧ H.next + 3 ≤ s'.H.next ∧ (∀ id, id < H.next + 2 → s'.H.get id = H1.get id) ∧ ∃ cv, s'.H.get (H.next + 2) = some (dBlk cv (.lit (.slice none 0 0))) ∧ OwnG (H.next + 3) s'.H 3 cv (ints (cardsK d.cards))) ?_ ?_
  · refine W.seq (vc_sound _ _ _ (by rfl) ?_)
    simp (config := { maxSteps := 1000000 }) only [go_sem, appendA_U]
    refine W.block ?_
    refine W.loop0 34359736336 (by rfl) (fun ρ Hx => ∃ (k : Nat) (cv : AVal), ρ 4 = lin k ∧ k ≤ d.cards.length ∧ k ≤ 5 ∧ H.next + 3 ≤ Hx.next ∧ (∀ id, id < H.next + 2 → Hx.get id = H1.get id) ∧ Hx.get (H.next + 2) = some (dBlk cv (.lit (.slice none 0 0))) ∧ OwnG (H.next + 3) Hx 3 cv (ints ((d.cards.take k).map fun x => 2 + x % 2))) (fun ρ H => 5 - (iv (ρ 4)).toNat) ?_ ?_
    · simp (config := { maxSteps := 1000000 }) only [go_sem, appendA_U]
      exact ⟨0, _, rfl, by omega, by omega, by omega, b2, .nil⟩
    rintro ρ Hx ⟨k, cv, h4, hk, hk5, hn, hold, hb2, hO⟩
    refine vc_sound _ _ _ (by rfl) ?_
    have l0 := get_live ((hold _ (by omega)).trans b0)
    have l2 := get_live hb2
    by_cases c1 : (k : Int) < d.cards.length
    rotate_left
    · simp (config := { maxSteps := 1000000 }) only [go_sem, e1, e2, e3, h4, l0, c1, guardA_undef, appendA_U]
      rw [List.take_of_length_le (by omega)] at hO
      refine ⟨by omega, hold, cv, hb2, ?_⟩
      unfold cardsK
      rw [List.take_of_length_le (by omega)]
      exact hO
    by_cases c2 : (k : Int) < 5
    rotate_left
    · simp (config := { maxSteps := 1000000 }) only [go_sem, e1, e2, e3, h4, l0, c1, c2, guardA_undef, appendA_U]
      obtain rfl : k = 5 := by omega
      exact ⟨by omega, hold, cv, hb2, hO⟩
    obtain ⟨x, hx⟩ := get_of_lt (l := d.cards) (i := k) (by omega)
    have x8 := hd.c8 x (List.mem_of_getElem? hx)
    unfold U8 at x8
    have hx' := bytesL_get hx
    have hxn := ne_of_get hx'
    have m2 : x.tmod 2 = x % 2 := Int.tmod_eq_emod_of_nonneg x8.1
    have u1 : IntKind.u8.wrap (x % 2) = x % 2 := IntWalk.u8_in _ (by omega)
    have u2 := IntWalk.i64_in (x % 2) (by omega)
    have u3 := IntWalk.i64_in (2 + x % 2) (by omega)
    have w1 := IntWalk.i64_in ((k : Int) + 1) (by omega)
    obtain ⟨cv2, H3, hA, hO3, hn3, hp⟩ := app_intG (2 + x % 2) hO hn (by rw [List.length_map, List.length_take]; omega)
    have hcells := hO3.cells
    have hone := hO3.one
    have g3 := (hp _ (by omega) (hO.ne (by omega))).trans hb2
    have l3 := get_live g3
    simp (config := { maxSteps := 1000000 }) only [go_sem, e1, e2, e3, h4, l0, c1, c2, guardA_undef, appendA_U]
    refine W.draw 11 [0, 1, 0, 4, 0, 28, 60, 124, 252, 508, 1020] Tryd.mixed (by kernel_rfl) (by kernel_rfl) ?_
    simp (config := { maxSteps := 1000000 }) only [go_sem, e1, e2, e3, h4, l0, l2, c1, hx', hxn, m2, u1, u2, u3, w1, hA, l3, hcells, hone]
    repeat (refine And.intro (by first | omega | (simp; done) | (simp; omega) | (intros; omega) | exact ⟨rfl, by omega, by omega, all_one_ints _⟩) ?_)
    refine ⟨by rw [upd_next]; omega, ⟨k + 1, cv2, rfl, by omega, by omega, by rw [upd_next]; omega, fun id h => by rw [upd_get, if_neg (by omega), hp id (by omega) (hO.ne (by omega))]; exact hold id h, by rw [upd_get, if_pos rfl], ?_⟩, by omega⟩
    rw [take_succ_get hx, List.map_append]
    exact hO3.keep (Nat.le_refl _) (by rw [upd_next]; omega) fun id g h1 _ _ _ => by rw [upd_get, if_neg (by omega)]
  rintro ⟨ρ1, Ha⟩ ⟨p1, p2, p3, hn, hold, cv, hb2, hO⟩
  simp only at p1 p2 p3 hn hold hb2 hO
  refine W.midN (fun s' => s'.ρ 1 = .ptr H.next 0 0 ∧ s'.ρ 2 = .ptr (H.next + 1) 0 0 ∧ s'.ρ 3 = .ptr (H.next + 2) 0 0 ∧ H.next + 3 ≤ s'.H.next ∧ (∀ id, id < H.next + 2 → s'.H.get id = H1.get id) ∧ s'.H.get (H.next + 2) = some (dBlk (vecI (cardsD d)) (.lit (.slice none 0 0)))) (W.postWeak (Q' := fun e s' => e = .normal ∧ s'.ρ 1 = .ptr H.next 0 0 ∧ s'.ρ 2 = .ptr (H.next + 1) 0 0 ∧ s'.ρ 3 = .ptr (H.next + 2) 0 0 ∧ H.next + 3 ≤ s'.H.next ∧ (∀ id, id < H.next + 2 → s'.H.get id = H1.get id) ∧ ∃ cv, s'.H.get (H.next + 2) = some (dBlk cv (.lit (.slice none 0 0))) ∧ OwnG (H.next + 3) s'.H 3 cv (ints (cardsD d))) ?_ ?_) ?_
  · have l2 := get_live hb2
    have hone := hO.one
    have hlen := own_len hO (d := some (.slice 3)) rfl
    rw [ints_length] at hlen
    refine vc_sound _ _ _ (by rfl) ?_
    by_cases hc : cardsK d.cards = []
    · have hl0 : ((cardsK d.cards).length : Int) = 0 := by rw [hc]; rfl
      have l2e : ∀ L, (ext Ha L).live (H.next + 2) 0 = _ := fun L => (ext_live_old (by omega)).trans l2
      simp (config := { maxSteps := 1000000 }) only [go_sem, p1, p2, p3, l2, l2e, hlen, hl0, appendA_U]
      refine ⟨by rw [upd_next, ext_next]; omega, fun id h => by rw [upd_get, if_neg (by omega), get_ext_old _ _ _ (by omega)]; exact hold id h, .own Ha.next 0 0 1 1, by rw [upd_get, if_pos rfl], ?_⟩
      unfold cardsD
      rw [if_pos hc]
      exact .inr ⟨Ha.next, 0, hn, by rw [upd_next, ext_next]; simp, rfl, by rw [upd_get, if_neg (by omega)]; exact ext1_get_new⟩
    · have hl0 : ¬ ((cardsK d.cards).length : Int) = 0 := fun h => hc (List.eq_nil_of_length_eq_zero (by omega))
      simp (config := { maxSteps := 1000000 }) only [go_sem, p1, p2, p3, l2, hlen, hl0, appendA_U]
      refine ⟨hn, hold, cv, hb2, ?_⟩
      unfold cardsD
      rw [if_neg hc]
      exact hO
  · rintro e ⟨ρ2, Hb⟩ ⟨rfl, q1, q2, q3, qn, qold, cv2, qb, qO⟩
    simp only at q1 q2 q3 qn qold qb qO
    refine ⟨⟨ρ2, Hb.meltN (H.next + 3) (H.next + 2) (dBlk (vecI (cardsD d)) (.lit (.slice none 0 0)))⟩, WeakS.meltN G0_ok qb (by omega) rfl (fun i hi _ => ?_), Nat.le_refl _, trivial, rfl, q1, q2, q3, qn, fun id h => by rw [meltN_other (by omega) (by omega)]; exact qold id h, meltN_ob (by omega)⟩
    match i, hi with
    | 0, _ => exact qO.fzI fun i h => h
    | 1, _ => exact .lit _
  rintro ⟨ρ2, Hb⟩ ⟨p1, p2, p3, hn, hold, hb2⟩
  simp only at p1 p2 p3 hn hold hb2

  obtain ⟨cs, hcs⟩ : ∃ cs, cs = cardsD d := ⟨_, rfl⟩
  obtain ⟨n, hnl⟩ : ∃ n, n = cs.length := ⟨_, rfl⟩
  have n5 : 1 ≤ n ∧ n ≤ 5 := by rw [hnl, hcs]; exact cardsD_len d
  have crng : ∀ c ∈ cs, 2 ≤ c ∧ c ≤ 3 := by rw [hcs]; exact cardsD_rng d
  have hrow : casesD d = (d.cases.take 40).map fun r => caseS cs d.follow r n := by unfold casesD; rw [← hcs, ← hnl]
  rw [← hcs] at hb2
  have clen := casesC_len (l := d.cases) fun r hr => (hd.x8 r hr).1
  have f8 := hd.f8
  unfold U8 at f8
  have fm : d.follow.tmod 8 = d.follow % 8 := Int.tmod_eq_emod_of_nonneg f8.1
  have fu : IntKind.u8.wrap (d.follow % 8) = d.follow % 8 := IntWalk.u8_in _ (by omega)
  have fi := IntWalk.i64_in (d.follow % 8) (by omega)
  refine W.midN (fun s' => s'.ρ 1 = .ptr H.next 0 0 ∧ s'.ρ 2 = .ptr (H.next + 1) 0 0 ∧ s'.ρ 3 = .ptr (H.next + 2) 0 0 ∧ H.next + 3 ≤ s'.H.next ∧ (∀ id, id < H.next + 2 → s'.H.get id = H1.get id) ∧ ∃ xv, s'.H.get (H.next + 2) = some (dBlk (vecI cs) xv) ∧ OwnD2 (H.next + 3) s'.H 22 3 xv ((casesD d).map ints)) ?_ ?_
  · refine W.seq (vc_sound _ _ _ (by rfl) ?_)
    simp (config := { maxSteps := 1000000 }) only [go_sem, appendA_U]
    refine W.block ?_
    refine W.loop0 633825300114114698549328347616 (by rfl) (fun ρ Hi => ∃ (i : Nat) (xv : AVal), ρ 5 = lin i ∧ i ≤ d.cases.length ∧ i ≤ 40 ∧ Hb.next ≤ Hi.next ∧ (∀ id, id < H.next + 2 → Hi.get id = H1.get id) ∧ Hi.get (H.next + 2) = some (dBlk (vecI cs) xv) ∧ OwnD2 (H.next + 3) Hi 22 3 xv (((d.cases.take i).map fun r => caseS cs d.follow r n).map ints)) (fun ρ H => 40 - (iv (ρ 5)).toNat) ?_ ?_
    · simp (config := { maxSteps := 1000000 }) only [go_sem, appendA_U]
      exact ⟨0, _, rfl, by omega, by omega, hold, hb2, .nil⟩
    rintro ρ Hi ⟨i, xv, h5, hi, hi4, hni', holdi, hbi, hD⟩
    have hni : H.next + 3 ≤ Hi.next := by omega
    refine W.env fun E hE => ?_
    have a1 : E 1 = .ptr H.next 0 0 := by rw [hE]; simp (config := { maxSteps := 1000000 }) only [go_sem, p1, appendA_U]
    have a2 : E 2 = .ptr (H.next + 1) 0 0 := by rw [hE]; simp (config := { maxSteps := 1000000 }) only [go_sem, p2, appendA_U]
    have a3 : E 3 = .ptr (H.next + 2) 0 0 := by rw [hE]; simp (config := { maxSteps := 1000000 }) only [go_sem, p3, appendA_U]
    have a5 : E 5 = lin i := by rw [hE]; simp (config := { maxSteps := 1000000 }) only [go_sem, h5, appendA_U]
    clear hE
    have l0 := get_live ((holdi _ (by omega)).trans b0)
    have l2 := get_live hbi
    by_cases c1 : (i : Int) < d.cases.length
    rotate_left
    · refine vc_sound _ _ _ (by rfl) ?_
      simp (config := { maxSteps := 1000000 }) only [go_sem, a1, a2, a3, a5, l0, c1, guardA_undef, appendA_U]
      rw [List.take_of_length_le (by omega)] at hD
      refine ⟨by omega, holdi, xv, hbi, ?_⟩
      rw [hrow, List.take_of_length_le (by omega)]
      exact hD
    by_cases c2 : (i : Int) < 40
    rotate_left
    · refine vc_sound _ _ _ (by rfl) ?_
      simp (config := { maxSteps := 1000000 }) only [go_sem, a1, a2, a3, a5, l0, c1, c2, guardA_undef, appendA_U]
      obtain rfl : i = 40 := by omega
      refine ⟨by omega, holdi, xv, hbi, ?_⟩
      rw [hrow]
      exact hD
    obtain ⟨raw, hraw⟩ := get_of_lt (l := d.cases) (i := i) (by omega)
    obtain ⟨r5, r8⟩ := hd.x8 raw (List.mem_of_getElem? hraw)
    have rnn : ∀ x ∈ raw, 0 ≤ x := fun x hx => (r8 x hx).1
    refine W.seq (vc_sound _ _ _ (by rfl) ?_)
    simp (config := { maxSteps := 1000000 }) only [go_sem, a1, a2, a3, a5, l0, c1, c2, guardA_undef, appendA_U]
    refine W.seq (W.block ?_)
    refine W.seq (vc_sound _ _ _ (by rfl) ?_)
    simp (config := { maxSteps := 1000000 }) only [go_sem, appendA_U]
    refine W.midN (fun s' => s'.ρ 1 = .ptr H.next 0 0 ∧ s'.ρ 2 = .ptr (H.next + 1) 0 0 ∧ s'.ρ 3 = .ptr (H.next + 2) 0 0 ∧ s'.ρ 5 = lin i ∧ Over Hi s'.H ∧ OwnG Hi.next s'.H 3 (s'.ρ 6) (ints (caseS cs d.follow raw n))) ?_ ?_
    · refine W.seq (vc_sound _ _ _ (by rfl) ?_)
      simp (config := { maxSteps := 1000000 }) only [go_sem, appendA_U]
      refine W.block ?_
      refine W.loop0 9903520314278538599565623744 (by rfl) (fun ρ2 Hj => ∃ v : Nat, ρ2 7 = lin v ∧ v ≤ n ∧ Over Hi Hj ∧ OwnG Hi.next Hj 3 (ρ2 6) (ints (caseS cs d.follow raw v))) (fun ρ2 H => n - (iv (ρ2 7)).toNat) ?_ ?_
      · simp (config := { maxSteps := 1000000 }) only [go_sem, appendA_U]
        exact ⟨0, rfl, by omega, .refl _, .nil⟩
      rintro ρ3 Hj ⟨v, h7, hv, ov, hO⟩
      refine W.env fun E2 hE2 => ?_
      have d1 : E2 1 = .ptr H.next 0 0 := by rw [hE2]; simp (config := { maxSteps := 1000000 }) only [go_sem, a1, appendA_U]
      have d2 : E2 2 = .ptr (H.next + 1) 0 0 := by rw [hE2]; simp (config := { maxSteps := 1000000 }) only [go_sem, a2, appendA_U]
      have d3 : E2 3 = .ptr (H.next + 2) 0 0 := by rw [hE2]; simp (config := { maxSteps := 1000000 }) only [go_sem, a3, appendA_U]
      have d5 : E2 5 = lin i := by rw [hE2]; simp (config := { maxSteps := 1000000 }) only [go_sem, a5, appendA_U]
      have d7 : E2 7 = lin v := by rw [hE2]; simp (config := { maxSteps := 1000000 }) only [go_sem, h7, appendA_U]
      obtain ⟨cv, hcv⟩ : ∃ cv, cv = ρ3 6 := ⟨_, rfl⟩
      have d6 : E2 6 = cv := by rw [hE2, hcv]; simp (config := { maxSteps := 1000000 }) only [go_sem, appendA_U]
      rw [← hcv] at hO
      clear hE2
      have m0 := (ov.live (g := 0) (by omega : H.next < Hi.next)).trans l0
      have m2 := (ov.live (g := 0) (by omega : H.next + 2 < Hi.next)).trans l2
      have ovn := ov.next
      by_cases c3 : (v : Int) < cs.length
      rotate_left
      · refine vc_sound _ _ _ (by rfl) ?_
        simp (config := { maxSteps := 1000000 }) only [go_sem, d1, d2, d3, d5, d6, d7, m0, m2, c3, appendA_U]
        obtain rfl : v = n := by omega
        exact ⟨ov, hO⟩
      obtain ⟨x, hx⟩ := get_of_lt (l := raw) (i := v) (by omega)
      obtain ⟨c, hc⟩ := get_of_lt (l := cs) (i := v) (by omega)
      have x8 := r8 x (List.mem_of_getElem? hx)
      unfold U8 at x8
      have hxc := casesC_get (fun r hr => (hd.x8 r hr).1) hraw hx
      have hxn := ne_of_get hxc
      have v5 : (v : Int) < 5 := by omega
      have ux := IntWalk.i64_in x (by omega)
      refine W.seq (vc_sound _ _ _ (by rfl) ?_)
      simp (config := { maxSteps := 1000000 }) only [go_sem, d1, d2, d3, d5, d6, d7, m0, m2, c3, appendA_U]
      refine W.seq (W.block ?_)
      refine W.seq (vc_sound _ _ _ (by rfl) ?_)
      simp (config := { maxSteps := 1000000 }) only [go_sem, d1, d2, d3, d5, d6, d7, m0, m2, c1, hxc, hxn, v5, ux, appendA_U]
      have xm : x.tmod 8 = x % 8 := Int.tmod_eq_emod_of_nonneg x8.1
      have cl := caseS_len cs d.follow raw v
      obtain ⟨y, hy⟩ : ∃ y, y = (if 0 < v ∧ raw.getD v 0 % 8 < d.follow % 8 then (caseS cs d.follow raw v).getD (v - 1) 0 else raw.getD v 0) := ⟨_, rfl⟩
      have hxd := getD_of_get (d := 0) hx
      have y0 : 0 ≤ y := by
        rw [hy]
        split
        · exact getD_nn (caseS_nn crng rnn v) _
        · rw [hxd]; exact x8.1
      have yb : y < 256 := by
        rw [hy]
        split
        · rw [List.getD_eq_getElem?_getD]
          cases hk : (caseS cs d.follow raw v)[v - 1]? with
          | none => decide
          | some z =>
            have h1 := (caseS_rng crng rnn v _ z hk).2
            rw [List.getD_eq_getElem?_getD] at h1
            cases hk2 : cs[v - 1]? with
            | none => rw [hk2] at h1; simp at h1 ⊢; omega
            | some q => rw [hk2] at h1; have := crng q (List.mem_of_getElem? hk2); simp at h1 ⊢; omega
        · rw [hxd]; exact x8.2
      refine W.midN (fun s' => s'.ρ 1 = .ptr H.next 0 0 ∧ s'.ρ 2 = .ptr (H.next + 1) 0 0 ∧ s'.ρ 3 = .ptr (H.next + 2) 0 0 ∧ s'.ρ 5 = lin i ∧ s'.ρ 6 = cv ∧ s'.ρ 7 = lin v ∧ s'.ρ 8 = lin y ∧ s'.H = Hj) ?_ ?_
      · refine vc_sound _ _ _ (by rfl) ?_
        rw [hxd] at hy
        by_cases g1 : (v : Int) > 0
        rotate_left
        · rw [if_neg (by omega)] at hy
          simp (config := { maxSteps := 1000000 }) only [go_sem, d1, d2, d3, d5, d6, d7, m0, m2, g1, guardA_undef, hy, appendA_U]
        by_cases g2 : x % 8 < d.follow % 8
        rotate_left
        · rw [if_neg (by omega)] at hy
          simp (config := { maxSteps := 1000000 }) only [go_sem, d1, d2, d3, d5, d6, d7, m0, m2, g1, xm, fm, fu, fi, g2, guardA_undef, hy, appendA_U]
        rw [if_pos (by omega)] at hy
        obtain ⟨z, hz⟩ := get_of_lt (l := caseS cs d.follow raw v) (i := v - 1) (by omega)
        rw [getD_of_get hz] at hy
        rcases hO with ⟨_, e⟩ | ⟨ic, gc, _, _, e, hgc⟩
        · have := congrArg List.length e
          rw [ints_length, cl, List.length_nil] at this
          omega
        · rw [ints_length, cl] at e
          have lc := get_live hgc
          have zn := ne_of_get hz
          have wv := IntWalk.i64_in ((v - 1 : Nat) : Int) (by omega)
          have ev : (v : Int) - 1 = ((v - 1 : Nat) : Int) := by omega
          have vl : ((v - 1 : Nat) : Int) < v := by omega
          rw [e] at d6
          simp (config := { maxSteps := 1000000 }) only [go_sem, d1, d2, d3, d5, d6, d7, m0, m2, g1, xm, fm, fu, fi, g2, guardA_undef, wv, ev, lc, hz, zn, vl, hy, e, appendA_U]
      rintro ⟨ρ4, H4⟩ ⟨r1, r2, r3, r5', r6, r7, r8', rfl⟩
      simp only at r1 r2 r3 r5' r6 r7 r8'
      have c23 := crng c (List.mem_of_getElem? hc)
      have cz : ¬ c = 0 := by omega
      have cn := ne_of_get hc
      have ym : y.tmod c = y % c := Int.tmod_eq_emod_of_nonneg y0
      have ymr := Int.emod_lt_of_pos y (show 0 < c by omega)
      have ymn := Int.emod_nonneg y (show c ≠ 0 by omega)
      have uy := IntWalk.i64_in (y % c) (by omega)
      have w1 := IntWalk.i64_in ((v : Int) + 1) (by omega)
      obtain ⟨cv2, H5, hA, hO5, hn5, hp⟩ := app_intG (y % c) hO ovn (by rw [cl]; omega)
      refine vc_sound _ _ _ (by rfl) ?_
      simp (config := { maxSteps := 1000000 }) only [go_sem, r1, r2, r3, r5', r6, r7, r8', m0, m2, c3, hc, cn, cz, ym, uy, hA]
      refine vc_sound _ _ _ (by rfl) ?_
      simp (config := { maxSteps := 1000000 }) only [go_sem, r7, w1, appendA_U]
      have o5 : Over Hi H5 := ⟨by omega, fun id h => (hp id (by omega) (hO.ne h)).trans (ov.old id h)⟩
      refine ⟨by omega, ⟨v + 1, rfl, by omega, o5, ?_⟩, by rw [h7]; simp only [lin, iv_int]; omega⟩
      rw [show caseS cs d.follow raw (v + 1) = caseS cs d.follow raw v ++ [y % c] by rw [hy]; show _ ++ [_ % cs.getD v 2] = _; rw [getD_of_get hc]]
      exact hO5
    rintro ⟨ρ4, Hk⟩ ⟨r1, r2, r3, r5', ov, hO⟩
    simp only at r1 r2 r3 r5' ov hO
    obtain ⟨rv, hrv⟩ : ∃ rv, ρ4 6 = rv := ⟨_, rfl⟩
    rw [hrv] at hO
    have ovn := ov.next
    have w1 := IntWalk.i64_in ((i : Int) + 1) (by omega)
    obtain ⟨xv2, H5, hA, hD5, hn5, hp⟩ := OwnD2.app (P := Tryd.prog) (n := Hk.next + 1) (t := 48) Tryd.underlying48 Tryd.cells22 Tryd.zero22 Tryd.bytes22 (by decide) (by rw [List.length_map, List.length_map, List.length_take]; omega) hD ov hni hO rfl
    have k2 := (ov.live (g := 0) (by omega : H.next + 2 < Hi.next)).trans l2
    have k2e : ∀ L, (ext Hk L).live (H.next + 2) 0 = _ := fun L => (ext_live_old (by omega)).trans k2
    have k5 : H5.live (H.next + 2) 0 = _ := get_live ((hp _ (by omega) (by omega)).trans ((ov.old _ (by omega)).trans hbi))
    obtain ⟨xone, xcells⟩ := ownD2_one hD5
    refine vc_sound _ _ _ (by rfl) ?_
    have rvo := hO.one
    have rvc := hO.cells
    simp (config := { maxSteps := 1000000 }) only [go_sem, r1, r2, r3, r5', hrv, k2, k2e, hA, k5, xone, xcells, rvo, rvc]
    refine vc_sound _ _ _ (by rfl) ?_
    simp (config := { maxSteps := 1000000 }) only [go_sem, r5', w1, appendA_U]
    refine ⟨by rw [upd_next]; omega, ⟨i + 1, xv2, rfl, by omega, by omega, by rw [upd_next]; omega, fun id h => by rw [upd_get, if_neg (by omega), hp id (by omega) (by omega), ov.old id (by omega)]; exact holdi id h, by rw [upd_get, if_pos rfl], ?_⟩, by rw [h5]; simp only [lin, iv_int]; omega⟩
    rw [take_succ_get hraw, List.map_append, List.map_append]
    exact ownD2_upd hD5 (by omega)
  rintro ⟨ρ5, Hc⟩ ⟨p1, p2, p3, hn, hold, xv, hb2, hD⟩
  simp only at p1 p2 p3 hn hold hb2 hD
  refine W.seq (vc_sound _ _ _ (by rfl) ?_)
  simp (config := { maxSteps := 1000000 }) only [go_sem, appendA_U]
  have cfit := casesD_fit (d := d)
  rw [← hcs] at cfit
  refine W.loop0 348449143726407161286381483309382296929792 (by rfl) (fun ρ Hi => ∃ (i : Nat) (xv : AVal) (xs : List (List Int)), ρ 9 = lin i ∧ i ≤ d.miss.length ∧ xs = (d.miss.take i).foldl missS (casesD d) ∧ Hc.next ≤ Hi.next ∧ (∀ id, id < H.next + 2 → Hi.get id = H1.get id) ∧ Hi.get (H.next + 2) = some (dBlk (vecI cs) xv) ∧ OwnD2 (H.next + 3) Hi 22 3 xv (xs.map ints)) (fun ρ H => d.miss.length - (iv (ρ 9)).toNat) ?_ ?_
  · simp (config := { maxSteps := 1000000 }) only [go_sem, appendA_U]
    exact ⟨0, _, _, rfl, by omega, rfl, hold, hb2, hD⟩
  rintro ρ Hi ⟨i, xv, xs, h9, hi, hxs, hni', holdi, hbi, hDi⟩
  have hni : H.next + 3 ≤ Hi.next := by omega
  refine vc_sound _ _ _ (by rfl) ?_
  have l0 := get_live ((holdi _ (by omega)).trans b0)
  have l1 := get_live ((holdi _ (by omega)).trans b1)
  have l2 := get_live hbi
  obtain ⟨xone, xcells⟩ := ownD2_one hDi
  obtain ⟨mlen, mrow⟩ := missF_ok (n := cs.length) (d.miss.take i) (xs := casesD d) cfit.2
  rw [← hxs] at mlen mrow
  have fin : missD d = xs → FinV Tryd.prog G0 H K (.agg [vecI cs, xv]) (Hi.upd (H.next + 1) (dBlk (vecI cs) xv)) := fun hm => by
    rw [← hcs, hm] at hK
    refine FinV.dropO G0_ok hcl ⟨by rw [upd_next]; omega, fun id h => by rw [upd_get, if_neg (by omega), holdi id (by omega)]; exact o1.old id h⟩ (fz_data (.keepInts _) (fz_rows (ownD2_upd hDi (by omega)).toG fun i hi => by omega)) hK
  have hlen : ∃ dd, dd = some (TypeDesc.slice 22) ∧ lenU dd Hi xv = some (.lit (.int .i64 xs.length)) := by
    obtain ⟨ocs, oG, oL, _, _⟩ := hDi
    have := own_len oG (d := some (.slice 22)) rfl
    rw [oL, List.length_map] at this
    exact ⟨_, rfl, this⟩
  obtain ⟨_, rfl, hlen⟩ := hlen
  by_cases c1 : (i : Int) < d.miss.length
  rotate_left
  · simp (config := { maxSteps := 1000000 }) only [go_sem, p1, p2, p3, h9, l0, l1, l2, c1, xone, xcells, guardA_undef, appendA_U]
    refine vc_sound _ _ _ (by rfl) ?_
    simp (config := { maxSteps := 1000000 }) only [go_sem, p1, p2, p3, h9, l0, l1, l2, c1, xone, xcells, guardA_undef, appendA_U]
    exact fin (by rw [hxs, List.take_of_length_le (by omega)]; rfl)
  by_cases c2 : (xs.length : Int) > 0
  rotate_left
  · simp (config := { maxSteps := 1000000 }) only [go_sem, p1, p2, p3, h9, l0, l1, l2, c1, c2, hlen, xone, xcells, guardA_undef, appendA_U]
    refine vc_sound _ _ _ (by rfl) ?_
    simp (config := { maxSteps := 1000000 }) only [go_sem, p1, p2, p3, h9, l0, l1, l2, c1, xone, xcells, guardA_undef, appendA_U]
    refine fin ?_
    have h1 := (missF_ok (n := cs.length) d.miss (xs := casesD d) cfit.2).1
    rw [List.eq_nil_of_length_eq_zero (l := xs) (by omega)]
    exact List.eq_nil_of_length_eq_zero (by unfold missD; omega)
  obtain ⟨m, hm⟩ := get_of_lt (l := d.miss) (i := i) (by omega)
  have m8 := hd.m8 m (List.mem_of_getElem? hm)
  unfold U8 at m8
  have hm' := bytesL_get hm
  have hmn := ne_of_get hm'
  have kr := Int.emod_lt_of_pos (m / 5) (show (0 : Int) < xs.length by omega)
  have kn := Int.emod_nonneg (m / 5) (show (xs.length : Int) ≠ 0 by omega)
  obtain ⟨k, hk⟩ := Int.eq_ofNat_of_zero_le kn
  obtain ⟨r, hr⟩ := get_of_lt (l := xs) (i := k) (by omega)
  have rl := mrow r (List.mem_of_getElem? hr)
  have jr := Int.emod_lt_of_pos m (show (0 : Int) < r.length by omega)
  have jn := Int.emod_nonneg m (show (r.length : Int) ≠ 0 by omega)
  obtain ⟨j, hj⟩ := Int.eq_ofNat_of_zero_le jn
  obtain ⟨idt, gt, idr, gr, cells, hxv, hgt, hcl2, it1, it2, hck, hgr, ir1, ir2, hset⟩ := OwnD2.row hDi (by decide) (k := k) (r := ints r) (by rw [List.getElem?_map, hr]; rfl) (by intro e; have := congrArg List.length e; rw [ints_length, List.length_nil] at this; omega)
  rw [List.length_map] at hxv hcl2
  rw [ints_length] at hck
  have lt := get_live hgt
  have lr := get_live hgr
  have cne := ne_of_get hck
  have q5 : m.tdiv 5 = m / 5 := Int.tdiv_eq_ediv_of_nonneg m8.1
  have u1 : IntKind.u8.wrap (m / 5) = m / 5 := IntWalk.u8_in _ (by omega)
  have u2 := IntWalk.i64_in (m / 5) (by omega)
  have u3 : (m / 5).tmod (xs.length : Int) = k := by rw [Int.tmod_eq_emod_of_nonneg (by omega)]; exact hk
  have u4 := IntWalk.i64_in (k : Int) (by omega)
  have u5 := IntWalk.i64_in m (by omega)
  have u6 : m.tmod (r.length : Int) = j := by rw [Int.tmod_eq_emod_of_nonneg (by omega)]; exact hj
  have u7 := IntWalk.i64_in (j : Int) (by omega)
  have x0 : ¬ (xs.length : Int) = 0 := by omega
  have r0 : ¬ (r.length : Int) = 0 := by omega
  have kl : (k : Int) < xs.length := by omega
  have jl : (j : Int) < r.length := by omega
  have ml := hd.ml
  have w1 := IntWalk.i64_in ((i : Int) + 1) (by omega)
  rw [hxv] at l2 hlen
  simp (config := { maxSteps := 1000000 }) only [go_sem, p1, p2, p3, h9, l0, l1, l2, c1, c2, hlen, guardA_undef, appendA_U]
  refine W.draw 13 [0, 1, 0, 4, 0, 28, 60, 124, 252, 0, 512, 1536, 4092] Tryd.mixed (by kernel_rfl) (by kernel_rfl) ?_
  simp (config := { maxSteps := 1000000 }) only [go_sem, p1, p2, p3, h9, l0, l1, l2, c1, hm', hmn, q5, u1, u2, u3, u4, u5, u6, u7, x0, r0, kl, jl, lt, lr, hck, cne, w1, appendA_U]
  refine ⟨by omega, by rw [upd_next]; omega, ⟨i + 1, xv, xs.set k (r.set j (-1)), rfl, by omega, ?_, by rw [upd_next]; omega, fun id h => by rw [upd_get, if_neg (by omega)]; exact holdi id h, ?_, ?_⟩, by omega⟩
  · rw [take_succ_get hm, List.foldl_append, ← hxs]
    show _ = missS xs m
    unfold missS
    simp only [hk, Int.ofNat_eq_natCast, Int.toNat_natCast, getD_of_get hr, hj]
  · rw [upd_get, if_neg (by omega), hbi, hxv]; rfl
  · rw [setAt_ints (by omega), List.map_set]
    exact hset (ints (r.set j (-1))) (by rw [ints_length, ints_length, List.length_set])
end Go.Proofs
namespace Go.Hx
variable {P : Program} {G : Nat → Option (List AVal)}
theorem fzH_id {H : AHeap} (hc : Clo H) : FzH (fun _ => False) H H where
  gone id hs := hs.elim
  kept id b _ hb := by
    have hbb := hc.below id b hb
    refine ⟨hc.lt id b hb, b, hb, ?_⟩
    cases b with
    | rsv => trivial
    | mp => rfl
    | arr g e cells => exact ⟨rfl, rfl, rfl, fun i h _ => .dead (hbb i h)⟩
    | loop st pend n env ps asg body => exact ⟨rfl, rfl, rfl, rfl, rfl, rfl, rfl, fun t ht => .dead (hbb t ht)⟩
  none id _ hb := hb
theorem ACall.weakArgs {H : AHeap} {f : FuncId} {args args' : List AVal} {K : ARes → AHeap → Prop} (hG : GOk G) (hl : args'.length = args.length) (hv : ∀ i (h : i < args.length) (h' : i < args'.length), Fz (fun _ => False) H H.next args[i] args'[i])
    (h : ACall P G f args' H K) : ACall P G f args H K := by
  refine ⟨h.1, fun Γ w cargs R hr => ?_⟩
  have F := fzH_id R.clo
  have R0 := F.rel hG R
  have E0 : Evo Γ H w (gamF (fun _ => False) Γ) H w := F.evo
  refine (h.2 _ w cargs R0 ⟨by have := hr.1; omega, fun i h1 h2 => (hv i (by omega) h1).sound R F (hr.2 i (by omega) h2)⟩).mono ?_
  rintro e w' ⟨r, H', Γ', h1, h2, h3, h4, h5⟩
  exact ⟨r, H', Γ', h1, h2, h3, E0.trans (Nat.le_refl _) h4, h5⟩
end Go.Hx
namespace Go.Hx
variable {P : Program}
structure OwnM (lo : Nat) (H : AHeap) (e1 e0 : TypeId) (v : AVal) (ids : List Nat) (rows : List (List AVal)) : Prop where
  len : ids.length = rows.length
  nd : ids.Nodup
  rng : ∀ i ∈ ids, lo ≤ i ∧ i < H.next
  top : OwnG lo H e1 v (List.zipWith (fun i n => AVal.own i 0 0 n 1) ids (rows.map List.length))
  row : ∀ (k id : Nat) (r : List AVal), ids[k]? = some id → rows[k]? = some r → H.get id = some (.arr 0 e0 r)
theorem OwnM.nil {lo : Nat} {H : AHeap} {e1 e0 : TypeId} : OwnM lo H e1 e0 (.lit (.slice none 0 0)) [] [] :=
  ⟨rfl, .nil, fun i h => (by cases h), .nil, fun k id r h => (by simp at h)⟩
theorem OwnM.keep {lo : Nat} {H H' : AHeap} {e1 e0 : TypeId} {v : AVal} {ids : List Nat} {rows : List (List AVal)} (h : OwnM lo H e1 e0 v ids rows) (hn : H.next ≤ H'.next) (hk : ∀ id, lo ≤ id → id < H.next → H'.get id = H.get id) : OwnM lo H' e1 e0 v ids rows :=
  ⟨h.len, h.nd, fun i hi => ⟨(h.rng i hi).1, by have := (h.rng i hi).2; omega⟩, h.top.keep (Nat.le_refl _) hn fun id _ h1 h2 _ _ => hk id h1 h2, fun k id r h1 h2 => by
    have := h.rng id (List.mem_of_getElem? h1)
    rw [hk id this.1 this.2]
    exact h.row k id r h1 h2⟩
theorem OwnM.topB {lo : Nat} {H : AHeap} {e1 e0 : TypeId} {v : AVal} {ids : List Nat} {rows : List (List AVal)} (h : OwnM lo H e1 e0 v ids rows) (h0 : rows ≠ []) : ∃ id g, lo ≤ id ∧ id < H.next ∧ v = .own id g 0 rows.length 1 ∧ H.get id = some (.arr g e1 (List.zipWith (fun i n => AVal.own i 0 0 n 1) ids (rows.map List.length))) ∧ (e1 ≠ e0 → id ∉ ids) := by
  have hzl : (List.zipWith (fun i n => AVal.own i 0 0 n 1) ids (rows.map List.length)).length = rows.length := by simp [h.len]
  rcases h.top with ⟨hv, h4⟩ | ⟨i, g, a, b, hv, h4⟩
  · rw [h4] at hzl
    exact absurd (List.eq_nil_of_length_eq_zero hzl.symm) h0
  · refine ⟨i, g, a, b, by rw [hv, hzl], h4, fun hne hm => ?_⟩
    obtain ⟨k, hk⟩ := List.mem_iff_getElem?.1 hm
    have hkl : k < rows.length := by rw [← h.len]; exact (List.getElem?_eq_some_iff.1 hk).1
    have := h.row k i _ hk (List.getElem?_eq_getElem hkl)
    rw [h4] at this
    exact hne (Blk.arr.inj (Option.some.inj this)).2.1
theorem OwnM.store {lo : Nat} {H : AHeap} {e1 e0 : TypeId} {v : AVal} {ids : List Nat} {rows : List (List AVal)} (h : OwnM lo H e1 e0 v ids rows) (hne : e1 ≠ e0) {k id : Nat} {r r' : List AVal} (hk : ids[k]? = some id) (hr : rows[k]? = some r) (hl : r'.length = r.length) : OwnM lo (H.upd id (.arr 0 e0 r')) e1 e0 v ids (rows.set k r') := by
  have hid := h.rng id (List.mem_of_getElem? hk)
  have h0 : rows ≠ [] := fun e => by rw [e] at hr; simp at hr
  refine ⟨by rw [List.length_set]; exact h.len, h.nd, fun i hi => by rw [upd_next]; exact h.rng i hi, ?_, fun j id' q h1 h2 => ?_⟩
  · have e : (rows.set k r').map List.length = rows.map List.length := by
      rw [List.map_set, hl]
      apply List.ext_getElem?
      intro i
      rw [List.getElem?_set]
      split
      · rename_i hi
        subst hi
        have hkl := (List.getElem?_eq_some_iff.1 hr).1
        rw [if_pos (by rw [List.length_map]; exact hkl), List.getElem?_map, hr]
        rfl
      · rfl
    rw [e]
    obtain ⟨i, g, a, b, _, h4, h5⟩ := h.topB h0
    refine h.top.keep (Nat.le_refl _) (by rw [upd_next]; exact Nat.le_refl _) fun i2 g2 _ _ h3 _ => ?_
    rw [upd_get, if_neg]
    rintro rfl
    rw [h.row k i2 r hk hr] at h3
    cases h3
    exact hne rfl
  · rw [upd_get]
    by_cases hj : j = k
    · subst hj
      rw [hk] at h1
      cases h1
      rw [List.getElem?_set_self (List.getElem?_eq_some_iff.1 hr).1] at h2
      cases h2
      rw [if_pos rfl]
    · rw [List.getElem?_set_ne (fun e => hj e.symm)] at h2
      rw [if_neg, h.row j id' q h1 h2]
      rintro rfl
      exact hj ((List.getElem?_inj (List.getElem?_eq_some_iff.1 h1).1 h.nd).1 (by rw [h1, hk]))
theorem OwnM.fz {S : Nat → Prop} {lo nx : Nat} {H : AHeap} {e1 e0 : TypeId} {v : AVal} {ids : List Nat} {rows : List (List AVal)} (h : OwnM lo H e1 e0 v ids rows) (hS : ∀ i, lo ≤ i → S i) (hr : ∀ r ∈ rows, ∀ c ∈ r, Fz S H nx c c) :
    Fz S H nx v (.vec rows.length (rows.map fun r => .vec r.length r)) := by
  have hz : (List.zipWith (fun i n => AVal.own i 0 0 n 1) ids (rows.map List.length)).length = rows.length := by simp [h.len]
  have := h.top.fz (S := S) (nx := nx) (cs' := rows.map fun r => .vec r.length r) hS (by simp [h.len]) fun i hi hi' => by
    simp only [List.getElem_map, List.getElem_zipWith]
    have hil : i < rows.length := by omega
    have hii : i < ids.length := by rw [h.len]; exact hil
    refine .frz (hS _ (h.rng _ (List.getElem_mem hii)).1) (h.row i _ _ (List.getElem?_eq_getElem hii) (List.getElem?_eq_getElem hil)) (by simp) fun j hj h2 h' => ?_
    have e0 : (0 : Nat) + j = j := Nat.zero_add j
    have h3 := hr rows[i] (List.getElem_mem hil) _ (List.getElem_mem h')
    simpa only [e0] using h3
  rw [List.length_map] at this
  exact this
end Go.Hx
namespace Go.Hx
variable {P : Program} {G : Nat → Option (List AVal)}
theorem OwnM.ne {lo : Nat} {H : AHeap} {e1 e0 : TypeId} {v : AVal} {ids : List Nat} {rows : List (List AVal)} (h : OwnM lo H e1 e0 v ids rows) {k g' : Nat} {e : TypeId} {c : List AVal} (hk : H.get k = some (.arr g' e c)) (he : e ≠ e1) : ∀ g n, v ≠ .own k g 0 n 1 := fun g n hv => by
  rcases h.top with ⟨h1, _⟩ | ⟨i, g2, _, _, h1, h2⟩
  · rw [h1] at hv; cases hv
  · rw [h1] at hv
    obtain rfl := (AVal.own.inj hv).1
    rw [hk] at h2
    cases h2
    exact he rfl
theorem WeakS.same {s : St} : WeakS P G s s := by
  intro n wb Γ a w hs
  exact ⟨Γ, hs, .refl _ _ _, fun _ _ h _ => h⟩
end Go.Hx
namespace Go.Proofs
open Go.Hx
structure NodO (lo : Nat) (H : AHeap) (pv rv : AVal) (ids : List Nat) (x : NodeP) : Prop where
  par : OwnG lo H 3 pv (ints x.parents)
  rows : OwnM lo H 22 3 rv ids (x.rows.map ints)
  dj : ∀ id g n, pv = .own id g 0 n 1 → id ∉ ids
  nil : x.rows = [] → rv = .lit (.slice none 0 0)
theorem NodO.keep {lo : Nat} {H H' : AHeap} {pv rv : AVal} {ids : List Nat} {x : NodeP} (h : NodO lo H pv rv ids x) (hn : H.next ≤ H'.next) (hk : ∀ id, lo ≤ id → id < H.next → H'.get id = H.get id) : NodO lo H' pv rv ids x :=
  ⟨h.par.keep (Nat.le_refl _) hn fun id _ h1 h2 _ _ => hk id h1 h2, h.rows.keep hn hk, h.dj, h.nil⟩
theorem NodO.over {lo : Nat} {H H' : AHeap} {pv rv : AVal} {ids : List Nat} {x : NodeP} (h : NodO lo H pv rv ids x) (o : Over H H') : NodO lo H' pv rv ids x := h.keep o.next fun id _ h2 => o.old id h2
theorem NodO.low {lo lo' : Nat} {H : AHeap} {pv rv : AVal} {ids : List Nat} {x : NodeP} (h : NodO lo H pv rv ids x) (hl : lo' ≤ lo) : NodO lo' H pv rv ids x :=
  ⟨h.par.keep hl (Nat.le_refl _) fun _ _ _ _ _ _ => rfl, ⟨h.rows.len, h.rows.nd, fun i hi => ⟨by have := (h.rows.rng i hi).1; omega, (h.rows.rng i hi).2⟩, h.rows.top.keep hl (Nat.le_refl _) fun _ _ _ _ _ _ => rfl, h.rows.row⟩, h.dj, h.nil⟩
end Go.Proofs
namespace Go.Hx
theorem OwnM.elem {lo : Nat} {H : AHeap} {e1 e0 : TypeId} {v : AVal} {ids : List Nat} {rows : List (List AVal)} (h : OwnM lo H e1 e0 v ids rows) {i : Nat} (hi : i ∈ ids) : ∃ r, H.get i = some (.arr 0 e0 r) := by
  obtain ⟨k, hk⟩ := List.mem_iff_getElem?.1 hi
  have hl := (List.getElem?_eq_some_iff.1 hk).1
  rw [h.len] at hl
  exact ⟨_, h.row k i _ hk (List.getElem?_eq_getElem hl)⟩
end Go.Hx
namespace Go.Proofs
open Go.Hx
structure SmallN (m : Nat) (ns : List NodeP) : Prop where
  len : ns.length ≤ m
  node : ∀ x ∈ ns, x.parents.length ≤ m ∧ x.rows.length ≤ m ∧ ∀ r ∈ x.rows, r ≠ [] ∧ r.length ≤ m
theorem SmallN.mono {m m' : Nat} {ns : List NodeP} (h : SmallN m ns) (hm : m ≤ m') : SmallN m' ns :=
  ⟨Nat.le_trans h.len hm, fun x hx => by
    obtain ⟨a, b, c⟩ := h.node x hx
    exact ⟨by omega, by omega, fun r hr => ⟨(c r hr).1, by have := (c r hr).2; omega⟩⟩⟩
theorem SmallN.set {m : Nat} {ns : List NodeP} {A : Nat} {y : NodeP} (h : SmallN m ns) (hy : y.parents.length ≤ m ∧ y.rows.length ≤ m ∧ ∀ r ∈ y.rows, r ≠ [] ∧ r.length ≤ m) : SmallN m (ns.set A y) :=
  ⟨by rw [List.length_set]; exact h.len, fun x hx => by
    rcases List.mem_or_eq_of_mem_set hx with h1 | rfl
    · exact h.node x h1
    · exact hy⟩
structure RowAt (lo : Nat) (H : AHeap) (rv : AVal) (ids : List Nat) (rows : List (List Int)) (R : Nat) (q : List Int) (idt gt : Nat) (cells : List AVal) (idr : Nat) : Prop where
  rv : rv = .own idt gt 0 rows.length 1
  top : H.get idt = some (.arr gt 22 cells)
  tlo : lo ≤ idt ∧ idt < H.next
  len : cells.length = rows.length
  at' : cells[R]? = some (.own idr 0 0 q.length 1)
  row : H.get idr = some (.arr 0 3 (ints q))
  rlo : lo ≤ idr ∧ idr < H.next
  ne : idt ≠ idr
  id : ids[R]? = some idr
  q : rows[R]? = some q
  cell : ∀ (j i : Nat) (r : List Int), ids[j]? = some i → rows[j]? = some r → cells[j]? = some (.own i 0 0 r.length 1)
  nm : idt ∉ ids
theorem NodesQ.take {e : Nat → Prop} {ns : List NodeP} {cs : List AVal} (h : NodesQ e ns cs) (k : Nat) : NodesQ e (ns.take k) (cs.take (k * 3)) := by
  refine ⟨by rw [List.length_take, List.length_take, h.len]; omega, fun v x hx => ?_⟩
  have hv := get_lt hx
  rw [List.length_take] at hv
  rw [List.getElem?_take_of_lt (by omega)] at hx
  obtain ⟨rv, a, b, c, d⟩ := h.node v x hx
  exact ⟨rv, by rw [List.getElem?_take_of_lt (by omega)]; exact a, by rw [List.getElem?_take_of_lt (by omega)]; exact b, by rw [List.getElem?_take_of_lt (by omega)]; exact c, d⟩
theorem SmallN.take {m : Nat} {ns : List NodeP} (h : SmallN m ns) (k : Nat) : SmallN m (ns.take k) := ⟨by rw [List.length_take]; have := h.len; omega, fun x hx => h.node x (List.mem_of_mem_take hx)⟩
end Go.Proofs
namespace Go.Hx
open Go.Proofs.R01 (pureRun_bind)
variable {P : Program} {t e : TypeId} {x y : Operand} {k k' : IntKind}
end Go.Hx
namespace Go.Proofs
open Go.Hx
theorem SmallN.fit {m : Nat} {ns : List NodeP} (h : SmallN m ns) (hm : m < 2 ^ 37) : NetFit ns := ⟨by have := h.len; omega, fun x hx => by have := h.node x hx; exact ⟨by omega, by omega, fun r hr => by have := (h.node x hx).2.2 r hr; omega⟩⟩
theorem rowsN_fit {cs : List Int} {xs : List (List Int)} (hc : cs.length ≤ 64) (hx : xs.length ≤ 41) (hr : ∀ r ∈ xs, r.length ≤ 64) : DataFit cs xs := ⟨by omega, by omega, fun r h => by have := hr r h; omega⟩
structure DoneN (g : Int) (cs P : List Int) (n j : Nat) (x : NodeP) : Prop where
  pl : PlacesOk x.parents n
  p3 : x.parents.length ≤ 3
  rk : ∀ q ∈ x.parents, ∃ k, k < j ∧ P[k]? = some q
  rl : (x.rows.length : Int) = prodL (atL cs x.parents)
  ro : ∀ r ∈ x.rows, RowOk g x.card r
  ne : x.rows ≠ []
structure LoopN (g : Int) (cs P : List Int) (n i : Nat) (ns : List NodeP) : Prop where
  len : ns.length = n
  cards : cardsL ns = cs
  todo : ∀ (j v : Nat) (x : NodeP), i ≤ j → P[j]? = some (v : Int) → ns[v]? = some x → x.rows = [] ∧ x.parents = []
  done : ∀ (j v : Nat) (x : NodeP), j < i → P[j]? = some (v : Int) → ns[v]? = some x → DoneN g cs P n j x
structure ParU (P : List Int) (i u k : Nat) (l : List Int) : Prop where
  pw : l.Pairwise (· < ·)
  rng : ∀ q ∈ l, 0 ≤ q ∧ (q < u ∨ (q = u ∧ ∃ k', k' < k ∧ P[k']? = some q))
  p3 : l.length ≤ 3
  rk : ∀ q ∈ l, ∃ k', k' < i ∧ P[k']? = some q
theorem ParU.skip {P : List Int} {i u k : Nat} {l : List Int} (h : ParU P i u k l) : ParU P i u (k + 1) l := ⟨h.pw, fun q hq => ⟨(h.rng q hq).1, (h.rng q hq).2.imp id fun ⟨a, k', b, c⟩ => ⟨a, k', by omega, c⟩⟩, h.p3, h.rk⟩
theorem ParU.next {P : List Int} {i u k : Nat} {l : List Int} (h : ParU P i u k l) : ParU P i (u + 1) 0 l := ⟨h.pw, fun q hq => ⟨(h.rng q hq).1, .inl (by rcases (h.rng q hq).2 with h1 | h1 <;> omega)⟩, h.p3, h.rk⟩
theorem ParU.add {P : List Int} {n i u k : Nat} {l : List Int} (hP : IsPerm n P) (h : ParU P i u k l) (hk : k < i) (hu : P[k]? = some (u : Int)) (h3 : l.length < 3) : ParU P i u (k + 1) (l ++ [(u : Int)]) := by
  have lt : ∀ q ∈ l, q < u := fun q hq => by
    rcases (h.rng q hq).2 with h1 | ⟨h1, k', h2, h4⟩
    · exact h1
    · exfalso
      have e : P[k']? = P[k]? := by rw [h4, hu, h1]
      have := (List.getElem?_inj (get_lt h4) hP.nd).1 e
      omega
  refine ⟨List.pairwise_append.2 ⟨h.pw, by simp, fun a ha b hb => by obtain rfl := List.mem_singleton.1 hb; exact lt a ha⟩, fun q hq => ?_, by simp; omega, fun q hq => ?_⟩
  · rcases List.mem_append.1 hq with h1 | h1
    · exact ⟨(h.rng q h1).1, .inl (lt q h1)⟩
    · obtain rfl := List.mem_singleton.1 h1
      exact ⟨by omega, .inr ⟨rfl, k, by omega, hu⟩⟩
  · rcases List.mem_append.1 hq with h1 | h1
    · exact h.rk q h1
    · obtain rfl := List.mem_singleton.1 h1
      exact ⟨k, hk, hu⟩
noncomputable def Tryd.epW : EP := { P := Tryd.prog, G := G0, gd := fun _ => none, known := knownOf [] }
theorem Tryd.epW_ok : EOk Tryd.epW := .of_known (l := []) rfl G0_ok Tryd.mixed (fun _ _ h => by cases h) trivial
theorem Tryd.works_chk : chk Tryd.epW 1000000 14 [] (.lit (.bool true)) = true := by kernel_rfl
theorem works_ok (H : AHeap) (K : ARes → AHeap → Prop) (hK : K (.ret (.lit (.bool true))) H) : ACall Tryd.prog G0 14 [] H K :=
  (ACall.frame (args' := []) G0_ok rfl (fun i h _ => absurd h (Nat.not_lt_zero _)) (chk_ok Tryd.epW_ok Tryd.works_chk)).mono fun r H' ⟨h1, h2⟩ => by rw [h1, h2]; exact hK
structure D05 where
  g : Int
  ps : List DrP
  ord : List Int
def D05.val (d : D05) : AVal := draft05V d.g d.ps d.ord
structure D05.Ok (d : D05) : Prop where
  g : U8 d.g
  ps : ∀ x ∈ d.ps, x.Ok
  pl : (d.ps.length : Int) < 2 ^ 63
  ol : (d.ord.length : Int) < 2 ^ 63
  o8 : ∀ x ∈ d.ord, U8 x
end Go.Proofs
namespace Go.Proofs.YtikgmgmphkalkaaDoor
open Go.ChangeShapes Go.WideShapes Go.ChangeAt Go.RowKit Go.Hx
section
variable {W : World} {H : Type} {enc : TypeId × Value → H} {spare : Nat → Bool} {held : Bool}
theorem max63 {n : Nat} (h : n ≤ maxLen) : (n : Int) < 2 ^ 63 := by
  have : maxLen = 9223372036854775807 := by decide
  omega
theorem wfU {n : Int} (h : (Lit.int .u8 n).wf = true) : U8 n := by
  have := wf_u8 h
  unfold U8; omega
theorem wfU16 {n : Int} (h : (Lit.int .u16 n).wf = true) : 0 ≤ n ∧ n < 65536 := by
  have : 0 ≤ n ∧ n ≤ 65535 := by simpa [Lit.wf, IntKind.min, IntKind.max, IntKind.signed, IntKind.bits] using h
  omega
theorem opens_of {α : Type} {t e : TypeId} {f : α → List AVal} {q : α → Prop} (ht : Tryd.prog.underlying t = some (.slice e)) (hz : 0 < Tryd.prog.cellsOf e) (he : Opens enc Tryd.prog W spare held e fun _ zs => ∃ x : α, zs = f x ∧ q x) :
    Opens enc Tryd.prog W spare held t fun _ zs => ∃ l : List α, zs = [.vec l.length (l.map f).flatten] ∧ l.length ≤ maxLen ∧ ∀ x ∈ l, q x :=
  (opens_slice ht hz he).mono fun d zs h => by
    rcases h with ⟨_, rfl⟩ | ⟨ds, rest, rows, _, rfl, hr, _, hl⟩
    · exact ⟨[], rfl, Nat.zero_le _, fun c h => by cases h⟩
    · obtain ⟨l, rfl, hq⟩ := rows_each (f := f) (q := q) (fun d zs h => h) hr
      exact ⟨l, by rw [List.length_map], by simpa using hl, hq⟩
theorem opens_five : Opens enc Tryd.prog W spare held 112 fun _ zs => ∃ l : List Int, zs = bytesL l ∧ l.length = 5 ∧ ∀ x ∈ l, U8 x :=
  (opens_intArr Tryd.underlying112 Tryd.underlying5 Tryd.cells5 (by kernel_rfl)).mono fun _ _ ⟨l, h1, h2, h3⟩ => ⟨l, h1, h2, fun c hc => wfU (h3 c hc)⟩
theorem opens_D25 : Opens enc Tryd.prog W spare held 37 fun _ zs => ∃ d : D25, zs = d.cells ∧ d.Ok := by
  have hu := Tryd.underlying37
  have c1 := Tryd.cells5
  have c2 := Tryd.cells23
  have c3 := Tryd.cells35
  have c4 : Tryd.prog.cellsOf 112 = 5 := by kernel_rfl
  refine (opens_struct (φ := fun i _ xs => if i = 1 then ∃ l : List (List Int), xs = [.vec l.length (l.map bytesL).flatten] ∧ l.length ≤ maxLen ∧ ∀ r ∈ l, r.length = 5 ∧ ∀ x ∈ r, U8 x else if i = 2 then ∃ n, xs = [.lit (.int .u8 n)] ∧ (Lit.int .u8 n).wf = true else ∃ l : List Int, xs = [.vec l.length (intL .u8 l)] ∧ l.length ≤ maxLen ∧ ∀ c, c ∈ l → (Lit.int .u8 c).wf = true) hu
    (fun cs hcs => by
      have hc : Tryd.prog.cellsOf 37 = 4 := by kernel_rfl
      rw [hc] at hcs
      match cs, hcs with
      | [a, b, c, d], _ => simp [c1, c2, c3])
    (fun i hi => match i, hi with
      | 0, _ => (opens_ints Tryd.underlying23 Tryd.underlying5 c1).mono fun _ _ h => h
      | 1, _ => (opens_of Tryd.underlying35 (by rw [c4]; decide) opens_five).mono fun _ _ h => h
      | 2, _ => (opens_int Tryd.underlying5).mono fun _ _ ⟨n, _, h, w⟩ => ⟨n, h, w⟩
      | 3, _ => (opens_ints Tryd.underlying23 Tryd.underlying5 c1).mono fun _ _ h => h)).mono fun d zs ⟨ds, rows, _, e, hl1, hl2, hall⟩ => ?_
  match rows, ds, hl2, hl1, hall with
  | [x, y, z, u], [d0, d1, d2, d3], _, _, hall =>
    obtain ⟨l0, e0, w0, v0⟩ := hall 0 (by simp) (by simp)
    obtain ⟨l1, e1, w1, v1⟩ := hall 1 (by simp) (by simp)
    obtain ⟨n2, e2, w2⟩ := hall 2 (by simp) (by simp)
    obtain ⟨l3, e3, w3, v3⟩ := hall 3 (by simp) (by simp)
    simp only [List.getElem_cons_zero, List.getElem_cons_succ] at e0 e1 e2 e3
    subst e0; subst e1; subst e2; subst e3
    exact ⟨⟨l0, l1, n2, l3⟩, by rw [e]; rfl, ⟨max63 w0, fun c hc => wfU (v0 c hc), max63 w1, v1, wfU w2, max63 w3, fun c hc => wfU (v3 c hc)⟩⟩
theorem arg_d25 {r : Reach} {b : Nat} {v : Value} {d : DataW H} {ps : List MemPlace} (hval : Value.okWide Tryd.prog W r b 37 v) (hd : DataW.Trod enc Tryd.prog W 0 spare held 37 v d ps) :
    ∃ x : D25, RelV Tryd.prog noG noH W (.agg x.cells) v ∧ x.Ok := by
  obtain ⟨xs, h1, x, rfl, h2⟩ := arg_agg opens_D25 (.inl ⟨_, Tryd.underlying37⟩) hval hd
  exact ⟨x, h1, h2⟩
end
end Go.Proofs.YtikgmgmphkalkaaDoor
