/-
  Regions that draw their order: the rule. Own work: no program stands in this text.
-/
import Derived.Test.YtcccmbeolcjacaaHxR
namespace Go.Hx
variable {P : Program} {G : Nat → Option (List AVal)} {Γ Γ' : Gam} {H H' : AHeap} {w w' : World}

/-! ### the static side, as it is used -/

structure Static (all : Array Oper) (bs : List Nat) (K : Nat) : Prop where
  len : bs.length = K
  le : K ≤ all.size
  down : ∀ i o, all[i]? = some o → ∀ e, e ∈ o.after → Region.binds .any e = true → e.on < i
  just : ∀ i o j, all[i]? = some o → (if i < K then (bitAt bs i).testBit j = true else j < i) → ∃ e, e ∈ o.after ∧ Region.binds .any e = true ∧ (e.on = j ∨ (if e.on < K then (bitAt bs e.on).testBit j = true else j < e.on))
  apart : ∀ i j oi oj, i < K → j < i → all[i]? = some oi → all[j]? = some oj → (bitAt bs i).testBit j = false → apartO all oj oi = true

theorem mem_binding {o : Oper} {k : Nat} : k ∈ binding o ↔ ∃ e, e ∈ o.after ∧ Region.binds .any e = true ∧ e.on = k := by
  simp [binding, and_assoc]

theorem bitAt_app {bs : List Nat} {K N i j : Nat} (hl : bs.length = K) (hi : i < N) (hK : K ≤ N) :
    (bitAt (bs ++ (List.range' K (N - K)).map fun m => 2 ^ m - 1) i).testBit j = true ↔ (if i < K then (bitAt bs i).testBit j = true else j < i) := by
  unfold bitAt
  by_cases h : i < K
  · rw [if_pos h, List.getElem?_append_left (by omega)]
  · rw [if_neg h, List.getElem?_append_right (by omega), List.getElem?_map, List.getElem?_range' (by omega)]
    simp only [Option.map_some, Option.getD_some, Nat.testBit_two_pow_sub_one, decide_eq_true_eq]
    have : K + 1 * (i - bs.length) = i := by omega
    rw [this]

theorem drawOk_spec {all : Array Oper} {bs : List Nat} {K : Nat} (h : drawOk all bs K = true) : Static all bs K := by
  unfold drawOk at h
  simp only [Bool.and_eq_true, decide_eq_true_eq, List.all_eq_true, List.mem_range] at h
  obtain ⟨⟨⟨hlen, hle⟩, hone⟩, hap⟩ := h
  have hlt : ∀ i o, all[i]? = some o → i < all.size := fun i o ho => (Array.getElem?_eq_some_iff.1 ho).1
  have hdown : ∀ i o, all[i]? = some o → ∀ e, e ∈ o.after → Region.binds .any e = true → e.on < i := by
    intro i o ho e he hb
    have h1 := hone i (hlt i o ho)
    rw [ho] at h1
    simp only [checkOne, Bool.and_eq_true, List.all_eq_true, decide_eq_true_eq] at h1
    exact h1.1.1 e.on (mem_binding.2 ⟨e, he, hb, rfl⟩)
  refine ⟨hlen, hle, hdown, ?_, ?_⟩
  · intro i o j ho hj
    have hi := hlt i o ho
    have h1 := hone i hi
    rw [ho] at h1
    simp only [checkOne, Bool.and_eq_true, List.all_eq_true, decide_eq_true_eq, List.mem_range] at h1
    obtain ⟨⟨_, hb⟩, h2⟩ := h1
    have hbit := (bitAt_app (j := j) hlen hi hle).2 hj
    have hji : j < i := by
      rcases Nat.lt_or_ge j i with h | h
      · exact h
      · have := Nat.testBit_lt_two_pow (Nat.lt_of_lt_of_le hb (Nat.pow_le_pow_right (by omega) h))
        rw [hbit] at this
        cases this
    have h3 := h2 j hji
    rw [hbit] at h3
    simp only [Bool.not_true, Bool.false_or, List.any_eq_true, Bool.or_eq_true, beq_iff_eq] at h3
    obtain ⟨k, hk, h4⟩ := h3
    obtain ⟨e, he, hbe, rfl⟩ := mem_binding.1 hk
    refine ⟨e, he, hbe, h4.imp id fun h5 => ?_⟩
    exact (bitAt_app (j := j) hlen (Nat.lt_trans (hdown i o ho e he hbe) hi) hle).1 h5
  · intro i j oi oj hi hj hoi hoj hbit
    have h1 := hap i hi
    rw [hoi] at h1
    simp only [List.all_eq_true, List.mem_range] at h1
    have h2 := h1 j hj
    rw [hbit, hoj] at h2
    simpa using h2

theorem noDst_spec {x : Option Tmp} {l : List Tmp} {t : Tmp} (h : noDst x l = true) (hx : x = some t) : t ∉ l := by
  subst hx
  simpa [noDst] using h

theorem apartO_spec {all : Array Oper} {x y : Oper} (h : apartO all x y = true) : (∀ t, x.dst = some t → t ∉ y.looksAt all) ∧ (∀ t, y.dst = some t → t ∉ x.looksAt all) ∧ (∀ t, x.dst = some t → y.dst ≠ some t) := by
  simp only [apartO, Bool.and_eq_true] at h
  obtain ⟨⟨h1, h2⟩, h3⟩ := h
  refine ⟨fun t ht => noDst_spec h1 ht, fun t ht => noDst_spec h2 ht, fun t ht => ?_⟩
  rw [ht] at h3
  simpa using h3

/-- What is listed holds all that stands ahead of what is listed. -/
def ClosedB (all : Array Oper) (L : Nat → Bool) : Prop := ∀ i o, L i = true → all[i]? = some o → ∀ e, e ∈ o.after → Region.binds .any e = true → L e.on = true

theorem Static.ahead {all : Array Oper} {bs : List Nat} {K : Nat} (S : Static all bs K) {L : Nat → Bool} (hL : ClosedB all L) : ∀ i o j, all[i]? = some o → (∀ e, e ∈ o.after → Region.binds .any e = true → L e.on = true) →
    (if i < K then (bitAt bs i).testBit j = true else j < i) → L j = true := by
  intro i
  induction i using Nat.strongRecOn with
  | _ i ih =>
    intro o j ho hdir hj
    obtain ⟨e, he, hb, h⟩ := S.just i o j ho hj
    have hon := hdir e he hb
    rcases h with rfl | h
    · exact hon
    · have hlt := S.down i o ho e he hb
      have hi := (Array.getElem?_eq_some_iff.1 ho).1
      exact ih e.on hlt all[e.on] j (Array.getElem?_eq_getElem (by omega)) (hL e.on _ hon (Array.getElem?_eq_getElem (by omega))) h

/-! ### places laid by -/

def resv (H : AHeap) (k : Nat) : AHeap := ⟨fun j => if H.next ≤ j ∧ j < H.next + k then some .rsv else H.get j, H.next + k⟩

theorem resv_evo (H : AHeap) (k : Nat) : Evo Γ H w Γ (resv H k) w where
  os := rfl
  tape := rfl
  output := rfl
  size := Nat.le_refl _
  keep := fun _ _ h => ⟨rfl, h⟩
  live := fun id h1 _ x' hx => by
    refine ⟨x', ?_, Blk.le_refl _ _ _⟩
    simp only [resv] at hx
    rw [if_neg (by omega)] at hx
    exact hx
  frz := fun _ => rfl

theorem drawn_evo (w : World) : Evo Γ H w Γ H { w with drawn := w.drawn + 1 } where
  os := rfl
  tape := rfl
  output := rfl
  size := Nat.le_refl _
  keep := fun _ _ h => ⟨rfl, h⟩
  live := fun _ _ _ x' hx => ⟨x', hx, Blk.le_refl _ _ _⟩
  frz := fun _ => rfl

theorem RelH.move (R : RelH P G Γ H w) (hheap : w'.heap = w.heap) (E : Evo Γ H w Γ H' w') (hn : H.next ≤ H'.next) (hget : ∀ id b, H'.get id = some b → H.get id = some b ∨ (b = .rsv ∧ H.get id = none ∧ id < H'.next)) (hsame : ∀ id b, H.get id = some b → H'.get id = some b) : RelH P G Γ H' w' where
  arr id g e cells hg := by
    rcases hget _ _ hg with h | h
    · have h1 := R.arr id g e cells h
      cases hΓ : Γ id with
      | none => rw [hΓ] at h1; exact h1
      | some y =>
        obtain ⟨b, base, n⟩ := y
        rw [hΓ] at h1
        obtain ⟨c, a1, a2, a3, a4⟩ := h1
        exact ⟨c, by rw [hheap]; exact a1, a2, a3, fun i hi => let ⟨cv, b1, b2⟩ := a4 i hi; ⟨cv, b1, b2.evo E hn⟩⟩
    · cases h.1
  loop id st pend n env ps asg body hg := by
    rcases hget _ _ hg with h | h
    · obtain ⟨b, rr, a1, a2, a3, a4, a5, a6, a7, a8, a9⟩ := R.loop id st pend n env ps asg body h
      exact ⟨b, rr, a1, by rw [hheap]; exact a2, a3, a4, a5, a6, a7, a8, fun t ht => (a9 t ht).evo E hn⟩
    · cases h.1
  rsv id hg := by
    rcases hget _ _ hg with h | h
    · exact R.rsv id h
    · cases hΓ : Γ id with
      | none => rfl
      | some x =>
        obtain ⟨y, hy⟩ := R.dom id x hΓ
        rw [h.2.1] at hy
        cases hy
  inj := R.inj
  dom id x h := let ⟨y, hy⟩ := R.dom id x h; ⟨y, hsame _ _ hy⟩
  lt id b base n h := by rw [hheap]; exact R.lt id b base n h
  next id y h := by
    rcases hget _ _ h with h | h
    · exact Nat.lt_of_lt_of_le (R.next id y h) hn
    · exact h.2.2
  glob g cells h := (R.glob g cells h).evo E hn

theorem resv_rel (R : RelH P G Γ H w) (k : Nat) : RelH P G Γ (resv H k) w := by
  have hnone : ∀ id, H.next ≤ id → H.get id = none := by
    intro id h
    cases hg : H.get id with
    | none => rfl
    | some y => have := R.next id y hg; omega
  refine R.move rfl (resv_evo H k) (by simp [resv]) (fun id b hb => ?_) (fun id b hb => ?_)
  · simp only [resv] at hb
    split at hb
    · rename_i hc
      simp only [Option.some.injEq] at hb
      exact .inr ⟨hb.symm, hnone id hc.1, hc.2⟩
    · exact .inl hb
  · simp only [resv]
    rw [if_neg]
    · exact hb
    · have := R.next id b hb; omega

theorem RelS.move {n wb : Nat} {s : St} {a : Act} (hs : RelS P G n wb Γ s a w) {H' : AHeap} (E : Evo Γ s.H w Γ H' w') (hn : s.H.next ≤ H'.next) (R : RelH P G Γ H' w') : RelS P G n wb Γ ⟨s.ρ, H'⟩ a w' :=
  ⟨hs.size, fun t => (hs.env t).evo E hn, R, fun d h => let ⟨r, h1, h2, h3⟩ := hs.defers d h; ⟨r, h1, h2, h3.evo E⟩, hs.nodup, Nat.le_trans hs.low E.size⟩

theorem RdOk.move {rd rb : Option Nat} (h : RdOk Γ H rd rb) (hk : ∀ id b, H.get id = some b → H'.get id = some b) : RdOk Γ H' rd rb := by
  cases rd with
  | none => exact h
  | some id =>
    obtain ⟨b, st, pend, n, env, ps, asg, body, h1, h2, h3⟩ := h
    exact ⟨b, _, _, _, _, _, _, _, h1, h2, hk _ _ h3⟩

/-! ### the state after some of the operations -/

def stD (all : Array Oper) (d : Nat → Dt) (s0 : St) (K : Nat) (D : Nat → Bool) : St :=
  ⟨envAt all d s0.ρ K D, ⟨getAt d (resv s0.H (nal d K)).get K D, s0.H.next + nal d K⟩⟩

theorem dst_of {all : Array Oper} {j : Nat} {o : Oper} (h : all[j]? = some o) : dstAt all j = o.dst := by simp [dstAt, h]

theorem step_D {all : Array Oper} {bs : List Nat} {K : Nat} (S : Static all bs K) {d : Nat → Dt} {s0 : St} (hg : ∀ i, i < K → GoodAt P G all bs s0 d i) {D : Nat → Bool} {i : Nat} {o : Oper} (hi : i < K) (ho : all[i]? = some o) (hDi : D i = false)
    (hdown : ∀ j, j < i → (bitAt bs i).testBit j = true → D j = true) (hup : ∀ j, i < j → j < K → D j = true → (bitAt bs j).testBit i = false) :
    ExecOk P G all o (s0.H.next + nal d i) (stD all d s0 K D) (stD all d s0 K (withI D i)) := by
  have hget : ∀ j, j < K → ∃ oj, all[j]? = some oj := fun j hj => ⟨_, Array.getElem?_eq_getElem (Nat.lt_of_lt_of_le hj S.le)⟩
  have hgi := hg i hi
  have tgtE : ∀ j r, j < K → tgt (d j) = some r → r ∈ (d j).f.eff ∧ (((d j).al = true ∧ r = s0.H.next + nal d j) ∨ ((d j).al = false ∧ r ∈ (d j).f.rs)) := by
    intro j r hj ht
    unfold tgt at ht
    cases he : (d j).e with
    | none => rw [he] at ht; cases ht
    | some kb =>
      obtain ⟨k, b⟩ := kb
      rw [he] at ht
      simp only [Option.map_some, Option.some.injEq] at ht
      subst ht
      obtain ⟨h1, h2⟩ := (hg j hj).eff k b he
      refine ⟨h1, ?_⟩
      cases hal : (d j).al with
      | true =>
        obtain ⟨b', hb'⟩ := (hg j hj).al hal
        rw [he] at hb'
        simp only [Option.some.injEq, Prod.mk.injEq] at hb'
        exact .inl ⟨rfl, hb'.1⟩
      | false => exact .inr ⟨rfl, h2 hal⟩
  have rangeK : ∀ r, r < s0.H.next + nal d i → ((resv s0.H (nal d K)).get r = s0.H.get r ∨ ∃ j, j < i ∧ (fun _ : Nat => true) j = true ∧ tgt (d j) = some r) := by
    intro r hr
    by_cases h : s0.H.next ≤ r
    · obtain ⟨j, h1, h2, h3⟩ := nal_hit (d := d) (n := i) (c := r - s0.H.next) (by omega)
      obtain ⟨b, hb⟩ := (hg j (by omega)).al h2
      refine .inr ⟨j, h1, rfl, ?_⟩
      unfold tgt
      rw [hb, h3]
      simp only [Option.map_some, Option.some.injEq]
      omega
    · left
      simp only [resv]
      rw [if_neg (by omega)]
  have henv : ∀ t, t ∈ o.looksAt all → envAt all d s0.ρ K D t = (canon all d s0 i).ρ t := by
    intro t ht
    show _ = envAt all d s0.ρ i (fun _ => true) t
    rw [← envAt_cut (all := all) (d := d) (ρ0 := s0.ρ) (m := i) (n := K) (by omega)]
    refine envAt_agree fun j hj hdj => ?_
    obtain ⟨oj, hoj⟩ := hget j hj
    rw [dst_of hoj] at hdj
    rcases Nat.lt_trichotomy j i with h | rfl | h
    · cases hb : (bitAt bs i).testBit j with
      | true => rw [hdown j h hb]; simp [h]
      | false => exact absurd ht ((apartO_spec (S.apart i j o oj hi h ho hoj hb)).1 t hdj)
    · rw [hDi]; simp
    · cases hD : D j with
      | false => symm; simp; omega
      | true => exact absurd ht ((apartO_spec (S.apart j i oj o hj h hoj ho (hup j h hj hD))).2.1 t hdj)
  have hheap : ∀ r, r ∈ (d i).f.rs → getAt d (resv s0.H (nal d K)).get K D r = (canon all d s0 i).H.get r := by
    intro r hr
    show _ = getAt d s0.H.get i (fun _ => true) r
    rw [← getAt_base (g0 := (resv s0.H (nal d K)).get) (rangeK r (hgi.lt r hr)), ← getAt_cut (m := i) (n := K) (by omega)]
    refine getAt_agree fun j hj ht => ?_
    obtain ⟨he, _⟩ := tgtE j r hj ht
    rcases Nat.lt_trichotomy j i with h | rfl | h
    · cases hb : (bitAt bs i).testBit j with
      | true => rw [hdown j h hb]; simp [h]
      | false => exact absurd hr ((hgi.apart j h hb).2 r he)
    · rw [hDi]; simp
    · cases hD : D j with
      | false => symm; simp; omega
      | true => exact absurd hr (((hg j hj).apart i h (hup j h hj hD)).1 r he)
  have hal : (d i).al = true → getAt d (resv s0.H (nal d K)).get K D (s0.H.next + nal d i) = some .rsv ∧ s0.H.next + nal d i ≠ s0.H.next + nal d K := by
    intro hal
    have hlt := nal_lt hi hal
    refine ⟨?_, by omega⟩
    obtain ⟨b, hb⟩ := hgi.al hal
    have heff := (hgi.eff _ _ hb).1
    rw [getAt_none]
    · simp only [resv]
      rw [if_pos (by omega)]
    · intro j hj hD ht
      obtain ⟨h1, h2⟩ := tgtE j _ hj ht
      rcases Nat.lt_trichotomy j i with h | rfl | h
      · rcases h2 with ⟨h2, h3⟩ | ⟨h2, h3⟩
        · have := nal_lt h h2; omega
        · have := (hg j hj).lt _ h3
          have := nal_mono (d := d) (Nat.le_of_lt h)
          omega
      · rw [hDi] at hD; cases hD
      · rcases h2 with ⟨h2, h3⟩ | ⟨h2, h3⟩
        · have := nal_lt h hal; omega
        · exact absurd h3 (((hg j hj).apart i h (hup j h hj hD)).2 _ heff)
  have := hgi.step o ho (envAt all d s0.ρ K D) ⟨getAt d (resv s0.H (nal d K)).get K D, s0.H.next + nal d K⟩ henv hheap hal (by have := nal_mono (d := d) (Nat.le_of_lt hi); simp only; omega)
  have e1 : envAt all d s0.ρ K (withI D i) = putA (envAt all d s0.ρ K D) o.dst (d i).v := by
    rw [envAt_with hDi hi, dst_of ho]
    intro j h hj hD t hti
    obtain ⟨oj, hoj⟩ := hget j hj
    rw [dst_of ho] at hti
    rw [dst_of hoj]
    exact (apartO_spec (S.apart j i oj o hj h hoj ho (hup j h hj hD))).2.2 t hti
  have e2 : getAt d (resv s0.H (nal d K)).get K (withI D i) = effGet (d i).e (getAt d (resv s0.H (nal d K)).get K D) := by
    refine getAt_with hDi hi fun j h hj hD r hti htj => ?_
    obtain ⟨a1, a2⟩ := tgtE i r hi hti
    obtain ⟨b1, b2⟩ := tgtE j r hj htj
    obtain ⟨c1, c2⟩ := (hg j hj).apart i h (hup j h hj hD)
    rcases b2 with ⟨b2, b3⟩ | ⟨b2, b3⟩
    · rcases a2 with ⟨a2, a3⟩ | ⟨a2, a3⟩
      · have := nal_lt h a2; omega
      · exact c1 r b1 a3
    · exact c2 r a1 b3
  unfold stD
  rw [e1, e2]
  exact this

theorem stD_all {all : Array Oper} {bs : List Nat} {K : Nat} {d : Nat → Dt} {s0 : St} (hg : ∀ i, i < K → GoodAt P G all bs s0 d i) {D : Nat → Bool} (hD : ∀ j, j < K → D j = true) : stD all d s0 K D = canon all d s0 K := by
  unfold stD canon canonH
  have e1 : envAt all d s0.ρ K D = envAt all d s0.ρ K fun _ => true := funext fun t => envAt_agree fun j hj _ => hD j hj
  have e2 : getAt d (resv s0.H (nal d K)).get K D = getAt d s0.H.get K fun _ => true := by
    funext r
    rw [getAt_agree (D' := fun _ => true) fun j hj _ => hD j hj]
    refine getAt_base ?_
    by_cases h : s0.H.next ≤ r ∧ r < s0.H.next + nal d K
    · obtain ⟨j, h1, h2, h3⟩ := nal_hit (d := d) (n := K) (c := r - s0.H.next) (by omega)
      obtain ⟨b, hb⟩ := (hg j h1).al h2
      refine .inr ⟨j, h1, rfl, ?_⟩
      unfold tgt
      rw [hb, h3]
      simp only [Option.map_some, Option.some.injEq]
      omega
    · left
      simp only [resv]
      rw [if_neg h]
  rw [e1, e2]

theorem stD_none {all : Array Oper} {K : Nat} {d : Nat → Dt} {s0 : St} {D : Nat → Bool} (hD : ∀ j, j < K → D j = false) : stD all d s0 K D = ⟨s0.ρ, resv s0.H (nal d K)⟩ := by
  unfold stD
  have e1 : ∀ n, n ≤ K → envAt all d s0.ρ n D = s0.ρ := by
    intro n
    induction n with
    | zero => intro _; rfl
    | succ n ih => intro h; simp only [envAt]; rw [if_neg (by simp [hD n h])]; exact ih (by omega)
  have e2 : ∀ n, n ≤ K → getAt d (resv s0.H (nal d K)).get n D = (resv s0.H (nal d K)).get := by
    intro n
    induction n with
    | zero => intro _; rfl
    | succ n ih => intro h; simp only [getAt]; rw [if_neg (by simp [hD n h])]; exact ih (by omega)
  rw [e1 K (Nat.le_refl _), e2 K (Nat.le_refl _)]
  rfl

end Go.Hx
