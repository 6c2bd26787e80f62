/-
  Regions that draw their order: the rule, last part. Own work: no program stands in this text.
-/
import Derived.Test.YtcccmbeolcjacaaHxT
namespace Go.Hx
variable {P : Program} {G : Nat → Option (List AVal)} {Γ Γ' : Gam} {H H' : AHeap} {w w' : World}

def cnt (listed : Array Bool) : Nat → Nat
  | 0 => 0
  | n + 1 => cnt listed n + (if listed.getD n true = false then 1 else 0)

theorem cnt_set {listed : Array Bool} {i : Nat} (hi : listed.getD i true = false) : ∀ n, cnt (listed.setIfInBounds i true) n + (if i < n then 1 else 0) = cnt listed n := by
  have hsz : i < listed.size := by
    rcases Nat.lt_or_ge i listed.size with h | h
    · exact h
    · rw [Array.getD_eq_getD_getElem?, Array.getElem?_eq_none h] at hi; cases hi
  intro n
  induction n with
  | zero => simp [cnt]
  | succ n ih =>
    simp only [cnt]
    by_cases hin : n = i
    · subst hin
      have : (listed.setIfInBounds n true).getD n true = true := by simp [hsz]
      have h2 : (if n < n then 1 else 0) = 0 := if_neg (Nat.lt_irrefl n)
      have h3 : (if n < n + 1 then 1 else 0) = 1 := if_pos (Nat.lt_succ_self n)
      rw [h2] at ih
      rw [this, h3, hi]
      simp
      omega
    · rw [getD_set_ne true (Ne.symm hin)]
      have h4 : (if i < n + 1 then 1 else 0) = (if i < n then 1 else 0) := by
        by_cases h : i < n
        · rw [if_pos h, if_pos (show i < n + 1 by omega)]
        · rw [if_neg h, if_neg (show ¬ i < n + 1 by omega)]
      rw [h4]
      generalize (if i < n then 1 else 0) = x at ih ⊢
      omega

theorem cnt_zero {listed : Array Bool} {n : Nat} (h : cnt listed n = 0) : ∀ j, j < n → listed.getD j true = true := by
  induction n with
  | zero => intro j hj; omega
  | succ n ih =>
    simp only [cnt] at h
    intro j hj
    by_cases hjn : j = n
    · subst hjn
      cases hl : listed.getD j true with
      | true => rfl
      | false => rw [hl] at h; simp at h
    · exact ih (by omega) j (by omega)

theorem cnt_full {n : Nat} : ∀ m, m ≤ n → cnt (Array.replicate n false) m = m := by
  intro m
  induction m with
  | zero => intro _; rfl
  | succ m ih =>
    intro h
    simp only [cnt]
    rw [ih (by omega), if_pos]
    rw [Array.getD_eq_getD_getElem?, Array.getElem?_replicate, if_pos (by omega)]
    rfl

theorem getD_in {listed : Array Bool} {i : Nat} (h : i < listed.size) (x y : Bool) : listed.getD i x = listed.getD i y := by
  simp [Array.getD_eq_getD_getElem?, Array.getElem?_eq_getElem h]

section
variable {n wb : Nat} {rd rb : Option Nat} {Q : AX → St → Prop} {all : Array Oper} {bs : List Nat} {K : Nat} {id : Nat} {dr : Bool}

/-- What comes last, each after all that stand ahead. -/
theorem tail_go (S : Static all bs K) (hfit : ∀ o, o ∈ all.toList → dstOk n o = true) : ∀ (r m : Nat) (listed : Array Bool) (s : St) (Γ : Gam) (a : Act) (w : World), r + m = all.size → K ≤ m → listed.size = all.size → cnt listed all.size = r →
    (∀ j, j < all.size → (listed.getD j true = true ↔ j < m)) → opsV P G rd Q all (all.toList.drop m) s → RelS P G n wb Γ s a w → RdOk Γ s.H rd rb →
    ∀ (Q' : Exit → Act → World → Prop), (∀ e a' w', WPost P G n wb rd rb (wr (.region id all dr)) Γ s.H a w Q e a' w' → Q' e a' w') → wpAnyIn (fenceOf rb) 0 P .any all Q' r listed a w := by
  intro r
  induction r with
  | zero =>
    intro m listed s Γ a w hm hKm hsz hc hl h hs hr Q' hq
    have : all.toList.drop m = [] := List.drop_eq_nil_of_le (by simp; omega)
    rw [this] at h
    refine ⟨?_, hq _ _ _ (.here (x := .normal) trivial h hs hr)⟩
    rw [List.eq_nil_iff_forall_not_mem]
    intro j hj
    obtain ⟨h1, o, ho, _⟩ := mem_ready.1 hj
    have hjs := (Array.getElem?_eq_some_iff.1 ho).1
    rw [(hl j hjs).2 (by omega)] at h1
    cases h1
  | succ r ih =>
    intro m listed s Γ a w hm hKm hsz hc hl h hs hr Q' hq
    have hms : m < all.size := by omega
    have ho : all[m]? = some all[m] := Array.getElem?_eq_getElem hms
    have hmun : listed.getD m true = false := by
      cases hx : listed.getD m true with
      | false => rfl
      | true => have := (hl m hms).1 hx; omega
    have hready : m ∈ Region.ready .any all listed := by
      refine mem_ready.2 ⟨hmun, _, ho, fun e he hb => ?_⟩
      have := S.down m _ ho e he hb
      rw [getD_in (by omega) false true]
      exact (hl e.on (by omega)).2 this
    refine ⟨fun h0 => (by rw [h0] at hready; cases hready), fun i hi => ?_⟩
    obtain ⟨hiun, oi, hoi, hall⟩ := mem_ready.1 hi
    have his := (Array.getElem?_eq_some_iff.1 hoi).1
    have him : m ≤ i := by
      rcases Nat.lt_or_ge i m with h | h
      · rw [(hl i his).2 h] at hiun; cases hiun
      · exact h
    have hL : ClosedB all fun j => listed.getD j false := by
      intro k ok hk hok e he hb
      have hks := (Array.getElem?_eq_some_iff.1 hok).1
      have h1 := S.down k ok hok e he hb
      simp only at hk ⊢
      rw [getD_in (by omega) false true] at hk ⊢
      have := (hl k hks).1 hk
      exact (hl _ (by omega)).2 (by omega)
    have hieq : i = m := by
      rcases Nat.lt_or_ge m i with h | h
      · have h1 := S.ahead hL i oi m hoi hall (by rw [if_neg (by omega)]; exact h)
        rw [getD_in (by omega) false true, hmun] at h1
        cases h1
      · omega
    subst hieq
    have hlist : all.toList.drop i = all[i] :: all.toList.drop (i + 1) := by
      rw [List.drop_eq_getElem_cons (by simpa using hms)]
      simp
    rw [hlist] at h
    simp only [opsV] at h
    have hl' : ∀ j, j < all.size → ((listed.setIfInBounds i true).getD j true = true ↔ j < i + 1) := by
      intro j hj
      by_cases hji : j = i
      · subst hji
        simp
      · rw [getD_set_ne true (Ne.symm hji), hl j hj]
        omega
    have hc' : cnt (listed.setIfInBounds i true) all.size = r := by
      have := cnt_set hmun all.size
      rw [if_pos hms] at this
      omega
    have hd := hfit all[i] (by simp)
    obtain ⟨t, ht, h⟩ := h
    unfold wpOpIn
    rw [ho]
    simp only
    rw [want_sound hs ht]
    cases t with
    | true =>
      simp only [if_true] at h ⊢
      refine opV_sound hd hs hr h ?_ ?_
      · rintro Γ' s' a' w' hk hs' E hn hr' ⟨cv, rfl⟩
        exact ih (i + 1) _ s' Γ' _ w' (by omega) (by omega) (by simpa using hsz) hc' hl' hk hs' hr' Q' fun e a'' w'' hp => hq _ _ _ (hp.step E hn (put_fr hms cv) fun _ h => h)
      · rintro Γ' s' a' w' chain hp hc hs' E hn hr' rfl
        exact hq _ _ _ ⟨.panic, s', Γ', hc, hp, hs', E, hn, hr', .refl _ _⟩
    | false =>
      simp only [Bool.false_eq_true, if_false] at h ⊢
      refine ⟨fun _ _ => trivial, ?_⟩
      have hdst : ∀ d, all[i].dst = some d → d < n := by
        intro d hd'
        unfold dstOk at hd
        rw [hd'] at hd
        simpa using hd
      have hs' := put_rel (v := .lit undef) (cv := undef) hs hdst (Evo.refl Γ s.H w) (Nat.le_refl _) hs.heap (.lit _)
      exact ih (i + 1) _ ⟨putA s.ρ all[i].dst (.lit undef), s.H⟩ Γ _ w (by omega) (by omega) (by simpa using hsz) hc' hl' h hs' hr Q' fun e a'' w'' hp => hq _ _ _ (hp.step (Evo.refl _ _ _) (Nat.le_refl _) (put_fr hms _) fun _ h => h)

theorem draw_go (S : Static all bs K) (hfit : ∀ o, o ∈ all.toList → dstOk n o = true) {d : Nat → Dt} {s0 : St} (hg : ∀ i, i < K → GoodAt P G all bs s0 d i) (htail : opsV P G rd Q all (all.toList.drop K) (canon all d s0 K)) :
    ∀ (r : Nat) (listed : Array Bool) (D : Nat → Bool) (Γ : Gam) (a : Act) (w : World), listed.size = all.size → cnt listed all.size = r → (∀ j, j < all.size → listed.getD j true = D j) → (∀ j, D j = true → j < K) → ClosedB all D →
    RelS P G n wb Γ (stD all d s0 K D) a w → RdOk Γ (stD all d s0 K D).H rd rb →
    ∀ (Q' : Exit → Act → World → Prop), (∀ e a' w', WPost P G n wb rd rb (wr (.region id all dr)) Γ (stD all d s0 K D).H a w Q e a' w' → Q' e a' w') → wpAnyIn (fenceOf rb) 0 P .any all Q' r listed a w := by
  intro r
  induction r with
  | zero =>
    intro listed D Γ a w hsz hc hl hlow hL hs hr Q' hq
    have hall : ∀ j, j < K → D j = true := fun j hj => by rw [← hl j (Nat.lt_of_lt_of_le hj S.le)]; exact cnt_zero hc j (Nat.lt_of_lt_of_le hj S.le)
    have hKs : K = all.size := by
      rcases Nat.lt_or_ge K all.size with h | h
      · have h1 := cnt_zero hc K h
        rw [hl K h] at h1
        have := hlow K h1
        omega
      · have := S.le; omega
    rw [stD_all hg hall] at hs hr hq
    exact tail_go S hfit 0 K listed _ Γ a w (by omega) (Nat.le_refl _) hsz hc (fun j hj => by rw [hl j hj]; exact ⟨hlow j, hall j⟩) htail hs hr Q' hq
  | succ r ih =>
    intro listed D Γ a w hsz hc hl hlow hL hs hr Q' hq
    by_cases hall : ∀ j, j < K → D j = true
    · rw [stD_all hg hall] at hs hr hq
      have hcount : ∀ m, m ≤ all.size → cnt listed m = m - K := by
        intro m
        induction m with
        | zero => intro _; simp [cnt]
        | succ m ihm =>
          intro hm
          simp only [cnt]
          rw [ihm (by omega), hl m (by omega)]
          by_cases hmK : m < K
          · rw [hall m hmK]; simp; omega
          · have : D m = false := by
              cases hD : D m with
              | false => rfl
              | true => exact absurd (hlow m hD) hmK
            rw [this]
            simp
            omega
      have h1 := hcount all.size (Nat.le_refl _)
      exact tail_go S hfit (r + 1) K listed _ Γ a w (by have := S.le; omega) (Nat.le_refl _) hsz hc (fun j hj => by rw [hl j hj]; exact ⟨hlow j, hall j⟩) htail hs hr Q' hq
    · have hex : ∃ j, j < K ∧ D j = false := by
        by_cases h : ∃ j, j < K ∧ D j = false
        · exact h
        · refine absurd (fun j hj => ?_) hall
          cases hD : D j with
          | true => rfl
          | false => exact absurd ⟨j, hj, hD⟩ h
      have least : ∀ k, (∃ j, j < k ∧ j < K ∧ D j = false) → ∃ j, j < K ∧ D j = false ∧ ∀ i, i < j → D i = true := by
        intro k
        induction k with
        | zero => rintro ⟨j, hj, _⟩; omega
        | succ k ihk =>
          rintro ⟨j, h1, h2, h3⟩
          by_cases h : ∃ j, j < k ∧ j < K ∧ D j = false
          · exact ihk h
          · refine ⟨j, h2, h3, fun i hi => ?_⟩
            cases hD : D i with
            | true => rfl
            | false => exact absurd ⟨i, by omega, by omega, hD⟩ h
      obtain ⟨j0, hj0K, hj0, hbelow⟩ := least K (let ⟨j, h1, h2⟩ := hex; ⟨j, h1, h1, h2⟩)
      have hj0s : j0 < all.size := Nat.lt_of_lt_of_le hj0K S.le
      have hr0 : j0 ∈ Region.ready .any all listed := by
        refine mem_ready.2 ⟨by rw [hl j0 hj0s]; exact hj0, _, Array.getElem?_eq_getElem hj0s, fun e he hb => ?_⟩
        have hlt := S.down j0 _ (Array.getElem?_eq_getElem hj0s) e he hb
        rw [getD_in (by omega) false true, hl e.on (by omega)]
        exact hbelow _ hlt
      refine ⟨fun h0 => (by rw [h0] at hr0; cases hr0), fun i hi => ?_⟩
      obtain ⟨hiun, oi, hoi, hdir⟩ := mem_ready.1 hi
      have his := (Array.getElem?_eq_some_iff.1 hoi).1
      have hdirD : ∀ e, e ∈ oi.after → Region.binds .any e = true → D e.on = true := fun e he hb => by
        have := S.down i oi hoi e he hb
        rw [← hl e.on (by omega), ← getD_in (by omega) false true]
        exact hdir e he hb
      have hahead := S.ahead hL i oi
      have hiK : i < K := by
        rcases Nat.lt_or_ge i K with h | h
        · exact h
        · have := hahead j0 hoi hdirD (by rw [if_neg (by omega)]; omega)
          rw [hj0] at this; cases this
      have hDi : D i = false := by rw [← hl i his]; exact hiun
      have hex := step_D (P := P) (G := G) S hg hiK hoi hDi (fun j hj hb => hahead j hoi hdirD (by rw [if_pos hiK]; exact hb)) (fun j h1 h2 hD => by
        cases hb : (bitAt bs j).testBit i with
        | false => rfl
        | true =>
          have hjs : j < all.size := Nat.lt_of_lt_of_le h2 S.le
          have := S.ahead hL j _ i (Array.getElem?_eq_getElem hjs) (fun e he hbe => hL j _ hD (Array.getElem?_eq_getElem hjs) e he hbe) (by rw [if_pos h2]; exact hb)
          rw [hDi] at this; cases this)
      have hoi' : oi = all[i] := by
        rw [Array.getElem?_eq_getElem his] at hoi
        exact (Option.some.inj hoi).symm
      refine execOk_sound hoi (hfit oi (by rw [hoi']; simp)) hs hr hex ?_
      rintro Γ' a' w' hs' E hn hr' ⟨cv, rfl⟩
      have hc' : cnt (listed.setIfInBounds i true) all.size = r := by
        have := cnt_set hiun all.size
        rw [if_pos his] at this
        omega
      refine ih (listed.setIfInBounds i true) (withI D i) Γ' _ w' (by simpa using hsz) hc' ?_ ?_ ?_ hs' hr' Q' fun e a'' w'' hp => hq _ _ _ (hp.step E hn (by rw [hoi']; exact put_fr his cv) fun _ h => h)
      · intro j hj
        by_cases hji : j = i
        · subst hji; simp [withI]
        · rw [getD_set_ne true (Ne.symm hji), hl j hj]; simp [withI, hji]
      · intro j hj
        by_cases hji : j = i
        · subst hji; exact hiK
        · simp only [withI, if_neg hji] at hj; exact hlow j hj
      · intro k ok hk hok e he hb
        by_cases hki : k = i
        · subst hki
          rw [hoi] at hok
          cases hok
          have := hdirD e he hb
          simp only [withI]
          split
          · rfl
          · exact this
        · simp only [withI, if_neg hki] at hk
          have := hL k ok hk hok e he hb
          simp only [withI]
          split
          · rfl
          · exact this

/-- A region that draws its order: the first K operations in any order that the edges allow, the others one after the other. -/
theorem W.draw {s : St} (K : Nat) (bs : List Nat) (hm : P.follows .mixedOrders = true) (hfit : all.toList.all (dstOk n) = true) (hst : drawOk all bs K = true)
    (h : opsD P G all (opsV P G rd Q all (all.toList.drop K)) bs 0 [] (all.toList.take K) s) : W P G n rd (.region id all true) Q s := by
  intro wb Γ a w rb hs hr
  have S := drawOk_spec hst
  have hfit' : ∀ o, o ∈ all.toList → dstOk n o = true := fun o ho => List.all_eq_true.1 hfit o ho
  have wf : WFH s.H := fun id b hb => hs.heap.next id b hb
  have hcan0 : canon all (fun _ => ⟨.lit undef, none, false, ⟨[], []⟩⟩) s 0 = s := rfl
  obtain ⟨d, hg, htail⟩ := trace (P := P) (G := G) (all := all) (bs := bs) (s0 := s) (tail := opsV P G rd Q all (all.toList.drop K)) S.len S.le K 0 (fun _ => ⟨.lit undef, none, false, ⟨[], []⟩⟩) [] (by omega)
    (fun i hi => by omega) (fun j hj => by omega) (by rw [hcan0]; exact wf) (by rw [hcan0]; exact h)
  refine wpIn_region_any hm ?_
  let w1 : World := { w with drawn := w.drawn + 1 }
  have R1 : RelH P G Γ s.H w1 := hs.heap.move rfl (drawn_evo w) (Nat.le_refl _) (fun id b hb => .inl hb) fun id b hb => hb
  have hs1 : RelS P G n wb Γ s a w1 := hs.move (drawn_evo w) (Nat.le_refl _) R1
  have hs2 : RelS P G n wb Γ ⟨s.ρ, resv s.H (nal d K)⟩ a w1 := hs1.move (resv_evo _ _) (by simp [resv]) (resv_rel R1 _)
  have hr2 : RdOk Γ (resv s.H (nal d K)) rd rb := hr.move fun id b hb => by
    simp only [resv]
    rw [if_neg]
    · exact hb
    · have := hs.heap.next id b hb; omega
  have e0 : stD all d s K (fun _ => false) = ⟨s.ρ, resv s.H (nal d K)⟩ := stD_none fun _ _ => rfl
  refine draw_go (wb := wb) (id := id) (dr := true) S hfit' hg htail all.size _ (fun _ => false) Γ a w1 (by simp) (cnt_full _ (Nat.le_refl _)) ?_ ?_ ?_ ?_ ?_ _ ?_
  · intro j hj
    rw [Array.getD_eq_getD_getElem?, Array.getElem?_replicate, if_pos hj]
    rfl
  · intro j hj; cases hj
  · intro i o hi; cases hi
  · rw [e0]; exact hs2
  · rw [e0]; exact hr2
  · rw [e0]
    intro e a' w' hp
    refine hp.step ?_ (by simp [resv]) (.refl _ _) fun _ h => h
    exact Evo.trans (drawn_evo w) (Nat.le_refl _) (resv_evo _ _)

end

end Go.Hx
