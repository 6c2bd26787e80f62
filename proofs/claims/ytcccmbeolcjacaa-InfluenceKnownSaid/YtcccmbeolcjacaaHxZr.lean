/-
  The evaluator is right, third part: arguments and results read off, the environments of calls. Own work: no program stands in this text.
-/
import Derived.Test.YtcccmbeolcjacaaHxZq
namespace Go.Hx

theorem mapV_some {f : AVal → Option (AVal × List Nat)} : ∀ {l l' : List AVal} {rs : List Nat}, mapV f l = some (l', rs) →
    l'.length = l.length ∧ ∀ i (_ : i < l.length) (_ : i < l'.length), ∃ ri, f l[i] = some (l'[i], ri) ∧ ∀ r, r ∈ ri → r ∈ rs := by
  intro l
  induction l with
  | nil =>
    intro l' rs h
    simp only [mapV, Option.some.injEq, Prod.mk.injEq] at h
    obtain ⟨rfl, rfl⟩ := h
    exact ⟨rfl, fun i h _ => absurd h (Nat.not_lt_zero _)⟩
  | cons x l ih =>
    intro l' rs h
    have h' : (match f x, mapV f l with | some (y, a), some (l, b) => some (y :: l, a ++ b) | _, _ => none) = some (l', rs) := h
    split at h'
    · rename_i y a l2 b h1 h2
      simp only [Option.some.injEq, Prod.mk.injEq] at h'
      obtain ⟨rfl, rfl⟩ := h'
      obtain ⟨h3, h4⟩ := ih h2
      refine ⟨by simp [h3], fun i hi hi' => ?_⟩
      cases i with
      | zero => exact ⟨a, h1, fun r hr => List.mem_append_left _ hr⟩
      | succ i =>
        obtain ⟨ri, h5, h6⟩ := h4 i (by simpa using hi) (by simpa using hi')
        exact ⟨ri, h5, fun r hr => List.mem_append_right _ (h6 r hr)⟩
    · cases h'

theorem toH_arr {h : EH} {id g : Nat} {e : TypeId} {c : List AVal} (hg : getB h.hp id = some (.arr g e c)) : (toH h).get id = some (.arr g e c) := by
  show Option.map EBlk.toBlk (getB h.hp id) = _
  rw [hg]
  rfl

theorem viewV_some {h : EH} : ∀ (fuel : Nat) {v v' : AVal} {rs : List Nat}, viewV h fuel v = some (v', rs) → ∀ H2 : AHeap, (∀ r, r ∈ rs → H2.get r = (toH h).get r) → Fz (fun _ => True) H2 0 v v' := by
  intro fuel
  induction fuel with
  | zero => intro v v' rs h; cases h
  | succ f ih =>
    intro v v' rs hv H2 ha
    have list : ∀ {l l' : List AVal} {rs' : List Nat}, mapV (viewV h f) l = some (l', rs') → (∀ r, r ∈ rs' → H2.get r = (toH h).get r) →
        l'.length = l.length ∧ ∀ i (_ : i < l.length) (_ : i < l'.length), Fz (fun _ => True) H2 0 l[i] l'[i] := fun hm ha' => by
      obtain ⟨h1, h2⟩ := mapV_some hm
      exact ⟨h1, fun i hi hi' => let ⟨ri, h3, h4⟩ := h2 i hi hi'; ih h3 H2 fun r hr => ha' r (h4 r hr)⟩
    cases v with
    | lit v =>
      have hv' : some (AVal.lit v, []) = some (v', rs) := hv
      simp only [Option.some.injEq, Prod.mk.injEq] at hv'
      obtain ⟨rfl, rfl⟩ := hv'
      exact .lit _
    | vec n c =>
      have hv' : (mapV (viewV h f) c).map (fun p => (AVal.vec n p.1, p.2)) = some (v', rs) := hv
      simp only [Option.map_eq_some_iff, Prod.mk.injEq] at hv'
      obtain ⟨⟨c', rs'⟩, h1, rfl, rfl⟩ := hv'
      obtain ⟨h2, h3⟩ := list h1 ha
      exact .vec h2 h3
    | vptr c o =>
      have hv' : (mapV (viewV h f) c).map (fun p => (AVal.vptr p.1 o, p.2)) = some (v', rs) := hv
      simp only [Option.map_eq_some_iff, Prod.mk.injEq] at hv'
      obtain ⟨⟨c', rs'⟩, h1, rfl, rfl⟩ := hv'
      obtain ⟨h2, h3⟩ := list h1 ha
      exact .vptr h2 h3
    | agg c =>
      have hv' : (mapV (viewV h f) c).map (fun p => (AVal.agg p.1, p.2)) = some (v', rs) := hv
      simp only [Option.map_eq_some_iff, Prod.mk.injEq] at hv'
      obtain ⟨⟨c', rs'⟩, h1, rfl, rfl⟩ := hv'
      obtain ⟨h2, h3⟩ := list h1 ha
      exact .agg h2 h3
    | tup c =>
      have hv' : (mapV (viewV h f) c).map (fun p => (AVal.tup p.1, p.2)) = some (v', rs) := hv
      simp only [Option.map_eq_some_iff, Prod.mk.injEq] at hv'
      obtain ⟨⟨c', rs'⟩, h1, rfl, rfl⟩ := hv'
      obtain ⟨h2, h3⟩ := list h1 ha
      exact .tup h2 h3
    | clo g a b =>
      have hv' : (match mapV (viewV h f) a, mapV (viewV h f) b with | some p, some q => some (AVal.clo g p.1 q.1, p.2 ++ q.2) | _, _ => none) = some (v', rs) := hv
      split at hv'
      · rename_i p q h1 h2
        simp only [Option.some.injEq, Prod.mk.injEq] at hv'
        obtain ⟨rfl, rfl⟩ := hv'
        obtain ⟨h3, h4⟩ := list h1 fun r hr => ha r (List.mem_append_left _ hr)
        obtain ⟨h5, h6⟩ := list h2 fun r hr => ha r (List.mem_append_right _ hr)
        exact .clo h3 h5 h4 h6
      · cases hv'
    | own id g o l z =>
      have hv' : (match getB h.hp id with | some (.arr g' _ cells) => if g' = g ∧ o + l * z ≤ cells.length then (mapV (viewV h f) ((cells.drop o).take (l * z))).map fun p => (AVal.vec l p.1, id :: p.2) else none | _ => none) = some (v', rs) := hv
      split at hv'
      · rename_i g' e cells hg
        split at hv'
        · rename_i hc
          obtain ⟨rfl, hle⟩ := hc
          simp only [Option.map_eq_some_iff, Prod.mk.injEq] at hv'
          obtain ⟨⟨c', rs'⟩, h1, rfl, rfl⟩ := hv'
          obtain ⟨h2, h3⟩ := list h1 fun r hr => ha r (List.mem_cons_of_mem _ hr)
          have hlen : ((cells.drop o).take (l * z)).length = l * z := by simp; omega
          refine .frz trivial ((ha id (List.mem_cons_self ..)).trans (toH_arr hg)) (h2.trans hlen) fun i hi h2i hi' => ?_
          have := h3 i (by omega) hi'
          simpa using this
        · cases hv'
      · cases hv'
    | ptr id g o =>
      have hv' : (match getB h.hp id with | some (.arr g' _ (x :: cells)) => if g' = g then (mapV (viewV h f) (x :: cells)).map fun p => (AVal.vptr p.1 o, id :: p.2) else none | _ => none) = some (v', rs) := hv
      split at hv'
      · rename_i g' e x cells hg
        split at hv'
        · rename_i hc
          subst hc
          simp only [Option.map_eq_some_iff, Prod.mk.injEq] at hv'
          obtain ⟨⟨c', rs'⟩, h1, rfl, rfl⟩ := hv'
          obtain ⟨h2, h3⟩ := list h1 fun r hr => ha r (List.mem_cons_of_mem _ hr)
          exact .pfrz trivial ((ha id (List.mem_cons_self ..)).trans (toH_arr hg)) (by simp) h2 h3
        · cases hv'
      · cases hv'
    | yld n => cases hv

theorem mapR_some {f : AVal → Option AVal} : ∀ {l l' : List AVal}, mapR f l = some l' → l'.length = l.length ∧ ∀ i (_ : i < l.length) (_ : i < l'.length), f l[i] = some l'[i] := by
  intro l
  induction l with
  | nil =>
    intro l' h
    simp only [mapR, Option.some.injEq] at h
    subst h
    exact ⟨rfl, fun i h _ => absurd h (Nat.not_lt_zero _)⟩
  | cons x l ih =>
    intro l' h
    have h' : (match f x, mapR f l with | some y, some l => some (y :: l) | _, _ => none) = some l' := h
    split at h'
    · rename_i y l2 h1 h2
      simp only [Option.some.injEq] at h'
      subst h'
      obtain ⟨h3, h4⟩ := ih h2
      refine ⟨by simp [h3], fun i hi hi' => ?_⟩
      cases i with
      | zero => exact h1
      | succ i => exact h4 i (by simpa using hi) (by simpa using hi')
    · cases h'

theorem freshV_some {h : EH} : ∀ (fuel : Nat) {v v' : AVal}, freshV h fuel v = some v' → Fresh (toH h) v v' := by
  intro fuel
  induction fuel with
  | zero => intro v v' h; cases h
  | succ f ih =>
    intro v v' hv
    have list : ∀ {l l' : List AVal}, mapR (freshV h f) l = some l' → l'.length = l.length ∧ ∀ i (_ : i < l.length) (_ : i < l'.length), Fresh (toH h) l[i] l'[i] := fun hm => by
      obtain ⟨h1, h2⟩ := mapR_some hm
      exact ⟨h1, fun i hi hi' => ih (h2 i hi hi')⟩
    cases v with
    | lit v =>
      have hv' : some (AVal.lit v) = some v' := hv
      cases hv'
      exact .lit _
    | agg c =>
      have hv' : (mapR (freshV h f) c).map AVal.agg = some v' := hv
      simp only [Option.map_eq_some_iff] at hv'
      obtain ⟨c', h1, rfl⟩ := hv'
      obtain ⟨h2, h3⟩ := list h1
      exact .agg h2 h3
    | tup c =>
      have hv' : (mapR (freshV h f) c).map AVal.tup = some v' := hv
      simp only [Option.map_eq_some_iff] at hv'
      obtain ⟨c', h1, rfl⟩ := hv'
      obtain ⟨h2, h3⟩ := list h1
      exact .tup h2 h3
    | own id g o l z =>
      have hv' : (match getB h.hp id with | some (.arr g' _ cells) => if g' = g ∧ o + l * z ≤ cells.length then (mapR (freshV h f) ((cells.drop o).take (l * z))).map (AVal.vec l) else none | _ => none) = some v' := hv
      split at hv'
      · rename_i g' e cells hg
        split at hv'
        · rename_i hc
          obtain ⟨rfl, hle⟩ := hc
          simp only [Option.map_eq_some_iff] at hv'
          obtain ⟨c', h1, rfl⟩ := hv'
          obtain ⟨h2, h3⟩ := list h1
          have hlen : ((cells.drop o).take (l * z)).length = l * z := by simp; omega
          refine .own (toH_arr hg) (h2.trans hlen) fun i hi h2i hi' => ?_
          have := h3 i (by omega) hi'
          simpa using this
        · cases hv'
      · cases hv'
    | _ => cases hv

theorem eqL_eq {f : AVal → AVal → Bool} (hf : ∀ x y, f x y = true → x = y) : ∀ {a b : List AVal}, eqL f a b = true → a = b := by
  intro a
  induction a with
  | nil => intro b h; cases b with
    | nil => rfl
    | cons => cases h
  | cons x l ih =>
    intro b h
    cases b with
    | nil => cases h
    | cons y b =>
      have h' : (match f x y with | true => eqL f l b | false => false) = true := h
      split at h'
      · rename_i hxy
        rw [hf _ _ hxy, ih h']
      · cases h'

theorem eqA_eq : ∀ (fuel : Nat) (a b : AVal), eqA fuel a b = true → a = b := by
  intro fuel
  induction fuel with
  | zero => intro a b h; cases h
  | succ f ih =>
    intro a b h
    have h' : eqStep (eqA f) a b = true := h
    unfold eqStep at h'
    split at h'
    · simp only [Bool.and_eq_true, decide_eq_true_eq, eqF_eq] at h'
      rw [h'.1, h'.2]
    · simp only [beq_iff_eq] at h'; rw [h']
    · rfl
    · simp only [Bool.and_eq_true] at h'
      rw [Nat.eq_of_beq_eq_true h'.1, eqL_eq ih h'.2]
    · simp only [Bool.and_eq_true] at h'
      rw [Nat.eq_of_beq_eq_true h'.1, eqL_eq ih h'.2]
    · rw [eqL_eq ih h']
    · rw [eqL_eq ih h']
    · simp only [Bool.and_eq_true] at h'
      rw [Nat.eq_of_beq_eq_true h'.1, eqL_eq ih h'.2.1, eqL_eq ih h'.2.2]
    · cases h'

theorem findK_some {args : List AVal} {v : AVal} : ∀ {l : List (List AVal × AVal)}, findK args l = some v → (args, v) ∈ l := by
  intro l
  induction l with
  | nil => intro h; cases h
  | cons p l ih =>
    intro h
    have h' : Bool.casesOn (motive := fun _ => Option AVal) (eqL (eqA 40) p.1 args) (findK args l) (some p.2) = some v := h
    cases he : eqL (eqA 40) p.1 args with
    | true =>
      rw [he] at h'
      have := eqL_eq (eqA_eq 40) he
      have h2 : p.2 = v := Option.some.inj h'
      rw [← this, ← h2]
      exact List.mem_cons_self ..
    | false =>
      rw [he] at h'
      exact List.mem_cons_of_mem _ (ih h')

theorem listE_some {k : BT AVal → R} {r : RR} : ∀ {l : List AVal} {i : Nat} {t : BT AVal}, listE k l i t = some r → ∃ t', k t' = some r ∧ ∀ m, getA t' m = if i ≤ m ∧ m < i + l.length then l[m - i]? else getA t m := by
  intro l
  induction l with
  | nil => intro i t h; exact ⟨t, h, fun m => by rw [if_neg (by simp only [List.length_nil]; omega)]⟩
  | cons x l ih =>
    intro i t h
    have h' : (setA t i x fun t => fNat (Nat.succ i) fun i => listE k l i t) = some r := h
    obtain ⟨t1, h1, h2⟩ := setA_some _ _ _ _ _ h'
    rw [fNat_eq] at h1
    obtain ⟨t', h3, h4⟩ := ih h1
    refine ⟨t', h3, fun m => ?_⟩
    rw [h4, h2]
    simp only [List.length_cons, Nat.succ_eq_add_one]
    by_cases hm : m = i
    · subst hm
      rw [if_neg (by omega), if_pos rfl, if_pos (by omega)]
      simp
    · rw [if_neg hm]
      by_cases hm2 : i + 1 ≤ m ∧ m < i + 1 + l.length
      · rw [if_pos hm2, if_pos (by omega)]
        have : m - i = (m - (i + 1)) + 1 := by omega
        rw [this, List.getElem?_cons_succ]
      · rw [if_neg hm2, if_neg (by omega)]

theorem listE_env {k : BT AVal → R} {r : RR} {l : List AVal} (h : listE k l 0 .nil = some r) : ∃ t, k t = some r ∧ toE t = envOf l := by
  obtain ⟨t, h1, h2⟩ := listE_some h
  refine ⟨t, h1, funext fun m => ?_⟩
  rw [toE_def, h2]
  unfold envOf
  split
  · rfl
  · rename_i hm
    rw [List.getElem?_eq_none (by omega), getA_nil]

theorem listP_some {k : BT AVal → R} {r : RR} : ∀ {ps : List Tmp} {vs : List AVal} {e : BT AVal}, listP k ps vs e = some r → ∃ e', k e' = some r ∧ vs.length = ps.length ∧ toE e' = setPs (toE e) (ps.zip vs) := by
  intro ps
  induction ps with
  | nil =>
    intro vs e h
    cases vs with
    | nil => exact ⟨e, h, rfl, rfl⟩
    | cons => cases h
  | cons p ps ih =>
    intro vs e h
    cases vs with
    | nil => cases h
    | cons v vs =>
      have h' : (setA e p v fun e => listP k ps vs e) = some r := h
      obtain ⟨t1, h1, h2⟩ := setA_some _ _ _ _ _ h'
      obtain ⟨e', h3, h4, h5⟩ := ih h1
      refine ⟨e', h3, by simp [h4], ?_⟩
      rw [h5, toE_set h2]
      rfl

theorem okB_bound {n : Nat} : ∀ (t : BT AVal) (a b : Nat), okB t a b n = true → ∀ j v, getA t j = some v → a * j + b < n := by
  intro t
  induction t with
  | nil => intro a b _ j v h; cases h
  | node v l r ihl ihr =>
    intro a b h j u hj
    have h' : (okV v b n && (okB l (2 * a) (a + b) n && okB r (2 * a) (2 * a + b) n)) = true := h
    simp only [Bool.and_eq_true] at h'
    obtain ⟨h1, h2, h3⟩ := h'
    cases j with
    | zero =>
      rw [getA_zero] at hj
      rw [hj] at h1
      have h4 : b < n := by rw [← Nat.blt_eq]; exact h1
      omega
    | succ m =>
      rw [getA_succ] at hj
      split at hj
      · rename_i hm
        have := ihl _ _ h2 _ _ hj
        have h4 : m = 2 * (m / 2) := by omega
        generalize m / 2 = q at this h4
        subst h4
        have h5 : a * (2 * q + 1) = 2 * a * q + a := by rw [Nat.mul_add, Nat.mul_one, ← Nat.mul_assoc, Nat.mul_comm a 2]
        omega
      · rename_i hm
        have := ihr _ _ h3 _ _ hj
        have h4 : m = 2 * (m / 2) + 1 := by omega
        generalize m / 2 = q at this h4
        subst h4
        have h5 : a * (2 * q + 1 + 1) = 2 * a * q + 2 * a := by rw [show 2 * q + 1 + 1 = 2 * q + 2 from rfl, Nat.mul_add, ← Nat.mul_assoc, Nat.mul_comm a 2]
        omega

theorem envN_ok {env : BT AVal} {n : Nat} (h : okB env 1 0 n = true) : envN (toE env) n = toE env := by
  funext t
  unfold envN
  split
  · rfl
  · rename_i ht
    rw [toE_def]
    cases hg : getA env t with
    | none => rfl
    | some v =>
      have := okB_bound env 1 0 h t v hg
      omega
end Go.Hx
