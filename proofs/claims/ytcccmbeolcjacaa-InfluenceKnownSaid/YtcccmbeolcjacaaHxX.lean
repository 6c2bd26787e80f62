/-
  Ranges over functions. Own work: no program stands in this text.
-/
import Derived.Test.YtcccmbeolcjacaaHxW
namespace Go.Hx
variable {P : Program} {G : Nat → Option (List AVal)} {Γ Γ' : Gam} {H H' : AHeap} {w w' : World}

/-- A loop's record is set anew. -/
theorem loop_set (R : RelH P G Γ H w) {id : Nat} {st : LoopState} {pend : Option Code} {n : Nat} {env : Env} {ps : Array Tmp} {asg body : Code} (hg : H.get id = some (.loop st pend n env ps asg body)) :
    ∃ b r, Γ id = some (b, 0, 0) ∧ w.heap[b]? = some (.loop r) ∧ r.state = st ∧ r.pending = pend ∧ r.params = ps ∧ r.assign = asg ∧ r.body = body ∧ r.tmps.size = n ∧ (∀ t (h : t < r.tmps.size), RelV P Γ H w (env t) r.tmps[t]) ∧
      ∀ st' pend', RelH P G Γ (H.upd id (.loop st' pend' n env ps asg body)) (setBlk w b (.loop { r with state := st', pending := pend' })) ∧
        Evo Γ H w Γ (H.upd id (.loop st' pend' n env ps asg body)) (setBlk w b (.loop { r with state := st', pending := pend' })) := by
  obtain ⟨b, r, hΓ, hb, h1, h2, h3, h4, h5, h6, h7⟩ := R.loop id st pend n env ps asg body hg
  refine ⟨b, r, hΓ, hb, h1, h2, h3, h4, h5, h6, h7, fun st' pend' => ?_⟩
  have hlt := R.lt id b 0 0 hΓ
  have E : Evo Γ H w Γ (H.upd id (.loop st' pend' n env ps asg body)) (setBlk w b (.loop { r with state := st', pending := pend' })) :=
    { os := rfl, tape := rfl, output := rfl
      size := by rw [size_setBlk]; exact Nat.le_refl _
      keep := fun c hc ho => ⟨by
        rw [heap_setBlk, if_neg]
        rintro ⟨rfl, _⟩
        exact ho ⟨id, 0, 0, hΓ⟩, ho⟩
      live := fun i hi _ x' hx => by
        rw [upd_get] at hx
        split at hx
        · rename_i hii
          subst hii
          simp only [Option.some.injEq] at hx
          subst hx
          exact ⟨_, hg, rfl, rfl, rfl, rfl, rfl, rfl⟩
        · exact ⟨x', hx, Blk.le_refl _ _ _⟩
      frz := frozen_setBlk hb (fun _ _ _ h => by cases h) (fun _ _ _ h => by cases h) }
  refine ⟨?_, E⟩
  have hne : ∀ i b' base n', Γ i = some (b', base, n') → i ≠ id → b' ≠ b := fun i b' base n' hi hii hbb => by
    subst hbb
    exact hii (R.inj _ _ _ _ _ _ _ hi hΓ)
  exact
    { arr := fun i g e cells hgi => by
        rw [upd_get] at hgi
        split at hgi
        · simp at hgi
        · rename_i hii
          have h := R.arr i g e cells hgi
          cases hi : Γ i with
          | none => rw [hi] at h; exact h
          | some y =>
            obtain ⟨b', base, n'⟩ := y
            rw [hi] at h
            obtain ⟨c, a1, a2, a3, a4⟩ := h
            refine ⟨c, ?_, a2, a3, fun j hj => let ⟨cv, b1, b2⟩ := a4 j hj; ⟨cv, b1, b2.evo E (Nat.le_refl _)⟩⟩
            rw [heap_setBlk, if_neg]
            · exact a1
            · rintro ⟨h, _⟩
              exact hne i b' base n' hi hii h
      loop := fun i st2 pend2 n2 env2 ps2 asg2 body2 hgi => by
        rw [upd_get] at hgi
        split at hgi
        · rename_i hii
          subst hii
          simp only [Option.some.injEq, Blk.loop.injEq] at hgi
          obtain ⟨rfl, rfl, rfl, rfl, rfl, rfl, rfl⟩ := hgi
          refine ⟨b, { r with state := st', pending := pend' }, hΓ, by rw [heap_setBlk, if_pos ⟨rfl, hlt⟩], rfl, rfl, h3, h4, h5, h6, fun t ht => (h7 t ht).evo E (Nat.le_refl _)⟩
        · rename_i hii
          obtain ⟨b2, r2, a1, a2, a3, a4, a5, a6, a7, a8, a9⟩ := R.loop i _ _ _ _ _ _ _ hgi
          refine ⟨b2, r2, a1, ?_, a3, a4, a5, a6, a7, a8, fun t ht => (a9 t ht).evo E (Nat.le_refl _)⟩
          rw [heap_setBlk, if_neg]
          · exact a2
          · rintro ⟨h, _⟩
            exact hne i b2 0 0 a1 hii h
      rsv := fun i hgi => by
        rw [upd_get] at hgi
        split at hgi
        · simp at hgi
        · exact R.rsv i hgi
      inj := R.inj
      dom := fun i x hi => by
        obtain ⟨y, hy⟩ := R.dom i x hi
        rw [upd_get]
        split
        · exact ⟨_, rfl⟩
        · exact ⟨y, hy⟩
      lt := fun i b' base n' hi => by rw [size_setBlk]; exact R.lt i b' base n' hi
      next := fun i y hy => by
        rw [upd_get] at hy
        split at hy
        · rename_i hii
          subst hii
          exact R.next _ _ hg
        · exact R.next i y hy
      glob := fun g cells h => (R.glob g cells h).evo E (Nat.le_refl _) }

theorem run_getLoop {b : Nat} {r : Loop} (h : w.heap[b]? = some (.loop r)) : (Instr.getLoop b).run P w = .ok r w := by
  have hg : (getObj b).run P w = .ok (.loop r) w := by simp [getObj, Sem.run, h]
  unfold Instr.getLoop
  rw [run_bind_ok hg]
  rfl

theorem run_setObj {b : Nat} {r : Loop} {o' : Obj} (h : w.heap[b]? = some (.loop r)) : (setObj b o').run P w = .ok () (setBlk w b o') := by
  simp [setObj, Sem.run, h, setBlk]

theorem run_beginRound {b : Nat} {r : Loop} (h : w.heap[b]? = some (.loop r)) (hs : r.state = .ready) : (Instr.beginRound b).run P w = .ok () (setBlk w b (.loop { r with state := .busy, pending := r.pending })) := by
  unfold Instr.beginRound
  rw [run_bind_ok (run_getLoop h), run_bind_ok (run_setObj h)]
  simp only [hs]
  rfl

theorem run_endRound {b : Nat} {r : Loop} (h : w.heap[b]? = some (.loop r)) (j : Option Code) :
    (Instr.endRound b j).run P w = .ok (.bool j.isNone) (setBlk w b (.loop { r with state := if j.isNone then .ready else .done, pending := j })) := by
  unfold Instr.endRound
  rw [run_bind_ok (run_getLoop h), run_bind_ok (run_setObj h)]
  rfl

theorem run_endLoop {b : Nat} {r : Loop} (h : w.heap[b]? = some (.loop r)) (hs : (r.state == .busy) = false) : (Instr.endLoop b).run P w = .ok r.pending (setBlk w b (.loop { r with state := .exhausted, pending := r.pending })) := by
  unfold Instr.endLoop
  rw [run_bind_ok (run_getLoop h)]
  simp only [hs, Bool.false_eq_true, if_false]
  rw [run_bind_ok (run_setObj h)]
  rfl

/-! ### one round -/

def setPs (ρ : Env) (l : List (Tmp × AVal)) : Env := l.foldl (fun ρ p => putA ρ (some p.1) p.2) ρ
def envN (env : Env) (n : Nat) : Env := fun t => if t < n then env t else .lit undef

def setLoop (st : LoopState) (pend : Option Code) : Option Blk → Option Blk
  | some (.loop _ _ n env ps asg body) => some (.loop st pend n env ps asg body)
  | _ => none
def beginA : Option Blk → Option Blk
  | some (.loop .ready pend n env ps asg body) => some (.loop .busy pend n env ps asg body)
  | _ => none

def roundQ (id : Nat) (K : ARes → AHeap → Prop) : AX → St → Prop
  | .normal, s => wpo (setLoop .ready none (s.H.get id)) fun b => K (.ret (.lit (.bool true))) (s.H.upd id b)
  | .ret, s => wpo (setLoop .done (some .ret) (s.H.get id)) fun b => K (.ret (.lit (.bool false))) (s.H.upd id b)
  | .exit i, s => wpo (setLoop .done (some (.exit i)) (s.H.get id)) fun b => K (.ret (.lit (.bool false))) (s.H.upd id b)
  | .goto i, s => wpo (setLoop .done (some (.goto i)) (s.H.get id)) fun b => K (.ret (.lit (.bool false))) (s.H.upd id b)
  | .panic, _ => False

def asgQ (P : Program) (G : Nat → Option (List AVal)) (n id : Nat) (body : Code) (K : ARes → AHeap → Prop) : AX → St → Prop
  | .normal, s => wpo (beginA (s.H.get id)) fun b => W P G n (some id) body (roundQ id K) ⟨s.ρ, s.H.upd id b⟩
  | _, _ => False

theorem setPs_rel : ∀ (l : List (Tmp × AVal)) (cl : List (Tmp × Value)) (ρ : Env) (tmps : Array Value), l.length = cl.length → (∀ i (h : i < l.length) (h' : i < cl.length), l[i].1 = cl[i].1 ∧ l[i].1 < tmps.size ∧ RelV P Γ H w l[i].2 cl[i].2) →
    (∀ t, RelV P Γ H w (ρ t) (tmps.getD t undef)) →
    ((cl.foldl (fun tmps (p : Tmp × Value) => tmps.setIfInBounds p.1 p.2) tmps).size = tmps.size) ∧ ∀ t, RelV P Γ H w (setPs ρ l t) ((cl.foldl (fun tmps (p : Tmp × Value) => tmps.setIfInBounds p.1 p.2) tmps).getD t undef) := by
  intro l
  induction l with
  | nil =>
    intro cl ρ tmps hl _ he
    cases cl with
    | nil => exact ⟨rfl, he⟩
    | cons => simp at hl
  | cons x l ih =>
    intro cl ρ tmps hl h he
    cases cl with
    | nil => simp at hl
    | cons y cl =>
      obtain ⟨h1, h2, h3⟩ := h 0 (by simp) (by simp)
      simp only [List.getElem_cons_zero] at h1 h2 h3
      have := ih cl (putA ρ (some x.1) x.2) (tmps.setIfInBounds y.1 y.2) (by simpa using hl) (fun i a b => by
        have := h (i + 1) (by simpa using a) (by simpa using b)
        simp only [List.getElem_cons_succ] at this
        simpa using this) (fun t => by
          by_cases ht : t = x.1
          · subst ht
            have e1 : putA ρ (some x.1) x.2 x.1 = x.2 := by simp [putA]
            have e2 : (tmps.setIfInBounds y.1 y.2).getD x.1 undef = y.2 := by rw [← h1]; simp [h2]
            rw [e1, e2]
            exact h3
          · have e1 : putA ρ (some x.1) x.2 t = ρ t := by simp [putA, ht]
            have e2 : (tmps.setIfInBounds y.1 y.2).getD t undef = tmps.getD t undef := by
              simp only [Array.getD_eq_getD_getElem?]
              rw [Array.getElem?_setIfInBounds, if_neg (by rw [← h1]; exact fun h => ht h.symm)]
            rw [e1, e2]
            exact he t)
      refine ⟨?_, this.2⟩
      have h4 := this.1
      simp only [Array.size_setIfInBounds] at h4
      exact h4

theorem setLoop_some {st : LoopState} {pend : Option Code} {x : Option Blk} {b : Blk} (h : setLoop st pend x = some b) : ∃ st0 p0 n env ps asg body, x = some (.loop st0 p0 n env ps asg body) ∧ b = .loop st pend n env ps asg body := by
  unfold setLoop at h
  split at h
  · cases h; exact ⟨_, _, _, _, _, _, _, rfl, rfl⟩
  · cases h

theorem AApply.yld {id : Nat} {args : List AVal} {K : ARes → AHeap → Prop} {pend : Option Code} {n : Nat} {env : Env} {ps : Array Tmp} {asg body : Code} (hg : H.get id = some (.loop .ready pend n env ps asg body)) (hl : args.length = ps.size)
    (hps : ps.toList.all (fun t => decide (t < n)) = true) (h : W P G n (some id) asg (asgQ P G n id body K) ⟨setPs (envN env n) (ps.toList.zip args), H⟩) : AApply P G (.yld id) args H K := by
  intro Γ w cfv cargs R hv hr
  cases hv with
  | yld hy =>
    obtain ⟨b, hΓ, rfl⟩ := hy.2.2.2 _ _ _ _ _ _ _ hg
    obtain ⟨b', r, hΓ', hb, h1, h2, h3, h4, h5, h6, h7, _⟩ := loop_set R hg
    rw [hΓ] at hΓ'
    simp only [Option.some.injEq, Prod.mk.injEq] at hΓ'
    obtain ⟨rfl, _⟩ := hΓ'
    have hsz : cargs.size = r.params.size := by rw [hr.1, hl, h3]
    refine ⟨{ target := .fn (.yield b) #[], args := #[] ++ cargs }, rfl, .inr ⟨b, r.fn, (r.params.zip (#[] ++ cargs)).foldl (fun tmps (t, a) => tmps.setIfInBounds t a) r.tmps, r.assign, r.body, ?_, ?_⟩⟩
    · show (Instr.yield b (#[] ++ cargs)).run P w = _
      unfold Instr.yield
      rw [run_bind_ok (run_getLoop hb)]
      have : ¬ ((#[] ++ cargs).size ≠ r.params.size) := by simp [hsz]
      rw [if_neg this]
      rfl
    · refine roundIn_of_wpIn (F := Fence.wide) trivial ?_
      have hfold : (r.params.zip (#[] ++ cargs)).foldl (fun tmps (t, a) => tmps.setIfInBounds t a) r.tmps = (r.params.toList.zip cargs.toList).foldl (fun tmps (p : Tmp × Value) => tmps.setIfInBounds p.1 p.2) r.tmps := by
        rw [← Array.foldl_toList]
        simp
      rw [hfold, h4, h5]
      have hset := setPs_rel (P := P) (Γ := Γ) (H := H) (w := w) (ps.toList.zip args) (r.params.toList.zip cargs.toList) (envN env n) r.tmps (by simp [hr.1, h3]) (fun i a c => by
          simp only [List.length_zip, Array.length_toList] at a c
          simp only [List.getElem_zip, Array.getElem_toList]
          refine ⟨by simp only [h3], ?_, hr.2 i (by omega) (by omega)⟩
          rw [h6]
          have := List.all_eq_true.1 hps (ps[i]'(by omega)) (by simp)
          simpa using this) (fun t => by
          unfold envN
          by_cases ht : t < n
          · rw [if_pos ht]
            have : r.tmps.getD t undef = r.tmps[t]'(by omega) := by simp [h6, ht]
            rw [this]
            exact h7 t (by omega)
          · rw [if_neg ht]
            have : r.tmps.getD t undef = undef := by simp [h6, ht]
            rw [this]
            exact .lit _)
      have hs : RelS P G n 0 Γ ⟨setPs (envN env n) (ps.toList.zip args), H⟩ { tmps := (r.params.toList.zip cargs.toList).foldl (fun tmps (p : Tmp × Value) => tmps.setIfInBounds p.1 p.2) r.tmps, defers := [] } w :=
        ⟨by rw [hset.1, h6], hset.2, R, fun d h => by simp at h, List.Pairwise.nil, Nat.zero_le _⟩
      refine wpIn_mono (h 0 Γ _ w (some b) hs ⟨b, _, _, _, _, _, _, _, rfl, hΓ, hg⟩) ?_
      rintro e a₁ w₁ ⟨x, s₁, Γ₁, hx, hq, hs₁, E₁, hn₁, hr₁, _⟩
      cases x with
      | normal =>
        cases e with
        | normal =>
          obtain ⟨blk, hbg, hW⟩ := hq
          obtain ⟨b1, st1, p1, n1, env1, ps1, asg1, body1, hb1, hΓ₁, hg₁⟩ := hr₁
          simp only [Option.some.injEq] at hb1
          subst hb1
          rw [hg₁] at hbg
          have hst : st1 = .ready ∧ blk = .loop .busy p1 n1 env1 ps1 asg1 body1 := by
            cases st1 <;> simp [beginA] at hbg
            exact ⟨rfl, hbg.symm⟩
          obtain ⟨rfl, rfl⟩ := hst
          obtain ⟨b2, r1, hΓ₂, hb2, k1, k2, k3, k4, k5, k6, k7, kset⟩ := loop_set hs₁.heap hg₁
          rw [hΓ₁] at hΓ₂
          simp only [Option.some.injEq, Prod.mk.injEq] at hΓ₂
          obtain ⟨rfl, _⟩ := hΓ₂
          obtain ⟨R2, E2⟩ := kset .busy r1.pending
          rw [k2] at R2 E2
          have hb3 : Γ₁ id = some (b, 0, 0) := hΓ₁
          refine ⟨_, run_beginRound hb2 k1, ?_⟩
          rw [k2]
          refine wpIn_mono (hW 0 Γ₁ a₁ _ (some b) (hs₁.move E2 (Nat.le_refl _) R2) ⟨b, _, _, _, _, _, _, _, rfl, hΓ₁, by rw [upd_get, if_pos rfl]⟩) ?_
          rintro e a₂ w₂ ⟨x, s₂, Γ₂, hx, hq, hs₂, E3, hn₂, hr₂, _⟩
          obtain ⟨b4, st4, p4, n4, env4, ps4, asg4, body4, hb4, hΓ₄, hg₄⟩ := hr₂
          simp only [Option.some.injEq] at hb4
          subst hb4
          obtain ⟨b5, r5, hΓ₅, hb5, l1, l2, l3, l4, l5, l6, l7, lset⟩ := loop_set hs₂.heap hg₄
          rw [hΓ₄] at hΓ₅
          simp only [Option.some.injEq, Prod.mk.injEq] at hΓ₅
          obtain ⟨rfl, _⟩ := hΓ₅
          have E4 : Evo Γ H w Γ₂ s₂.H w₂ := (E₁.trans hn₁ E2).trans hn₁ E3
          have hn4 : H.next ≤ s₂.H.next := Nat.le_trans hn₁ hn₂
          have fin : ∀ (j : Option Code) (v : Bool), v = j.isNone → wpo (setLoop (if j.isNone then .ready else .done) j (s₂.H.get id)) (fun bl => K (.ret (.lit (.bool v))) (s₂.H.upd id bl)) →
              ∃ cv w', (Instr.endRound b j).run P w₂ = .ok cv w' ∧ CPost P G Γ H w K (.returned cv) w' := by
            rintro j v rfl ⟨bl, hbl, hk⟩
            obtain ⟨R6, E6⟩ := lset (if j.isNone then .ready else .done) j
            rw [hg₄] at hbl
            obtain ⟨_, _, _, _, _, _, _, heq, rfl⟩ := setLoop_some hbl
            simp only [Option.some.injEq, Blk.loop.injEq] at heq
            obtain ⟨rfl, rfl, rfl, rfl, rfl, rfl, rfl⟩ := heq
            exact ⟨_, _, run_endRound hb5 j, .ret (.lit (.bool j.isNone)), _, Γ₂, RelV.lit _, hk, R6, E4.trans hn4 E6, hn4⟩
          cases e with
          | normal => cases x with
            | normal => exact fin none true rfl hq
            | _ => exact hx.elim
          | ret => cases x with
            | ret => exact fin (some .ret) false rfl hq
            | _ => exact hx.elim
          | exit i => cases x with
            | exit i' =>
              obtain rfl : i = i' := hx
              exact fin (some (.exit i)) false rfl hq
            | _ => exact hx.elim
          | goto i => cases x with
            | goto i' =>
              obtain rfl : i = i' := hx
              exact fin (some (.goto i)) false rfl hq
            | _ => exact hx.elim
          | panic c => cases x with
            | panic => exact hq.elim
            | _ => exact hx.elim
          | outgrown => cases x <;> exact hx.elim
        | _ => exact hx.elim
      | _ => exact hq.elim

/-! ### the statement -/

/-- A world that only grows. -/
theorem grow_evo (hos : w'.os = w.os) (ht : w'.tape = w.tape) (ho : w'.output = w.output) (hs : w.heap.size ≤ w'.heap.size) (hk : ∀ b, b < w.heap.size → w'.heap[b]? = w.heap[b]?) (hz : ∀ a, w'.frozen? a = w.frozen? a) (R : RelH P G Γ H w) : Evo Γ H w Γ H w' ∧ RelH P G Γ H w' := by
  have E : Evo Γ H w Γ H w' := ⟨hos, ht, ho, hs, fun b hb h => ⟨hk b hb, h⟩, fun _ _ _ x' hx => ⟨x', hx, Blk.le_refl _ _ _⟩, hz⟩
  refine ⟨E, ?_⟩
  exact
    { arr := fun id g e cells hg => by
        have h1 := R.arr id g e cells hg
        cases hΓ : Γ id with
        | none => rw [hΓ] at h1; exact h1
        | some y =>
          obtain ⟨b, base, n⟩ := y
          rw [hΓ] at h1
          obtain ⟨c, a1, a2, a3, a4⟩ := h1
          exact ⟨c, by rw [hk b (R.lt _ _ _ _ hΓ)]; exact a1, a2, a3, fun i hi => let ⟨cv, b1, b2⟩ := a4 i hi; ⟨cv, b1, b2.evo E (Nat.le_refl _)⟩⟩
      loop := fun id st pend n env ps asg body hg => by
        obtain ⟨b, rr, a1, a2, a3, a4, a5, a6, a7, a8, a9⟩ := R.loop id st pend n env ps asg body hg
        exact ⟨b, rr, a1, by rw [hk b (R.lt _ _ _ _ a1)]; exact a2, a3, a4, a5, a6, a7, a8, fun t ht => (a9 t ht).evo E (Nat.le_refl _)⟩
      rsv := R.rsv
      inj := R.inj
      dom := R.dom
      lt := fun id b base n h => Nat.lt_of_lt_of_le (R.lt id b base n h) hs
      next := R.next
      glob := fun g cells h => (R.glob g cells h).evo E (Nat.le_refl _) }

def endA : Option Blk → Option (Option Code × Blk)
  | some (.loop .busy ..) => none
  | some (.loop _ pend n env ps asg body) => some (pend, .loop .exhausted pend n env ps asg body)
  | _ => none

def jumpQ (Q : AX → St → Prop) (s : St) : Option Code → Prop
  | none => Q .normal s
  | some .ret => Q .ret s
  | some (.exit i) => Q (.exit i) s
  | some (.goto i) => Q (.goto i) s
  | _ => False

def rangeQ (rd : Option Nat) (Q : AX → St → Prop) (ρ : Env) (id : Nat) : ARes → AHeap → Prop
  | .ret _, H' => RdIn H' rd ∧ wpo (endA (H'.get id)) fun pb => jumpQ Q ⟨ρ, H'.upd id pb.2⟩ pb.1
  | .panic, H' => RdIn H' rd ∧ Q .panic ⟨ρ, H'⟩

theorem endA_some {x : Option Blk} {pb : Option Code × Blk} (h : endA x = some pb) : ∃ st pend n env ps asg body, x = some (.loop st pend n env ps asg body) ∧ (st == .busy) = false ∧ pb = (pend, .loop .exhausted pend n env ps asg body) := by
  unfold endA at h
  split at h
  · cases h
  · rename_i st pend n env ps asg body hne
    cases h
    refine ⟨_, _, _, _, _, _, _, rfl, ?_, rfl⟩
    cases st with
    | busy => exact absurd rfl (by first | exact hne | exact fun h => hne _ _ _ _ _ _ h)
    | _ => rfl
  · cases h

section
variable {n : Nat} {rd : Option Nat} {Q : AX → St → Prop}

theorem W.rangeFunc {g : Operand} {ps : Array Tmp} {asg body : Code} {s : St} {f : FuncId} {first cap : List AVal} (hg : evA G s.ρ g = .clo f first cap)
    (h : wpo (s.H.lay s.H.next (.loop .ready none n s.ρ ps asg body)) fun H1 => ACall P G f (first ++ [.yld s.H.next] ++ cap) H1 (rangeQ rd Q s.ρ s.H.next)) : W P G n rd (.rangeFunc g ps asg body) Q s := by
  intro wb Γ a w rb hs hr
  obtain ⟨H1, hlay, hcall⟩ := h
  have hlay2 : H1 = ⟨fun j => if j = s.H.next then some (.loop .ready none n s.ρ ps asg body) else s.H.get j, s.H.next + 1⟩ := by
    unfold AHeap.lay at hlay
    rw [if_pos rfl] at hlay
    exact (Option.some.inj hlay).symm
  subst hlay2
  refine wpIn_rangeFunc fun fn _ => ?_
  have he := eval_rel hs g
  rw [hg] at he
  -- the world with the record
  have key : ∀ (w0 : World) (mark : List Deferred) (dblk : Nat), Evo Γ s.H w Γ s.H w0 → RelH P G Γ s.H w0 →
      (∀ d, d ∈ mark ++ a.defers → ∃ r, d = { target := .collected r, args := #[] } ∧ wb ≤ r ∧ DefBlk Γ w0 r) → (mark ++ a.defers).Pairwise (fun d e => d.target ≠ e.target) →
      ∀ w1, w1 = { w0 with heap := w0.heap.push (.loop { state := .ready, pending := none, fn := fn, tmps := a.tmps, params := ps, assign := asg, body := body, defers := dblk }) } →
      (Instr.enterLoop fn a.tmps ps asg body (fenceOf rb).round).run P w = .ok (w0.heap.size, mark) w1 →
      ∃ (l : Nat) (mark : List Deferred) (w₁ : World) (d : Deferred) (w₁' : World) (f : FuncId) (args : Array Value) (w₂ : World),
      (Instr.enterLoop fn a.tmps ps asg body (fenceOf rb).round).run P w = .ok (l, mark) w₁ ∧
      (resolve a.eval (rangeCall g l) 0).run P w₁ = .ok d w₁' ∧
      (∀ f', Target.leads P w₁' d.target d.args = some f' → (fenceOf rb).fn f') ∧
      (invoke d.target d.args).run P w₁' = .ok (.enter f args) w₂ ∧
      ((fenceOf rb).depth.isSome = true → 1 ≤ 0) ∧
      CallsIn (fenceOf rb) (0 - 1) P f args w₂ (rangePost (fenceOf rb) 0 P l (WPost P G n wb rd rb (wr (.rangeFunc g ps asg body)) Γ s.H a w Q) { a with defers := mark ++ a.defers }) := by
    intro w0 mark dblk E0 R0 hdef hnod w1 hw1 hent
    let rec' : Loop := { state := .ready, pending := none, fn := fn, tmps := a.tmps, params := ps, assign := asg, body := body, defers := dblk }
    have hheap : w1.heap = w0.heap.push (.loop rec') := by rw [hw1]
    have hsz1 : w1.heap.size = w0.heap.size + 1 := by rw [hheap]; simp
    have hk1 : ∀ b, b < w0.heap.size → w1.heap[b]? = w0.heap[b]? := fun b hb => by
      rw [hheap, Array.getElem?_push]
      rw [if_neg (by omega)]
    have hget1 : w1.heap[w0.heap.size]? = some (.loop rec') := by rw [hheap]; simp
    obtain ⟨E1, R1⟩ := grow_evo (w' := w1) (by rw [hw1]) (by rw [hw1]) (by rw [hw1]) (by omega) hk1 (frozen_push hheap fun _ _ _ h => by cases h) R0
    let Γ1 : Gam := fun i => if i = s.H.next then some (w0.heap.size, 0, 0) else Γ i
    let H1 : AHeap := ⟨fun j => if j = s.H.next then some (.loop .ready none n s.ρ ps asg body) else s.H.get j, s.H.next + 1⟩
    have hfresh : ∀ i y, s.H.get i = some y → i ≠ s.H.next := fun i y hy h => by have := R0.next i y hy; omega
    have hΓfresh : ∀ i x, Γ i = some x → i ≠ s.H.next := fun i x hx => let ⟨y, hy⟩ := R0.dom i x hx; hfresh i y hy
    have hΓ1 : ∀ i, i ≠ s.H.next → Γ1 i = Γ i := fun i hi => by simp only [Γ1]; rw [if_neg hi]
    have hH1 : ∀ i, i ≠ s.H.next → H1.get i = s.H.get i := fun i hi => by simp only [H1]; rw [if_neg hi]
    have E2 : Evo Γ s.H w0 Γ1 H1 w1 :=
      { os := by rw [hw1], tape := by rw [hw1], output := by rw [hw1], size := by omega
        keep := fun b hb ho => ⟨hk1 b hb, by
          rintro ⟨i, base, m, hi⟩
          simp only [Γ1] at hi
          split at hi
          · simp only [Option.some.injEq, Prod.mk.injEq] at hi
            omega
          · exact ho ⟨i, base, m, hi⟩⟩
        live := fun i hi _ x' hx => by
          rw [hH1 i (by omega)] at hx
          refine ⟨x', hx, ?_⟩
          have hΓi : Γ1 i = Γ i := hΓ1 i (by omega)
          cases x' with
          | arr => exact ⟨Nat.le_refl _, fun _ => ⟨hΓi, rfl, rfl⟩⟩
          | loop => exact ⟨hΓi, rfl, rfl, rfl, rfl, rfl⟩
          | rsv => trivial
        frz := frozen_push hheap fun _ _ _ h => by cases h }
    have hn1 : s.H.next ≤ H1.next := Nat.le_succ _
    have tr : ∀ v cv, RelV P Γ s.H w0 v cv → RelV P Γ1 H1 w1 v cv := fun v cv h => h.evo E2 hn1
    have R2 : RelH P G Γ1 H1 w1 :=
      { arr := fun i g e cells hi => by
          by_cases hii : i = s.H.next
          · simp only [H1] at hi; rw [if_pos hii] at hi; simp at hi
          · rw [hH1 i hii] at hi
            have h := R0.arr i g e cells hi
            rw [hΓ1 i hii]
            cases hΓ : Γ i with
            | none => rw [hΓ] at h; exact h
            | some y =>
              obtain ⟨b, base, m⟩ := y
              rw [hΓ] at h
              obtain ⟨c, a1, a2, a3, a4⟩ := h
              exact ⟨c, by rw [hk1 b (R0.lt _ _ _ _ hΓ)]; exact a1, a2, a3, fun j hj => let ⟨cv, b1, b2⟩ := a4 j hj; ⟨cv, b1, tr _ _ b2⟩⟩
        loop := fun i st2 pend2 n2 env2 ps2 asg2 body2 hi => by
          by_cases hii : i = s.H.next
          · simp only [H1] at hi
            rw [if_pos hii] at hi
            simp only [Option.some.injEq, Blk.loop.injEq] at hi
            obtain ⟨rfl, rfl, rfl, rfl, rfl, rfl, rfl⟩ := hi
            refine ⟨w0.heap.size, rec', by simp only [Γ1]; rw [if_pos hii], hget1, rfl, rfl, rfl, rfl, rfl, hs.size, fun t ht => ?_⟩
            have := ((hs.env t).evo E0 (Nat.le_refl _)).evo E2 hn1
            have e1 : a.tmps.getD t undef = a.tmps[t]'ht := by
              have : t < a.tmps.size := ht
              simp [this]
            rw [e1] at this
            exact this
          · rw [hH1 i hii] at hi
            obtain ⟨b2, r2, a1, a2, a3, a4, a5, a6, a7, a8, a9⟩ := R0.loop i _ _ _ _ _ _ _ hi
            exact ⟨b2, r2, by rw [hΓ1 i hii]; exact a1, by rw [hk1 b2 (R0.lt _ _ _ _ a1)]; exact a2, a3, a4, a5, a6, a7, a8, fun t ht => tr _ _ (a9 t ht)⟩
        rsv := fun i hi => by
          by_cases hii : i = s.H.next
          · simp only [H1] at hi; rw [if_pos hii] at hi; simp at hi
          · rw [hH1 i hii] at hi
            rw [hΓ1 i hii]; exact R0.rsv i hi
        inj := fun i i' b base m base' m' h h' => by
          by_cases h1 : i = s.H.next
          · by_cases h2 : i' = s.H.next
            · rw [h1, h2]
            · rw [hΓ1 i' h2] at h'
              simp only [Γ1] at h
              rw [if_pos h1] at h
              simp only [Option.some.injEq, Prod.mk.injEq] at h
              have := R0.lt _ _ _ _ h'
              omega
          · by_cases h2 : i' = s.H.next
            · rw [hΓ1 i h1] at h
              simp only [Γ1] at h'
              rw [if_pos h2] at h'
              simp only [Option.some.injEq, Prod.mk.injEq] at h'
              have := R0.lt _ _ _ _ h
              omega
            · rw [hΓ1 i h1] at h
              rw [hΓ1 i' h2] at h'
              exact R0.inj _ _ _ _ _ _ _ h h'
        dom := fun i x hi => by
          by_cases hii : i = s.H.next
          · simp only [H1]; rw [if_pos hii]; exact ⟨_, rfl⟩
          · rw [hΓ1 i hii] at hi
            rw [hH1 i hii]; exact R0.dom i x hi
        lt := fun i b base m hi => by
          by_cases hii : i = s.H.next
          · simp only [Γ1] at hi
            rw [if_pos hii] at hi
            simp only [Option.some.injEq, Prod.mk.injEq] at hi
            omega
          · rw [hΓ1 i hii] at hi
            have := R0.lt _ _ _ _ hi
            omega
        next := fun i y hi => by
          by_cases hii : i = s.H.next
          · show i < s.H.next + 1; omega
          · rw [hH1 i hii] at hi
            have := R0.next i y hi
            show i < s.H.next + 1; omega
        glob := fun g cells h => tr _ _ (R0.glob g cells h) }
    have E3 : Evo Γ s.H w Γ1 H1 w1 := E0.trans (Nat.le_refl _) E2
    generalize hcg : a.eval g = cg at he
    cases he with
    | @clo _ _ _ fs cs hfs hcs hf hc =>
      obtain ⟨⟨fn', hfn', hb', hname'⟩, hcall⟩ := hcall
      have hyld : RelV P Γ1 H1 w1 (.yld s.H.next) (.func (.yield w0.heap.size) #[] #[]) :=
        .yld ⟨Nat.lt_succ_self _, rfl, by simp [H1], fun st pend n env ps asg body hgi => ⟨w0.heap.size, by simp [Γ1], rfl⟩⟩
      have hargs : RelL P Γ1 H1 w1 (first ++ [.yld s.H.next] ++ cap) (fs.toArray ++ #[.func (.yield w0.heap.size) #[] #[]] ++ cs.toArray) := by
        refine relL_append (relL_append ⟨by simpa using hfs, fun i h1 h2 => ?_⟩ ⟨rfl, fun i h1 h2 => ?_⟩) ⟨by simpa using hcs, fun i h1 h2 => ?_⟩
        · exact (by simpa using hf i h1 (by simpa using h2) : RelV P Γ s.H w first[i] (fs.toArray[i])).evo E3 hn1
        · have : i = 0 := by simp at h1; omega
          subst this
          exact hyld
        · exact (by simpa using hc i h1 (by simpa using h2) : RelV P Γ s.H w cap[i] (cs.toArray[i])).evo E3 hn1
      refine ⟨w0.heap.size, mark, w1, { target := .fn (.func f) cs.toArray, args := fs.toArray ++ #[.func (.yield w0.heap.size) #[] #[]] }, w1, f, fs.toArray ++ #[.func (.yield w0.heap.size) #[] #[]] ++ cs.toArray, w1, hent, ?_, fun _ _ => trivial, ?_, fun hc => by simp [Fence.wide] at hc, ?_⟩
      · have hm : Array.map a.eval #[Operand.const (.func (.yield w0.heap.size) #[] #[])] = #[.func (.yield w0.heap.size) #[] #[]] := by simp [Act.eval]
        unfold resolve
        simp only [hcg, hm]
        rfl
      · show (callFunc f (fs.toArray ++ #[.func (.yield w0.heap.size) #[] #[]] ++ cs.toArray)).run P w1 = _
        unfold callFunc
        rw [run_bind_ok (run_program P w1)]
        simp only [hfn']
        rw [hname', hb']
        rfl
      · have h4 : CallsIn (fenceOf rb) 0 P f (fs.toArray ++ #[.func (.yield w0.heap.size) #[] #[]] ++ cs.toArray) w1 _ := hcall Γ1 w1 _ R2 hargs
        refine h4.mono ?_
        rintro e w3 ⟨r, H', Γ', hend, hk, R', E', hn'⟩
        have E5 : Evo Γ s.H w Γ' H' w3 := E3.trans hn1 E'
        have hn5 : s.H.next ≤ H'.next := Nat.le_trans hn1 hn'
        have mkS : ∀ (H'' : AHeap) (w4 : World), RelH P G Γ' H'' w4 → Evo Γ s.H w Γ' H'' w4 → Evo Γ s.H w0 Γ' H'' w4 → s.H.next ≤ H''.next → RelS P G n wb Γ' ⟨s.ρ, H''⟩ { a with defers := mark ++ a.defers } w4 :=
          fun H'' w4 R'' E'' E0'' hn'' => ⟨hs.size, fun t => (hs.env t).evo E'' hn'', R'', fun d hd => let ⟨r, h1, h2, h3⟩ := hdef d hd; ⟨r, h1, h2, h3.evo E0''⟩, hnod, Nat.le_trans hs.low E''.size⟩
        cases e with
        | returned cv =>
          cases r with
          | panic => exact hend.elim
          | ret v =>
            obtain ⟨hri, pb, hpb, hj⟩ := hk
            obtain ⟨st, pend, n2, env2, ps2, asg2, body2, hgl, hbusy, rfl⟩ := endA_some hpb
            obtain ⟨b, r2, hΓb, hb, l1, l2, l3, l4, l5, l6, l7, lset⟩ := loop_set R' hgl
            obtain ⟨R6, E6⟩ := lset .exhausted r2.pending
            have hbl : b = w0.heap.size := by
              obtain ⟨x, hx, hle⟩ := E'.live s.H.next (Nat.lt_succ_self _) (Nat.lt_of_lt_of_le (Nat.lt_succ_self _) hn') _ hgl
              have hx' : H1.get s.H.next = some (.loop .ready none n s.ρ ps asg body) := by simp [H1]
              rw [hx'] at hx
              cases hx
              have h1 := hle.1
              rw [hΓb] at h1
              simp only [Γ1, if_true, Option.some.injEq, Prod.mk.injEq] at h1
              exact h1.1
            subst hbl
            have hend' := run_endLoop (P := P) hb (by rw [l1]; exact hbusy)
            rw [l2] at R6 E6 hend'
            refine ⟨pend, _, hend', ?_⟩
            have E7 := E5.trans hn5 E6
            have hS := mkS _ _ R6 E7 ((E2.trans hn1 E').trans hn5 E6) hn5
            have hri' : RdIn (H'.upd s.H.next (.loop .exhausted pend n2 env2 ps2 asg2 body2)) rd := by
              cases rd with
              | none => trivial
              | some i =>
                obtain ⟨st3, pend3, n3, env3, ps3, asg3, body3, h3⟩ := hri
                by_cases hii : i = s.H.next
                · exact ⟨_, _, _, _, _, _, _, by rw [upd_get, if_pos hii]⟩
                · exact ⟨_, _, _, _, _, _, _, by rw [upd_get, if_neg hii]; exact h3⟩
            have hR := hr.evo E7 hn5 hs.heap hri'
            have post : ∀ (e : Exit) (x : AX), ExitRel e x → Q x ⟨s.ρ, H'.upd s.H.next (.loop .exhausted pend n2 env2 ps2 asg2 body2)⟩ → WPost P G n wb rd rb (wr (.rangeFunc g ps asg body)) Γ s.H a w Q e { a with defers := mark ++ a.defers } _ :=
              fun e x hx hq => ⟨x, _, Γ', hx, hq, hS, E7, hn5, hR, fun t _ => rfl⟩
            simp only at hj
            cases pend with
            | none => exact post .normal .normal trivial hj
            | some c =>
              cases c with
              | ret => exact wpIn_ret (post .ret .ret trivial hj)
              | exit i => exact wpIn_exit (post (.exit i) (.exit i) rfl hj)
              | goto i => exact wpIn_goto (post (.goto i) (.goto i) rfl hj)
              | _ => exact hj.elim
        | panicked chain =>
          cases r with
          | ret v => exact hend.elim
          | panic =>
            exact ⟨.panic, _, Γ', hend, hk.2, mkS _ _ R' E5 (E2.trans hn1 E') hn5, E5, hn5, hr.evo E5 hn5 hs.heap hk.1, fun t _ => rfl⟩
        | outgrown => cases r <;> exact hend.elim
  cases rb with
  | none =>
    let w0 : World := { w with heap := w.heap.push (.deferred (some [])) }
    have hk0 : ∀ b, b < w.heap.size → w0.heap[b]? = w.heap[b]? := fun b hb => by
      show (w.heap.push _)[b]? = _
      rw [Array.getElem?_push, if_neg (by omega)]
    obtain ⟨E0, R0⟩ := grow_evo (w := w) (w' := w0) rfl rfl rfl (by simp [w0]) hk0 (frozen_push (o := .deferred (some [])) rfl fun _ _ _ h => by cases h) hs.heap
    refine key w0 [{ target := .collected w.heap.size, args := #[] }] w.heap.size E0 R0 ?_ ?_ _ rfl rfl
    · intro d hd
      simp only [List.cons_append, List.nil_append, List.mem_cons] at hd
      rcases hd with rfl | hd
      · refine ⟨w.heap.size, rfl, hs.low, ?_, by simp [w0]⟩
        rintro ⟨i, base, m, hi⟩
        have := hs.heap.lt _ _ _ _ hi
        omega
      · obtain ⟨r, h1, h2, h3⟩ := hs.defers d hd
        exact ⟨r, h1, h2, h3.evo E0⟩
    · simp only [List.cons_append, List.nil_append]
      refine List.pairwise_cons.2 ⟨fun d hd => ?_, hs.nodup⟩
      obtain ⟨r, h1, h2, h3⟩ := hs.defers d hd
      rw [h1]
      intro he
      simp only [Target.collected.injEq] at he
      have h4 := h3.2
      rw [← he, Array.getElem?_eq_none (Nat.le_refl _)] at h4
      cases h4
  | some b0 =>
    have hlr : ∃ r, w.heap[b0]? = some (.loop r) := by
      cases rd with
      | none => cases hr
      | some id =>
        obtain ⟨b, st, pend, n', env, ps', asg', body', h1, h2, h3⟩ := hr
        obtain ⟨b', r, h4, h5, _⟩ := hs.heap.loop _ _ _ _ _ _ _ _ h3
        rw [h2] at h4
        simp only [Option.some.injEq, Prod.mk.injEq] at h4 h1
        rw [h1, h4.1]
        exact ⟨r, h5⟩
    obtain ⟨r, hlr⟩ := hlr
    refine key w [] r.defers (Evo.refl _ _ _) hs.heap (by simpa using hs.defers) (by simpa using hs.nodup) _ rfl ?_
    show (Instr.enterLoop fn a.tmps ps asg body (some b0)).run P w = _
    unfold Instr.enterLoop
    simp only [bind_assoc, pure_bind]
    rw [run_bind_ok (run_getLoop hlr)]
    rfl
end

end Go.Hx
