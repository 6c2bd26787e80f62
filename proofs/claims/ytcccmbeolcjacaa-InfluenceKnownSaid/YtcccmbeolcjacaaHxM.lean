/-
  Calls, regions, and the formula that says what a piece of code does. Own work: no program stands in this text.
-/
import Derived.Test.YtcccmbeolcjacaaHxL
namespace Go.Hx
variable {P : Program} {G : Nat → Option (List AVal)} {Γ Γ' : Gam} {H H' : AHeap} {w w' : World}

inductive ARes where
  | ret (v : AVal)
  | panic

def EndRel (P : Program) (Γ : Gam) (H : AHeap) (w : World) : Ending → ARes → Prop
  | .returned cv, .ret v => RelV P Γ H w v cv
  | .panicked chain, .panic => ChainOk chain
  | _, _ => False

def CPost (P : Program) (G : Nat → Option (List AVal)) (Γ : Gam) (H : AHeap) (w : World) (K : ARes → AHeap → Prop) (e : Ending) (w' : World) : Prop :=
  ∃ r H' Γ', EndRel P Γ' H' w' e r ∧ K r H' ∧ RelH P G Γ' H' w' ∧ Evo Γ H w Γ' H' w' ∧ H.next ≤ H'.next

/-- A Go function called. -/
def ACall (P : Program) (G : Nat → Option (List AVal)) (f : FuncId) (args : List AVal) (H : AHeap) (K : ARes → AHeap → Prop) : Prop :=
  (∃ fn, P.funcs[f]? = some fn ∧ fn.body.isNone = false ∧ (fn.name == "runtime.NumGoroutine") = false) ∧
  ∀ Γ w cargs, RelH P G Γ H w → RelL P Γ H w args cargs → CallsIn Fence.wide 0 P f cargs w (CPost P G Γ H w K)

/-- A function value called. -/
def AApply (P : Program) (G : Nat → Option (List AVal)) (fv : AVal) (args : List AVal) (H : AHeap) (K : ARes → AHeap → Prop) : Prop :=
  ∀ Γ w cfv cargs, RelH P G Γ H w → RelV P Γ H w fv cfv → RelL P Γ H w args cargs →
    ∃ d, (Deferred.ofValue cfv cargs).run P w = .ok d w ∧
      ((∃ f as, (invoke d.target d.args).run P w = .ok (.enter f as) w ∧ CallsIn Fence.wide 0 P f as w (CPost P G Γ H w K)) ∨
       (∃ l f tm asg body, (invoke d.target d.args).run P w = .ok (.round l f tm asg body) w ∧ RoundIn Fence.wide 0 P l f tm asg body w (CPost P G Γ H w K)))

theorem CPost.mono {K K' : ARes → AHeap → Prop} {e : Ending} (h : CPost P G Γ H w K e w') (hk : ∀ r H', K r H' → K' r H') : CPost P G Γ H w K' e w' :=
  let ⟨r, H', Γ', h1, h2, h3⟩ := h; ⟨r, H', Γ', h1, hk _ _ h2, h3⟩

theorem ACall.mono {f : FuncId} {args : List AVal} {K K' : ARes → AHeap → Prop} (h : ACall P G f args H K) (hk : ∀ r H', K r H' → K' r H') : ACall P G f args H K' :=
  ⟨h.1, fun Γ w cargs R hr => (h.2 Γ w cargs R hr).mono fun _ _ hp => hp.mono hk⟩

theorem AApply.mono {fv : AVal} {args : List AVal} {K K' : ARes → AHeap → Prop} (h : AApply P G fv args H K) (hk : ∀ r H', K r H' → K' r H') : AApply P G fv args H K' := by
  intro Γ w cfv cargs R hv hr
  obtain ⟨d, h1, h2⟩ := h Γ w cfv cargs R hv hr
  refine ⟨d, h1, ?_⟩
  rcases h2 with ⟨f, as, h3, h4⟩ | ⟨l, f, tm, asg, body, h3, h4⟩
  · exact .inl ⟨f, as, h3, h4.mono fun _ _ hp => hp.mono hk⟩
  · exact .inr ⟨l, f, tm, asg, body, h3, h4.mono fun _ _ hp => hp.mono hk⟩

theorem relL_append {a b : List AVal} {x y : Array Value} (h : RelL P Γ H w a x) (k : RelL P Γ H w b y) : RelL P Γ H w (a ++ b) (x ++ y) := by
  refine ⟨by rw [Array.size_append, List.length_append, h.1, k.1], fun i h1 h2 => ?_⟩
  have hx := h.1
  by_cases hi : i < a.length
  · rw [List.getElem_append_left hi, Array.getElem_append_left (by omega)]
    exact h.2 i hi _
  · rw [List.getElem_append_right (by omega), Array.getElem_append_right (by omega)]
    simp only [hx]
    exact k.2 _ (by simp only [List.length_append] at h1; omega) _

theorem AApply.clo {f : FuncId} {first cap args : List AVal} {K : ARes → AHeap → Prop} (h : ACall P G f (first ++ args ++ cap) H K) : AApply P G (.clo f first cap) args H K := by
  intro Γ w cfv cargs R hv hr
  cases hv with
  | @clo _ _ _ fs cs hfs hcs hf hc =>
    refine ⟨{ target := .fn (.func f) cs.toArray, args := fs.toArray ++ cargs }, rfl, .inl ⟨f, fs.toArray ++ cargs ++ cs.toArray, ?_, ?_⟩⟩
    · obtain ⟨fn, hfn, hb, hn⟩ := h.1
      show (callFunc f (fs.toArray ++ cargs ++ cs.toArray)).run P w = _
      unfold callFunc
      rw [run_bind_ok (run_program P w)]
      simp only [hfn]
      rw [hn, hb]
      rfl
    · exact h.2 Γ w _ R (relL_append (relL_append ⟨by simpa using hfs, fun i h1 h2 => by simpa using hf i h1 (by simpa using h2)⟩ hr) ⟨by simpa using hcs, fun i h1 h2 => by simpa using hc i h1 (by simpa using h2)⟩)

/-! ### regions -/

def wpo {α : Type} (o : Option α) (K : α → Prop) : Prop := ∃ a, o = some a ∧ K a

def putA (ρ : Env) (dst : Option Tmp) (v : AVal) : Env :=
  match dst with
  | some d => fun t => if t = d then v else ρ t
  | none => ρ

/-- Does the operation run? -/
def wantA (all : Array Oper) (ρ : Env) (o : Oper) : Option Bool :=
  match o.guard with
  | none => some true
  | some (j, want) =>
    match (all[j]?).bind (·.dst) with
    | some d => match ρ d with
      | .lit (.bool b) => some (b == want)
      | .lit _ => some false
      | _ => none
    | none => some false

def dstOk (n : Nat) (o : Oper) : Bool := match o.dst with | some d => decide (d < n) | none => true

/-- A slice set beside nil: how long the slice is, that decides (where it has no elements, it may be either). -/
def nilOf (op : BinOp) (x y : AVal) : Option Bool :=
  match op, y with
  | .eql, .lit (.slice none 0 0) | .neq, .lit (.slice none 0 0) => match x with
    | .vec n _ => some (decide (0 < n))
    | _ => none
  | _, _ => none

def sliceT (d : Option TypeDesc) : Bool := match d with | some (.slice _) => true | _ => false

def nilK (P : Program) (op : BinOp) (t : TypeId) (k : Option Bool) (Kb : AVal → Prop) (p : Prop) : Prop :=
  match k with
  | some k => sliceT (P.underlying t) = true ∧ ∀ b : Bool, (k = true → b = false) → Kb (.lit (.bool (if op == .neq then !b else b)))
  | none => p

def opV (P : Program) (G : Nat → Option (List AVal)) (rd : Option Nat) (Q : AX → St → Prop) (o : Oper) (K : St → Prop) (s : St) : Prop :=
  match o.op with
  | .call { callee := .value fv, args, .. } => AApply P G (evA G s.ρ fv) (args.toList.map (evA G s.ρ)) s.H fun r H' => RdIn H' rd ∧ match r with
    | .ret v => K ⟨putA s.ρ o.dst v, H'⟩
    | .panic => Q .panic ⟨s.ρ, H'⟩
  | .panic x => (∃ t v, (evA G s.ρ x) = .lit (.iface t v)) ∧ Q .panic s
  | .binOp op t x y u => nilK P op t (nilOf op (evA G s.ρ x) (evA G s.ρ y)) (fun v => K ⟨putA s.ρ o.dst v, s.H⟩) (wpo (opA P G s.ρ s.H s.H.next (.binOp op t x y u)) fun vH => K ⟨putA s.ρ o.dst vH.1, vH.2⟩)
  | op => wpo (opA P G s.ρ s.H s.H.next op) fun vH => K ⟨putA s.ρ o.dst vH.1, vH.2⟩

def opsV (P : Program) (G : Nat → Option (List AVal)) (rd : Option Nat) (Q : AX → St → Prop) (all : Array Oper) : List Oper → St → Prop
  | [], s => Q .normal s
  | o :: rest, s => wpo (wantA all s.ρ o) fun t => if t = true then opV P G rd Q o (opsV P G rd Q all rest) s else opsV P G rd Q all rest ⟨putA s.ρ o.dst (.lit undef), s.H⟩

theorem want_sound {n wb : Nat} {s : St} {a : Act} {all : Array Oper} {o : Oper} {t : Bool} (hs : RelS P G n wb Γ s a w) (h : wantA all s.ρ o = some t) : Region.wanted o (yielded all a.tmps) = t := by
  unfold wantA at h
  unfold Region.wanted
  split at h
  · rename_i hg
    rw [hg]
    simpa using h
  · rename_i j want hg
    rw [hg]
    simp only
    split at h
    · rename_i d hd
      have he := hs.env d
      have hy : yielded all a.tmps j = match a.tmps[d]? with | some (.bool b) => some b | _ => none := by
        unfold yielded
        rw [hd]
        rfl
      rw [hy]
      have hgd : a.tmps.getD d undef = (a.tmps[d]?).getD undef := by simp
      rw [hgd] at he
      split at h
      · rename_i b hb
        rw [hb] at he
        simp only [Option.some.injEq] at h
        cases hd : a.tmps[d]? with
        | none => rw [hd] at he; cases he
        | some v =>
          rw [hd] at he
          cases he
          simp only
          rw [← h]
          cases b <;> cases want <;> rfl
      · rename_i v hnb hb
        rw [hb] at he
        simp only [Option.some.injEq] at h
        subst h
        cases hd : a.tmps[d]? with
        | none => simp
        | some cv =>
          rw [hd] at he
          cases he
          cases cv with
          | bool b => exact (hnb b rfl).elim
          | _ => rfl
      · cases h
    · rename_i hd
      have hy : yielded all a.tmps j = none := by unfold yielded; rw [hd]; rfl
      rw [hy]
      simpa using h

theorem put_rel {n wb : Nat} {s : St} {a : Act} {dst : Option Tmp} {v : AVal} {cv : Value} {H' : AHeap} (hs : RelS P G n wb Γ s a w) (hd : ∀ d, dst = some d → d < n) (E : Evo Γ s.H w Γ' H' w') (hn : s.H.next ≤ H'.next)
    (R : RelH P G Γ' H' w') (hv : RelV P Γ' H' w' v cv) : RelS P G n wb Γ' ⟨putA s.ρ dst v, H'⟩ (a.put dst cv) w' := by
  cases dst with
  | none => exact ⟨hs.size, fun t => (hs.env t).evo E hn, R, fun d h => let ⟨r, h1, h2, h3⟩ := hs.defers d h; ⟨r, h1, h2, h3.evo E⟩, hs.nodup, Nat.le_trans hs.low E.size⟩
  | some d =>
    have hdn := hd d rfl
    refine ⟨by simp [Act.put, hs.size], fun t => ?_, R, fun e h => let ⟨r, h1, h2, h3⟩ := hs.defers e h; ⟨r, h1, h2, h3.evo E⟩, hs.nodup, Nat.le_trans hs.low E.size⟩
    simp only [Act.put, putA]
    by_cases ht : t = d
    · subst ht
      rw [if_pos rfl]
      have : (a.tmps.setIfInBounds t cv).getD t undef = cv := by simp [hs.size, hdn]
      rw [this]
      exact hv
    · rw [if_neg ht]
      have : (a.tmps.setIfInBounds d cv).getD t undef = a.tmps.getD t undef := by
        simp only [Array.getD_eq_getD_getElem?]
        rw [Array.getElem?_setIfInBounds, if_neg (by omega)]
      rw [this]
      exact (hs.env t).evo E hn

theorem RdOk.evo {rd rb : Option Nat} (h : RdOk Γ H rd rb) (E : Evo Γ H w Γ' H' w') (hn : H.next ≤ H'.next) (R : RelH P G Γ H w) (hi : RdIn H' rd) : RdOk Γ' H' rd rb := by
  cases rd with
  | none => exact h
  | some id =>
    obtain ⟨b, st, pend, n, env, ps, asg, body, h1, h2, h3⟩ := h
    obtain ⟨st', pend', n', env', ps', asg', body', h3'⟩ := hi
    have hlt := R.next id _ h3
    obtain ⟨x, hx, hle⟩ := E.live id hlt (Nat.lt_of_lt_of_le hlt hn) _ h3'
    rw [h3] at hx
    cases hx
    exact ⟨b, _, _, _, _, _, _, _, h1, hle.1.trans h2, h3'⟩

theorem lay_keeps {id : Nat} {b : Blk} (h : H.lay id b = some H') {j : Nat} {st : LoopState} {pend : Option Code} {n : Nat} {env : Env} {ps : Array Tmp} {asg body : Code}
    (hj : H.get j = some (.loop st pend n env ps asg body)) (hlt : j < H.next) : H'.get j = some (.loop st pend n env ps asg body) := by
  obtain ⟨h1, _⟩ := lay_some h
  have hne : j ≠ id := by
    rintro rfl
    unfold AHeap.lay at h
    rw [if_neg (by omega), hj] at h
    cases h
  rw [h1, if_neg hne]
  exact hj

theorem rdIn_of_live {rd rb : Option Nat} (h : RdOk Γ H rd rb) (hk : ∀ j st pend n env ps asg body, H.get j = some (.loop st pend n env ps asg body) → ∃ st pend n env ps asg body, H'.get j = some (.loop st pend n env ps asg body)) : RdIn H' rd := by
  cases rd with
  | none => trivial
  | some id =>
    obtain ⟨b, st, pend, n, env, ps, asg, body, h1, h2, h3⟩ := h
    exact hk id _ _ _ _ _ _ _ h3

/-- The loops that are there stay there under every operation. -/
theorem opA_loops {ρ : Env} {o : Op} {v : AVal} {id : Nat} (R : RelH P G Γ H w) (h : opA P G ρ H id o = some (v, H')) : ∀ j st pend n env ps asg body, H.get j = some (.loop st pend n env ps asg body) →
    ∃ st pend n env ps asg body, H'.get j = some (.loop st pend n env ps asg body) := by
  have same : H' = H → ∀ j st pend n env ps asg body, H.get j = some (.loop st pend n env ps asg body) → ∃ st pend n env ps asg body, H'.get j = some (.loop st pend n env ps asg body) := by
    rintro rfl j st pend n env ps asg body hj
    exact ⟨_, _, _, _, _, _, _, hj⟩
  have lay : ∀ b, H.lay id b = some H' → ∀ j st pend n env ps asg body, H.get j = some (.loop st pend n env ps asg body) → ∃ st pend n env ps asg body, H'.get j = some (.loop st pend n env ps asg body) := by
    intro b hb j st pend n env ps asg body hj
    exact ⟨_, _, _, _, _, _, _, lay_keeps hb hj (R.next j _ hj)⟩
  have upd : ∀ id g e cells b, H.get id = some (.arr g e cells) → H' = H.upd id b → ∀ j st pend n env ps asg body, H.get j = some (.loop st pend n env ps asg body) → ∃ st pend n env ps asg body, H'.get j = some (.loop st pend n env ps asg body) := by
    rintro id g e cells b hb rfl j st pend n env ps asg body hj
    refine ⟨st, pend, n, env, ps, asg, body, ?_⟩
    rw [upd_get, if_neg]
    · exact hj
    · rintro rfl
      rw [hb] at hj
      cases hj
  cases o with
  | alloc e =>
    simp only [opA, Option.bind_eq_some_iff, Option.map_eq_some_iff, Prod.mk.injEq] at h
    obtain ⟨_, _, _, hl, _, rfl⟩ := h
    exact lay _ hl
  | box e x =>
    simp only [opA, Option.map_eq_some_iff, Prod.mk.injEq] at h
    obtain ⟨_, hl, _, rfl⟩ := h
    exact lay _ hl
  | buildSlice t len parts =>
    simp only [opA, buildSliceA] at h
    split at h
    · split at h
      · simp only [Option.bind_eq_some_iff, Option.map_eq_some_iff, Prod.mk.injEq] at h
        obtain ⟨_, _, _, _, _, hl, _, rfl⟩ := h
        exact lay _ hl
      · cases h
    · cases h
  | store t a x =>
    simp only [opA] at h
    split at h
    · simp only [Option.map_eq_some_iff, Prod.mk.injEq] at h
      obtain ⟨_, hst, _, rfl⟩ := h
      unfold storeA at hst
      split at hst
      · split at hst
        · rename_i hg
          split at hst
          · simp only [Option.some.injEq] at hst
            exact upd _ _ _ _ _ hg hst.symm
          · cases hst
        · cases hst
      · cases hst
    · cases h
  | makeSlice t l c =>
    simp only [opA, makeSliceA] at h
    split at h
    · split at h
      · simp only [Option.bind_eq_some_iff, Option.map_eq_some_iff, Prod.mk.injEq] at h
        obtain ⟨_, _, _, hl, _, rfl⟩ := h
        exact lay _ hl
      · cases h
    · cases h
  | call c =>
    simp only [opA] at h
    split at h
    · rename_i b hb
      unfold builtinA at h
      split at h
      · simp only [Option.map_eq_some_iff, Prod.mk.injEq] at h
        obtain ⟨_, _, _, rfl⟩ := h
        exact same rfl
      · unfold appendA at h
        split at h
        · split at h
          · simp only [Option.bind_eq_some_iff] at h
            obtain ⟨_, _, _, _, h⟩ := h
            split at h
            · split at h
              · simp only [Option.some.injEq, Prod.mk.injEq] at h
                exact same h.2.symm
              · split at h
                · simp only [Option.map_eq_some_iff, Prod.mk.injEq] at h
                  obtain ⟨_, hl, _, rfl⟩ := h
                  exact lay _ hl
                · cases h
            · simp only [Option.bind_eq_some_iff] at h
              obtain ⟨⟨e', cells⟩, hl, h⟩ := h
              simp only at h
              split at h
              · split at h
                · simp only [Option.some.injEq, Prod.mk.injEq] at h
                  exact same h.2.symm
                · simp only [Option.some.injEq, Prod.mk.injEq] at h
                  exact upd _ _ _ _ _ (live_some hl) h.2.symm
              · cases h
            · cases h
          · cases h
        · cases h
      · unfold copyA at h
        split at h
        · split at h
          · simp only [Option.bind_eq_some_iff] at h
            obtain ⟨_, _, h⟩ := h
            split at h
            · simp only [Option.bind_eq_some_iff] at h
              obtain ⟨⟨e', cells⟩, hl, h⟩ := h
              simp only at h
              split at h
              · simp only [Option.some.injEq, Prod.mk.injEq] at h
                exact upd _ _ _ _ _ (live_some hl) h.2.symm
              · cases h
            · cases h
          · cases h
        · cases h
      · simp only [Option.bind_eq_some_iff, Option.map_eq_some_iff, Prod.mk.injEq] at h
        obtain ⟨_, _, _, _, _, rfl⟩ := h
        exact same rfl
      · simp only [Option.bind_eq_some_iff, Option.map_eq_some_iff, Prod.mk.injEq] at h
        obtain ⟨_, _, _, _, _, rfl⟩ := h
        exact same rfl
      · cases h
    · cases h
  | pick c a b =>
    simp only [opA] at h
    split at h
    · simp only [Option.some.injEq, Prod.mk.injEq] at h; exact same h.2.symm
    · cases h
  | makeFunc fn f c =>
    simp only [opA] at h
    split at h
    · simp only [Option.some.injEq, Prod.mk.injEq] at h; exact same h.2.symm
    · cases h
  | makeInterface t x =>
    simp only [opA] at h
    split at h
    · simp only [Option.map_eq_some_iff, Prod.mk.injEq] at h
      obtain ⟨_, _, _, rfl⟩ := h
      exact same rfl
    · cases h
  | slice t x lo hi mx =>
    simp only [opA] at h
    split at h
    · simp only [Option.map_eq_some_iff, Prod.mk.injEq] at h
      obtain ⟨_, _, _, rfl⟩ := h
      exact same rfl
    · cases h
  | fieldAddr s x f =>
    simp only [opA, Option.bind_eq_some_iff] at h
    obtain ⟨_, _, h⟩ := h
    split at h
    · simp only [Option.map_eq_some_iff, Prod.mk.injEq] at h
      obtain ⟨_, _, _, rfl⟩ := h
      exact same rfl
    · simp only [Option.some.injEq, Prod.mk.injEq] at h; exact same h.2.symm
    · cases h
  | field s x f =>
    simp only [opA, Option.bind_eq_some_iff] at h
    obtain ⟨_, _, h⟩ := h
    split at h
    · simp only [Option.map_eq_some_iff, Prod.mk.injEq] at h
      obtain ⟨_, _, _, rfl⟩ := h
      exact same rfl
    · simp only [Option.map_eq_some_iff, Prod.mk.injEq] at h
      obtain ⟨_, _, _, rfl⟩ := h
      exact same rfl
    · cases h
  | indexAddr t x i =>
    simp only [opA] at h
    split at h
    · simp only [Option.map_eq_some_iff, Prod.mk.injEq] at h
      obtain ⟨_, _, _, rfl⟩ := h
      exact same rfl
    · cases h
  | move x => simp only [opA, Option.some.injEq, Prod.mk.injEq] at h; exact same h.2.symm
  | assign x => simp only [opA, Option.some.injEq, Prod.mk.injEq] at h; exact same h.2.symm
  | build t p => simp only [opA, Option.map_eq_some_iff, Prod.mk.injEq] at h; obtain ⟨_, _, _, rfl⟩ := h; exact same rfl
  | load t p => simp only [opA, Option.map_eq_some_iff, Prod.mk.injEq] at h; obtain ⟨_, _, _, rfl⟩ := h; exact same rfl
  | nilCheck p => simp only [opA, Option.map_eq_some_iff, Prod.mk.injEq] at h; obtain ⟨_, _, _, rfl⟩ := h; exact same rfl
  | binOp a b c d e => simp only [opA, Option.map_eq_some_iff, Prod.mk.injEq] at h; obtain ⟨_, _, _, rfl⟩ := h; exact same rfl
  | unOp a b c => simp only [opA, Option.map_eq_some_iff, Prod.mk.injEq] at h; obtain ⟨_, _, _, rfl⟩ := h; exact same rfl
  | convert a b c => simp only [opA, Option.map_eq_some_iff, Prod.mk.injEq] at h; obtain ⟨_, _, _, rfl⟩ := h; exact same rfl
  | index a b c => simp only [opA, Option.map_eq_some_iff, Prod.mk.injEq] at h; obtain ⟨_, _, _, rfl⟩ := h; exact same rfl
  | extract a b => simp only [opA, Option.map_eq_some_iff, Prod.mk.injEq] at h; obtain ⟨_, _, _, rfl⟩ := h; exact same rfl
  | _ => simp [opA] at h

end Go.Hx
