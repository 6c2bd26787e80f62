/-
  A function's contract out of its body. Own work: no program stands in this text.
-/
import Derived.Test.YtcccmbeolcjacaaHxN
namespace Go.Hx
variable {P : Program} {G : Nat → Option (List AVal)} {Γ Γ' : Gam} {H H' : AHeap} {w w' : World}

/-! ### the marks are taken off -/

theorem closed_cell {r : Nat} {x : Option (List Deferred)} (hr : w.heap[r]? = some (.deferred x)) (o : Obj) (ho : ∀ c e f, o ≠ .cells c e f) (b i : Nat) : (setBlk w r o).cell? ⟨b, i, none⟩ = w.cell? ⟨b, i, none⟩ := by
  simp only [World.cell?, heap_setBlk]
  by_cases h : b = r ∧ r < w.heap.size
  · rw [if_pos h, h.1, hr]
    cases o <;> first | rfl | exact absurd rfl (ho _ _ _)
  · rw [if_neg h]

theorem RelV.closed {v : AVal} {cv : Value} {r : Nat} {x : Option (List Deferred)} (hr : w.heap[r]? = some (.deferred x)) {o : Obj} (ho : ∀ c e f, o ≠ .cells c e f) (h : RelV P Γ H w v cv) : RelV P Γ H (setBlk w r o) v cv := by
  induction h with
  | lit v => exact .lit v
  | vec0 a cap => exact .vec0 a cap
  | vec hb hlt hlen hcs hcell hrel ih => exact .vec hb (by rw [size_setBlk]; exact hlt) hlen hcs (fun i hi => (closed_cell hr o ho _ _).trans (hcell i hi)) ih
  | own h => exact .own h
  | ptr h => exact .ptr h
  | vptr hb hlt hcs hcell hrel ih => exact .vptr hb (by rw [size_setBlk]; exact hlt) hcs (fun i hi => (closed_cell hr o ho _ _).trans (hcell i hi)) ih
  | agg hcs hrel ih => exact .agg hcs ih
  | tup hcs hrel ih => exact .tup hcs ih
  | clo hfs hcs hf hc ih1 ih2 => exact .clo hfs hcs ih1 ih2
  | yld h => exact .yld h

theorem RelH.closed (R : RelH P G Γ H w) {r : Nat} {x : Option (List Deferred)} (hr : w.heap[r]? = some (.deferred x)) (hown : ¬ Γ.owns r) {o : Obj} (ho : ∀ c e f, o ≠ .cells c e f) : RelH P G Γ H (setBlk w r o) where
  arr id g e cells hg := by
    have h1 := R.arr id g e cells hg
    cases hΓ : Γ id with
    | none => rw [hΓ] at h1; exact h1
    | some y =>
      obtain ⟨b, base, n⟩ := y
      rw [hΓ] at h1
      obtain ⟨c, a1, a2, a3, a4⟩ := h1
      refine ⟨c, ?_, a2, a3, fun i hi => let ⟨cv, b1, b2⟩ := a4 i hi; ⟨cv, b1, b2.closed hr ho⟩⟩
      rw [heap_setBlk, if_neg]
      · exact a1
      · rintro ⟨rfl, _⟩
        exact hown ⟨id, base, n, hΓ⟩
  loop id st pend n env ps asg body hg := by
    obtain ⟨b, rr, a1, a2, a3, a4, a5, a6, a7, a8, a9⟩ := R.loop id st pend n env ps asg body hg
    refine ⟨b, rr, a1, ?_, a3, a4, a5, a6, a7, a8, fun t ht => (a9 t ht).closed hr ho⟩
    rw [heap_setBlk, if_neg]
    · exact a2
    · rintro ⟨rfl, _⟩
      exact hown ⟨id, 0, 0, a1⟩
  rsv := R.rsv
  inj := R.inj
  dom := R.dom
  lt id b base n h := by rw [size_setBlk]; exact R.lt id b base n h
  next := R.next
  glob g cells h := (R.glob g cells h).closed hr ho

theorem Evo.closed {Γ₀ : Gam} {H₀ : AHeap} {w₀ : World} (E : Evo Γ₀ H₀ w₀ Γ H w) {r : Nat} {x : Option (List Deferred)} (hx : w.heap[r]? = some (.deferred x)) (hr : w₀.heap.size ≤ r) (o : Obj) (ho : ∀ c e f, o ≠ .cells c e f) : Evo Γ₀ H₀ w₀ Γ H (setBlk w r o) where
  os := E.os
  tape := E.tape
  output := E.output
  size := by rw [size_setBlk]; exact E.size
  keep b hb ho := by
    obtain ⟨h1, h2⟩ := E.keep b hb ho
    refine ⟨?_, h2⟩
    rw [heap_setBlk, if_neg (by omega)]
    exact h1
  live := E.live
  frz a := (frozen_setBlk hx (fun _ _ _ h => by cases h) (fun c e f h => absurd h (ho c e f)) a).trans (E.frz a)

theorem leaves_marks {fn : Func} {tmps : Array Value} {R : Ending → World → Prop} {u : FrameMode} {ρ : Env} {Γ₀ : Gam} {H₀ : AHeap} {w₀ : World} (hu : u ≠ .run) : ∀ (ds : List Deferred) (w : World),
    (∀ d, d ∈ ds → ∃ r, d = { target := .collected r, args := #[] } ∧ w₀.heap.size ≤ r ∧ DefBlk Γ w r) → ds.Pairwise (fun d e => d.target ≠ e.target) →
    RelH P G Γ H w → (∀ t, RelV P Γ H w (ρ t) (tmps.getD t undef)) → Evo Γ₀ H₀ w₀ Γ H w →
    (∀ w', RelH P G Γ H w' → (∀ t, RelV P Γ H w' (ρ t) (tmps.getD t undef)) → Evo Γ₀ H₀ w₀ Γ H w' → LeavesIn Fence.wide 0 P fn tmps R [] u w') →
    LeavesInM Fence.wide 0 P fn tmps R ds u w := by
  intro ds
  induction ds with
  | nil => intro w _ _ R0 he E h; exact h w R0 he E
  | cons d ds ih =>
    intro w hd hp R0 he E h
    obtain ⟨r, rfl, hle, hown, hblk⟩ := hd d (by simp)
    have ho : ∀ c e f, Obj.deferred none ≠ .cells c e f := fun _ _ _ h => by cases h
    refine ⟨hu, .inl ⟨r, setBlk w r (.deferred none), rfl, ?_, ?_⟩⟩
    · unfold Instr.takeDeferred
      have hg : (getObj r).run P w = .ok (.deferred (some [])) w := by simp [getObj, Sem.run, hblk]
      rw [run_bind_ok hg]
      simp only
      have hset : (setObj r (.deferred none)).run P w = .ok () (setBlk w r (.deferred none)) := by simp [setObj, Sem.run, hblk, setBlk]
      rw [run_bind_ok hset]
      rfl
    · refine ih _ (fun e he' => ?_) (List.pairwise_cons.1 hp).2 (R0.closed hblk hown ho) (fun t => (he t).closed hblk ho) (E.closed hblk hle _ ho) h
      obtain ⟨r', rfl, hle', hown', hblk'⟩ := hd e (by simp [he'])
      refine ⟨r', rfl, hle', hown', ?_⟩
      rw [heap_setBlk, if_neg]
      · exact hblk'
      · rintro ⟨rfl, _⟩
        exact (List.pairwise_cons.1 hp).1 _ he' rfl

/-! ### results -/

theorem loadA_addr {t : TypeId} {a v : AVal} {ca : Value} (R : RelH P G Γ H w) (h : loadA P H t a = some v) (ha : RelV P Γ H w a ca) :
    ∃ ad cv, ca = .pointer (some ad) ∧ (loadVar t ad).run P w = .ok cv w ∧ RelV P Γ H w v cv := by
  have h0 := h
  unfold loadA at h
  split at h
  · rename_i id gen off
    split at h
    · rename_i g e cells hg
      split at h
      · rename_i hgg
        have hl : H.live id gen = some (e, cells) := by simp [AHeap.live, hg, hgg]
        obtain ⟨b, base, n, hΓ, rfl⟩ := ptr_live ha hl
        obtain ⟨cv, h1, h2⟩ := partA_load h (row_live R hl hΓ)
        exact ⟨_, cv, rfl, h1, h2⟩
      · cases h
    · cases h
  · rename_i cells off
    cases ha with
    | vptr hb hlt hcs hcell hrel =>
      obtain ⟨cv, h1, h2⟩ := partA_load h ⟨_, hcs, hcell, hrel⟩
      exact ⟨_, cv, rfl, h1, h2⟩
  · cases h

def resA (P : Program) (H : AHeap) (ρ : Env) : List ResultVar → Option (List AVal)
  | [] => some []
  | .tmp t :: r => (resA P H ρ r).map (ρ t :: ·)
  | .cell a t :: r => (loadA P H t (ρ a)).bind fun v => (resA P H ρ r).map (v :: ·)

def resV : List AVal → AVal
  | [v] => v
  | vs => .tup vs

def resM (tmps : Array Value) : ResultVar → Sem Value
  | .tmp t => pure (tmps.getD t undef)
  | .cell a t => do loadVar t (← asAddr (tmps.getD a undef))

theorem resA_sound {tmps : Array Value} {ρ : Env} (R : RelH P G Γ H w) (he : ∀ t, RelV P Γ H w (ρ t) (tmps.getD t undef)) : ∀ (rs : List ResultVar) (vs : List AVal), resA P H ρ rs = some vs →
    ∃ cs : List Value, (rs.mapM (resM tmps)).run P w = .ok cs w ∧ cs.length = vs.length ∧ ∀ i (_ : i < vs.length) (_ : i < cs.length), RelV P Γ H w vs[i] cs[i] := by
  intro rs
  induction rs with
  | nil =>
    intro vs h
    simp only [resA, Option.some.injEq] at h
    subst h
    exact ⟨[], rfl, rfl, fun i h _ => absurd h (Nat.not_lt_zero _)⟩
  | cons rv rs ih =>
    intro vs h
    have cons : ∀ (v : AVal) (cv : Value) (vs' : List AVal), (resM tmps rv).run P w = .ok cv w → RelV P Γ H w v cv → resA P H ρ rs = some vs' → ∃ cs : List Value, ((rv :: rs).mapM (resM tmps)).run P w = .ok cs w ∧
        cs.length = (v :: vs').length ∧ ∀ i (_ : i < (v :: vs').length) (_ : i < cs.length), RelV P Γ H w (v :: vs')[i] cs[i] := by
      intro v cv vs' hm hv hr
      obtain ⟨cs, h1, h2, h3⟩ := ih vs' hr
      refine ⟨cv :: cs, ?_, by simp [h2], fun i a b => ?_⟩
      · rw [List.mapM_cons, run_bind_ok hm, run_bind_ok h1]; rfl
      · cases i with
        | zero => exact hv
        | succ i => exact h3 i (by simpa using a) (by simpa using b)
    cases rv with
    | tmp t =>
      simp only [resA, Option.map_eq_some_iff] at h
      obtain ⟨vs', h1, rfl⟩ := h
      exact cons (ρ t) _ vs' rfl (he t) h1
    | cell a t =>
      simp only [resA, Option.bind_eq_some_iff, Option.map_eq_some_iff] at h
      obtain ⟨v, hv, vs', h1, rfl⟩ := h
      obtain ⟨ad, cv, ha, hl, hr⟩ := loadA_addr R hv (he a)
      refine cons v cv vs' ?_ hr h1
      simp only [resM, ha]
      have : (asAddr (.pointer (some ad))).run P w = .ok ad w := rfl
      rw [run_bind_ok this]
      exact hl

theorem results_eq (fn : Func) (tmps : Array Value) : results fn tmps = (do let vs ← fn.results.mapM (resM tmps); pure (if h : vs.size = 1 then vs[0] else .tuple vs)) := by
  unfold results
  congr 1

theorem results_sound {fn : Func} {tmps : Array Value} {ρ : Env} {vs : List AVal} (R : RelH P G Γ H w) (he : ∀ t, RelV P Γ H w (ρ t) (tmps.getD t undef)) (h : resA P H ρ fn.results.toList = some vs) :
    ∃ cv, (results fn tmps).run P w = .ok cv w ∧ RelV P Γ H w (resV vs) cv := by
  obtain ⟨cs, h1, h2, h3⟩ := resA_sound R he _ _ h
  have hm : (fn.results.mapM (resM tmps)).run P w = .ok cs.toArray w := by
    rw [Array.mapM_eq_mapM_toList, Sem.run_map, h1]
    rfl
  rw [results_eq, run_bind_ok hm]
  match vs, cs, h2, h3 with
  | [v], [c], _, h3 => exact ⟨c, rfl, h3 0 (by simp) (by simp)⟩
  | [], [], _, h3 => exact ⟨_, rfl, .tup (cs := []) rfl h3⟩
  | v :: v' :: vs, c :: c' :: cs, h2, h3 =>
    refine ⟨.tuple (c :: c' :: cs).toArray, ?_, .tup h2 h3⟩
    have hne : ¬ (c :: c' :: cs).toArray.size = 1 := by simp
    rw [dif_neg hne]
    rfl

/-! ### a function -/

/-- Forgetting: of a value and a heap. -/
def WeakV (P : Program) (G : Nat → Option (List AVal)) (H : AHeap) (v : AVal) (H' : AHeap) (v' : AVal) : Prop :=
  ∀ Γ w, RelH P G Γ H w → ∃ Γ', RelH P G Γ' H' w ∧ Evo Γ H w Γ' H' w ∧ ∀ cv, RelV P Γ H w v cv → RelV P Γ' H' w v' cv

def FinV (P : Program) (G : Nat → Option (List AVal)) (H₀ : AHeap) (K : ARes → AHeap → Prop) (v : AVal) (H : AHeap) : Prop :=
  ∃ v' H', WeakV P G H v H' v' ∧ H₀.next ≤ H'.next ∧ K (.ret v') H'

theorem WeakV.refl (H : AHeap) (v : AVal) : WeakV P G H v H v := fun Γ _ R => ⟨Γ, R, Evo.refl _ _ _, fun _ h => h⟩
theorem FinV.mk {H₀ : AHeap} {K : ARes → AHeap → Prop} {v : AVal} {H : AHeap} (hn : H₀.next ≤ H.next) (hk : K (.ret v) H) : FinV P G H₀ K v H := ⟨v, H, WeakV.refl H v, hn, hk⟩

def bodyQ (P : Program) (G : Nat → Option (List AVal)) (rs : List ResultVar) (H₀ : AHeap) (K : ARes → AHeap → Prop) : AX → St → Prop
  | .normal, s | .ret, s => wpo (resA P s.H s.ρ rs) fun vs => FinV P G H₀ K (resV vs) s.H
  | .panic, s => ∃ H', WeakV P G s.H (.lit undef) H' (.lit undef) ∧ H₀.next ≤ H'.next ∧ K .panic H'
  | _, _ => False

def envOf (args : List AVal) : Env := fun t => (args[t]?).getD (.lit undef)

theorem ACall.of_bodyW {f : FuncId} {fn : Func} {c : Code} {args : List AVal} {K : ARes → AHeap → Prop} {rs : List ResultVar} {n : Nat} (hf : P.funcs[f]? = some fn) (hb : fn.body = some c) (hres : fn.results.toList = rs) (hnt : fn.ntmps = n) (hname : (fn.name == "runtime.NumGoroutine") = false)
    (hargs : args.length ≤ n) (hW : W P G n none c (bodyQ P G rs H K) ⟨envOf args, H⟩) : ACall P G f args H K := by
  subst hres
  subst hnt
  refine ⟨⟨fn, hf, by rw [hb]; rfl, hname⟩, fun Γ w cargs R hr => ?_⟩
  refine callsIn_of_wp_marks hf hb trivial ?_
  have hs : RelS P G fn.ntmps w.heap.size Γ ⟨envOf args, H⟩ { tmps := cargs ++ Array.replicate (fn.ntmps - cargs.size) undef, defers := [] } w := by
    refine ⟨by have := hr.1; simp; omega, fun t => ?_, R, fun d h => by simp at h, List.Pairwise.nil, Nat.le_refl _⟩
    have hsz := hr.1
    by_cases ht : t < args.length
    · have h1 : (cargs ++ Array.replicate (fn.ntmps - cargs.size) undef).getD t undef = cargs[t]'(by omega) := by
        simp only [Array.getD_eq_getD_getElem?]
        rw [Array.getElem?_append_left (by omega), Array.getElem?_eq_getElem (by omega)]
        rfl
      have h2 : envOf args t = args[t] := by
        unfold envOf
        rw [List.getElem?_eq_getElem ht]
        rfl
      rw [h1]
      show RelV P Γ H w (envOf args t) _
      rw [h2]
      exact hr.2 t ht (by omega)
    · have h1 : (cargs ++ Array.replicate (fn.ntmps - cargs.size) undef).getD t undef = undef := by
        simp only [Array.getD_eq_getD_getElem?]
        rw [Array.getElem?_append_right (by omega), Array.getElem?_replicate]
        split <;> rfl
      have h2 : envOf args t = .lit undef := by
        unfold envOf
        rw [List.getElem?_eq_none (by omega)]
        rfl
      rw [h1]
      show RelV P Γ H w (envOf args t) _
      rw [h2]
      exact .lit _
  refine wpIn_mono (hW w.heap.size Γ _ w none hs rfl) ?_
  rintro e a' w' ⟨x, s', Γ', hx, hq, hs', E, hn, _, _⟩
  have leave : ∀ (u : FrameMode) (Q : World → Prop), u ≠ .run → (∀ w'', RelH P G Γ' s'.H w'' → (∀ t, RelV P Γ' s'.H w'' (s'.ρ t) (a'.tmps.getD t undef)) → Evo Γ H w Γ' s'.H w'' → LeavesIn Fence.wide 0 P fn a'.tmps (CPost P G Γ H w K) [] u w'') →
      LeavesInM Fence.wide 0 P fn a'.tmps (CPost P G Γ H w K) a'.defers u w' :=
    fun u _ hu hfin => leaves_marks hu a'.defers w' hs'.defers hs'.nodup hs'.heap hs'.env E hfin
  have normal : wpo (resA P s'.H s'.ρ fn.results.toList) (fun vs => FinV P G H K (resV vs) s'.H) → LeavesInM Fence.wide 0 P fn a'.tmps (CPost P G Γ H w K) a'.defers .returning w' := by
    rintro ⟨vs, hvs, v', H', hw, hn', hk⟩
    refine leave .returning (fun _ => True) (by simp) fun w'' R'' he'' E'' => ?_
    obtain ⟨cv, h1, h2⟩ := results_sound R'' he'' hvs
    obtain ⟨Γ'', R3, E3, hv3⟩ := hw Γ' w'' R''
    exact ⟨cv, h1, .ret v', H', Γ'', hv3 cv h2, hk, R3, E''.trans hn E3, hn'⟩
  cases e with
  | normal => cases x with
    | normal => exact normal hq
    | _ => exact hx.elim
  | ret => cases x with
    | ret => exact normal hq
    | _ => exact hx.elim
  | panic chain => cases x with
    | panic =>
      obtain ⟨H', hw, hn', hk⟩ := hq
      refine leave (.panicking chain) (fun _ => True) (by simp) fun w'' R'' he'' E'' => ?_
      obtain ⟨Γ'', R3, E3, _⟩ := hw Γ' w'' R''
      exact ⟨.panic, H', Γ'', hx, hk, R3, E''.trans hn E3, hn'⟩
    | _ => exact hx.elim
  | exit i => cases x with
    | exit j => exact hq.elim
    | _ => exact hx.elim
  | goto i => cases x with
    | goto j => exact hq.elim
    | _ => exact hx.elim
  | outgrown => cases x <;> exact hx.elim

theorem ACall.of_body {f : FuncId} {fn : Func} {c : Code} {args : List AVal} {K : ARes → AHeap → Prop} {rs : List ResultVar} {n : Nat} (hf : P.funcs[f]? = some fn) (hb : fn.body = some c) (hres : fn.results.toList = rs) (hnt : fn.ntmps = n) (hname : (fn.name == "runtime.NumGoroutine") = false)
    (hfit : fits n c = true) (hargs : args.length ≤ n) (h : vc P G n none c (bodyQ P G rs H K) ⟨envOf args, H⟩) : ACall P G f args H K :=
  .of_bodyW hf hb hres hnt hname hargs (vc_sound c _ _ hfit h)

end Go.Hx
