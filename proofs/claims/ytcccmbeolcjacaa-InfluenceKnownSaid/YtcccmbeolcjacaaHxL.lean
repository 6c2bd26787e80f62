/-
  What a piece of code does to abstract states, and the rules by which it is shown. Own work: no program stands in this text.
-/
import Derived.Test.YtcccmbeolcjacaaHxK
namespace Go.Hx
variable {P : Program} {G : Nat → Option (List AVal)} {Γ Γ' : Gam} {H H' : AHeap} {w w' : World}

structure St where
  ρ : Env
  H : AHeap

inductive AX where
  | normal
  | exit (id : Nat)
  | goto (l : Nat)
  | ret
  | panic

def ChainOk (chain : List PanicEntry) : Prop := ∃ t v, chain = [{ v := .iface t v, recovered := false }]

def ExitRel : Exit → AX → Prop
  | .normal, .normal => True
  | .exit i, .exit j => i = j
  | .goto i, .goto j => i = j
  | .ret, .ret => True
  | .panic chain, .panic => ChainOk chain
  | _, _ => False

/-- An activation stands to an abstract state. -/
structure RelS (P : Program) (G : Nat → Option (List AVal)) (n wb : Nat) (Γ : Gam) (s : St) (a : Act) (w : World) : Prop where
  size : a.tmps.size = n
  env : ∀ t, RelV P Γ s.H w (s.ρ t) (a.tmps.getD t undef)
  heap : RelH P G Γ s.H w
  defers : ∀ d, d ∈ a.defers → ∃ r, d = { target := .collected r, args := #[] } ∧ wb ≤ r ∧ DefBlk Γ w r
  nodup : a.defers.Pairwise (fun d e => d.target ≠ e.target)
  low : wb ≤ w.heap.size

def RdOk (Γ : Gam) (H : AHeap) : Option Nat → Option Nat → Prop
  | none, rb => rb = none
  | some id, rb => ∃ b st pend n env ps asg body, rb = some b ∧ Γ id = some (b, 0, 0) ∧ H.get id = some (.loop st pend n env ps asg body)

def RdIn (H : AHeap) : Option Nat → Prop
  | none => True
  | some id => ∃ st pend n env ps asg body, H.get id = some (.loop st pend n env ps asg body)

abbrev fenceOf (rb : Option Nat) : Fence := { Fence.wide with round := rb }

/-- Which temporaries a piece of code may write. -/
def wr : Code → Nat → Bool
  | .region _ ops _, t => ops.toList.any fun o => o.dst == some t
  | .seq a b, t | .cond _ a b, t => wr a t || wr b t
  | .block _ c, t | .loop c, t | .scope c, t => wr c t
  | _, _ => false

/-- The temporaries that a piece of code does not write are as they were. -/
def Fr (ch : Nat → Bool) (a a' : Act) : Prop := ∀ t, ch t = false → a'.tmps[t]? = a.tmps[t]?

theorem Fr.refl (ch : Nat → Bool) (a : Act) : Fr ch a a := fun _ _ => rfl
theorem Fr.trans {ch : Nat → Bool} {a b c : Act} (h : Fr ch a b) (k : Fr ch b c) : Fr ch a c := fun t ht => (k t ht).trans (h t ht)
theorem Fr.mono {ch ch' : Nat → Bool} {a b : Act} (h : Fr ch a b) (hc : ∀ t, ch' t = false → ch t = false) : Fr ch' a b := fun t ht => h t (hc t ht)

def WPost (P : Program) (G : Nat → Option (List AVal)) (n wb : Nat) (rd rb : Option Nat) (ch : Nat → Bool) (Γ : Gam) (H : AHeap) (a : Act) (w : World) (Q : AX → St → Prop) (e : Exit) (a' : Act) (w' : World) : Prop :=
  ∃ x s' Γ', ExitRel e x ∧ Q x s' ∧ RelS P G n wb Γ' s' a' w' ∧ Evo Γ H w Γ' s'.H w' ∧ H.next ≤ s'.H.next ∧ RdOk Γ' s'.H rd rb ∧ Fr ch a a'

def W (P : Program) (G : Nat → Option (List AVal)) (n : Nat) (rd : Option Nat) (c : Code) (Q : AX → St → Prop) (s : St) : Prop :=
  ∀ wb Γ a w rb, RelS P G n wb Γ s a w → RdOk Γ s.H rd rb → c.wpIn (fenceOf rb) 0 P (WPost P G n wb rd rb (wr c) Γ s.H a w Q) a w

def thenA (K : St → Prop) (Q : AX → St → Prop) : AX → St → Prop
  | .normal, s => K s
  | x, s => Q x s

def blockA (id : Nat) (Q : AX → St → Prop) : AX → St → Prop
  | .exit i, s => if i = id then Q .normal s else Q (.exit i) s
  | x, s => Q x s

section rules
variable {n : Nat} {rd : Option Nat} {Q Q' : AX → St → Prop} {s : St}

theorem WPost.mono {wb : Nat} {rb : Option Nat} {ch : Nat → Bool} {e : Exit} {a a' : Act} (h : WPost P G n wb rd rb ch Γ H a w Q e a' w') (hq : ∀ x s, Q x s → Q' x s) : WPost P G n wb rd rb ch Γ H a w Q' e a' w' :=
  let ⟨x, s', Γ', h1, h2, h3⟩ := h; ⟨x, s', Γ', h1, hq _ _ h2, h3⟩

theorem WPost.step {wb : Nat} {rb : Option Nat} {ch ch' : Nat → Bool} {e : Exit} {a a₁ a' : Act} {w₁ : World} {H₁ : AHeap} {Γ₁ : Gam} (E : Evo Γ H w Γ₁ H₁ w₁) (hn : H.next ≤ H₁.next) (hf : Fr ch' a a₁)
    (h : WPost P G n wb rd rb ch Γ₁ H₁ a₁ w₁ Q e a' w') (hc : ∀ t, ch' t = false → ch t = false) : WPost P G n wb rd rb ch' Γ H a w Q e a' w' :=
  let ⟨x, s', Γ', h1, h2, h3, h4, h5, h6, h7⟩ := h; ⟨x, s', Γ', h1, h2, h3, E.trans hn h4, Nat.le_trans hn h5, h6, hf.trans (h7.mono hc)⟩

theorem W.mono {c : Code} (h : W P G n rd c Q s) (hq : ∀ x s, Q x s → Q' x s) : W P G n rd c Q' s :=
  fun wb Γ a w rb hs hr => wpIn_mono (h wb Γ a w rb hs hr) fun _ _ _ hp => hp.mono hq

theorem WPost.here {wb : Nat} {rb : Option Nat} {ch : Nat → Bool} {e : Exit} {a : Act} {x : AX} (hx : ExitRel e x) (h : Q x s) (hs : RelS P G n wb Γ s a w) (hr : RdOk Γ s.H rd rb) :
    WPost P G n wb rd rb ch Γ s.H a w Q e a w := ⟨x, s, Γ, hx, h, hs, Evo.refl _ _ _, Nat.le_refl _, hr, .refl _ _⟩

theorem W.skip (h : Q .normal s) : W P G n rd .skip Q s := fun _ _ _ _ _ hs hr => wpIn_skip (.here (x := .normal) trivial h hs hr)
theorem W.label {l : Nat} (h : Q .normal s) : W P G n rd (.label l) Q s := fun _ _ _ _ _ hs hr => wpIn_label (.here (x := .normal) trivial h hs hr)
theorem W.exit {id : Nat} (h : Q (.exit id) s) : W P G n rd (.exit id) Q s := fun _ _ _ _ _ hs hr => wpIn_exit (.here (x := .exit id) rfl h hs hr)
theorem W.goto {l : Nat} (h : Q (.goto l) s) : W P G n rd (.goto l) Q s := fun _ _ _ _ _ hs hr => wpIn_goto (.here (x := .goto l) rfl h hs hr)
theorem W.ret (h : Q .ret s) : W P G n rd .ret Q s := fun _ _ _ _ _ hs hr => wpIn_ret (.here (x := .ret) trivial h hs hr)

theorem wr_left {x y : Bool} (h : (x || y) = false) : x = false := by cases x <;> simp_all
theorem wr_right {x y : Bool} (h : (x || y) = false) : y = false := by cases x <;> simp_all

theorem W.seq {x y : Code} (h : W P G n rd x (thenA (W P G n rd y Q) Q) s) : W P G n rd (.seq x y) Q s := by
  intro wb Γ a w rb hs hr
  refine wpIn_seq (wpIn_mono (h wb Γ a w rb hs hr) ?_)
  rintro e a' w' ⟨x', s', Γ', hx, hq, hs', E, hn, hr', hf⟩
  have hf' : Fr (wr (.seq x y)) a a' := hf.mono fun t ht => wr_left ht
  cases e with
  | normal =>
    cases x' with
    | normal => exact wpIn_mono (hq wb Γ' a' w' rb hs' hr') fun _ _ _ hp => hp.step E hn hf' fun t ht => wr_right ht
    | _ => exact hx.elim
  | exit i => cases x' with
    | exit j => exact ⟨_, s', Γ', hx, hq, hs', E, hn, hr', hf'⟩
    | _ => exact hx.elim
  | goto i => cases x' with
    | goto j => exact ⟨_, s', Γ', hx, hq, hs', E, hn, hr', hf'⟩
    | _ => exact hx.elim
  | ret => cases x' with
    | ret => exact ⟨_, s', Γ', hx, hq, hs', E, hn, hr', hf'⟩
    | _ => exact hx.elim
  | panic c => cases x' with
    | panic => exact ⟨_, s', Γ', hx, hq, hs', E, hn, hr', hf'⟩
    | _ => exact hx.elim
  | outgrown => cases x' <;> exact hx.elim

theorem eval_rel {wb : Nat} {a : Act} (hs : RelS P G n wb Γ s a w) (x : Operand) : RelV P Γ s.H w (evA G s.ρ x) (a.eval x) := by
  cases x with
  | tmp t => exact hs.env t
  | const v => exact .lit v
  | global g =>
    simp only [evA, Act.eval]
    cases hg : G g with
    | none => exact .lit _
    | some cells => exact hs.heap.glob g cells hg
  | func f => exact RelV.clo (fs := []) (cs := []) rfl rfl (fun i h _ => absurd h (Nat.not_lt_zero _)) (fun i h _ => absurd h (Nat.not_lt_zero _))

theorem W.cond {c : Operand} {x y : Code} {t : Bool} (hc : evA G s.ρ c = .lit (.bool t)) (h : W P G n rd (if t then x else y) Q s) : W P G n rd (.cond c x y) Q s := by
  intro wb Γ a w rb hs hr
  have he := eval_rel hs c
  rw [hc] at he
  have : a.eval c = .bool t := by
    generalize a.eval c = v at he
    cases he
    rfl
  refine wpIn_cond this (wpIn_mono (h wb Γ a w rb hs hr) ?_)
  rintro e a' w' ⟨x', s', Γ', h1, h2, h3, h4, h5, h6, h7⟩
  refine ⟨x', s', Γ', h1, h2, h3, h4, h5, h6, h7.mono fun i hi => ?_⟩
  cases t with
  | true => exact wr_left hi
  | false => exact wr_right hi

theorem W.block {id : Nat} {c : Code} (h : W P G n rd c (blockA id Q) s) : W P G n rd (.block id c) Q s := by
  intro wb Γ a w rb hs hr
  refine wpIn_block (wpIn_mono (h wb Γ a w rb hs hr) ?_)
  rintro e a' w' ⟨x, s', Γ', hx, hq, hrest⟩
  cases e with
  | exit i =>
    cases x with
    | exit j =>
      obtain rfl : i = j := hx
      simp only [Exit.inBlock]
      simp only [blockA] at hq
      split
      · rename_i hi
        rw [if_pos hi] at hq
        exact ⟨.normal, s', Γ', trivial, hq, hrest⟩
      · rename_i hi
        rw [if_neg hi] at hq
        exact ⟨.exit i, s', Γ', rfl, hq, hrest⟩
    | _ => exact hx.elim
  | normal => cases x with
    | normal => exact ⟨_, s', Γ', hx, hq, hrest⟩
    | _ => exact hx.elim
  | goto i => cases x with
    | goto j => exact ⟨_, s', Γ', hx, hq, hrest⟩
    | _ => exact hx.elim
  | ret => cases x with
    | ret => exact ⟨_, s', Γ', hx, hq, hrest⟩
    | _ => exact hx.elim
  | panic c => cases x with
    | panic => exact ⟨_, s', Γ', hx, hq, hrest⟩
    | _ => exact hx.elim
  | outgrown => cases x <;> exact hx.elim

/-- Forgetting: what stands to the one state stands to the other. -/
def WeakS (P : Program) (G : Nat → Option (List AVal)) (s s' : St) : Prop :=
  ∀ n wb Γ a w, RelS P G n wb Γ s a w → ∃ Γ', RelS P G n wb Γ' s' a w ∧ Evo Γ s.H w Γ' s'.H w ∧
    (∀ rd rb, RdOk Γ s.H rd rb → RdIn s'.H rd → RdOk Γ' s'.H rd rb)

theorem WeakS.refl (s : St) : WeakS P G s s := fun _ _ Γ _ _ h => ⟨Γ, h, Evo.refl _ _ _, fun _ _ h _ => h⟩

/-- The environment of a loop's round: what the loop writes is new, the rest is as it was. -/
def mask (ws : Nat) (ρ ρ₀ : Env) : Env := fun t => if ws / 2 ^ t % 2 = 1 then ρ t else ρ₀ t

def wrIn (ws : Nat) : Code → Bool
  | .region _ ops _ => ops.toList.all fun o => match o.dst with | some d => ws / 2 ^ d % 2 == 1 | none => true
  | .seq a b | .cond _ a b => wrIn ws a && wrIn ws b
  | .block _ c | .loop c | .scope c => wrIn ws c
  | _ => true

theorem wrIn_wr {ws : Nat} {t : Nat} (ht : ¬ ws / 2 ^ t % 2 = 1) : ∀ {c : Code}, wrIn ws c = true → wr c t = false := by
  intro c
  induction c with
  | region id ops d =>
    intro h
    simp only [wrIn, List.all_eq_true] at h
    simp only [wr, List.any_eq_false]
    intro o ho hd
    have := h o ho
    have hd' : o.dst = some t := by simpa using hd
    rw [hd'] at this
    simp only [beq_iff_eq] at this
    exact ht this
  | seq a b iha ihb => intro h; simp only [wrIn, Bool.and_eq_true] at h; simp only [wr, iha h.1, ihb h.2]; rfl
  | cond x a b iha ihb => intro h; simp only [wrIn, Bool.and_eq_true] at h; simp only [wr, iha h.1, ihb h.2]; rfl
  | block id c ih => intro h; exact ih h
  | loop c ih => intro h; exact ih h
  | scope c ih => intro h; exact ih h
  | _ => intro _; rfl

/-- A loop. -/
theorem W.loop {c : Code} (ws : Nat) (hws : wrIn ws c = true) (I : Env → AHeap → Prop) (μ : Env → AHeap → Nat) (h0 : I s.ρ s.H)
    (round : ∀ ρ H, I ρ H → W P G n rd c (thenA (fun s₂ => ∃ s₃, WeakS P G s₂ s₃ ∧ s.H.next ≤ s₃.H.next ∧ RdIn s₃.H rd ∧ I (mask ws s₃.ρ s.ρ) s₃.H ∧ μ (mask ws s₃.ρ s.ρ) s₃.H < μ (mask ws ρ s.ρ) H) Q) ⟨mask ws ρ s.ρ, H⟩) : W P G n rd (.loop c) Q s := by
  intro wb Γ a w rb hs hr
  let good : Env → AHeap → Act → World → Prop := fun ρ H a₁ w₁ => ∃ Γ₁, I ρ H ∧ RelS P G n wb Γ₁ ⟨mask ws ρ s.ρ, H⟩ a₁ w₁ ∧ Evo Γ s.H w Γ₁ H w₁ ∧ s.H.next ≤ H.next ∧ RdOk Γ₁ H rd rb ∧ Fr (wr c) a a₁
  let ex : Act → World → Prop := fun a₁ w₁ => ∃ k ρ H, good ρ H a₁ w₁ ∧ μ (mask ws ρ s.ρ) H = k
  let m : Act → World → Nat := fun a₁ w₁ => Classical.epsilon fun k => (∃ ρ H, good ρ H a₁ w₁ ∧ μ (mask ws ρ s.ρ) H = k) ∧ ∀ j, (∃ ρ H, good ρ H a₁ w₁ ∧ μ (mask ws ρ s.ρ) H = j) → k ≤ j
  have least : ∀ (p : Nat → Prop), (∃ k, p k) → ∃ k, p k ∧ ∀ j, p j → k ≤ j := by
    intro p ⟨k, hk⟩
    induction k using Nat.strongRecOn with
    | _ k ih =>
      by_cases h : ∃ j, j < k ∧ p j
      · obtain ⟨j, hj, hp⟩ := h
        exact ih j hj hp
      · exact ⟨k, hk, fun j hj => Nat.le_of_not_lt fun hlt => h ⟨j, hlt, hj⟩⟩
  have mspec : ∀ a₁ w₁, ex a₁ w₁ → (∃ ρ H, good ρ H a₁ w₁ ∧ μ (mask ws ρ s.ρ) H = m a₁ w₁) ∧ ∀ j, (∃ ρ H, good ρ H a₁ w₁ ∧ μ (mask ws ρ s.ρ) H = j) → m a₁ w₁ ≤ j := by
    intro a₁ w₁ h
    exact Classical.epsilon_spec (p := fun k => (∃ ρ H, good ρ H a₁ w₁ ∧ μ (mask ws ρ s.ρ) H = k) ∧ ∀ j, (∃ ρ H, good ρ H a₁ w₁ ∧ μ (mask ws ρ s.ρ) H = j) → k ≤ j) (least _ h)
  have mask0 : mask ws s.ρ s.ρ = s.ρ := by
    funext t
    unfold mask
    split <;> rfl
  have mask2 : ∀ ρ, mask ws (mask ws ρ s.ρ) s.ρ = mask ws ρ s.ρ := by
    intro ρ
    funext t
    unfold mask
    by_cases h : ws / 2 ^ t % 2 = 1
    · rw [if_pos h, if_pos h]
    · rw [if_neg h, if_neg h]
  refine wpIn_mono (Q := fun e a' w' => WPost P G n wb rd rb (wr c) Γ s.H a w Q e a' w') ?_ fun _ _ _ hp => hp
  refine wpIn_loop ex m ⟨_, s.ρ, s.H, ⟨Γ, h0, by rw [mask0]; exact hs, Evo.refl _ _ _, Nat.le_refl _, hr, .refl _ _⟩, rfl⟩ ?_
  intro a₁ w₁ hex
  obtain ⟨⟨ρ, H, ⟨Γ₁, hI, hs₁, E₁, hn₁, hr₁, hf₁⟩, hm⟩, hmin⟩ := mspec a₁ w₁ hex
  refine wpIn_mono (round ρ H hI wb Γ₁ a₁ w₁ rb hs₁ hr₁) ?_
  rintro e a' w' ⟨x, s', Γ', hx, hq, hs', E, hn, hr', hf⟩
  have hf' := hf₁.trans hf
  cases e with
  | normal =>
    cases x with
    | normal =>
      obtain ⟨s₃, hw, hn3, hri, hI3, hlt⟩ := hq
      obtain ⟨Γ₃, hs₃, E₃, hrd⟩ := hw n wb Γ' a' w' hs'
      have E₄ : Evo Γ s.H w Γ₃ s₃.H w' := (E₁.trans hn₁ E).trans (Nat.le_trans hn₁ hn) E₃
      have hs₄ : RelS P G n wb Γ₃ ⟨mask ws (mask ws s₃.ρ s.ρ) s.ρ, s₃.H⟩ a' w' := by
        rw [mask2]
        refine ⟨hs₃.size, fun t => ?_, hs₃.heap, hs₃.defers, hs₃.nodup, hs₃.low⟩
        show RelV P Γ₃ s₃.H w' (if ws / 2 ^ t % 2 = 1 then s₃.ρ t else s.ρ t) _
        by_cases ht : ws / 2 ^ t % 2 = 1
        · rw [if_pos ht]; exact hs₃.env t
        · rw [if_neg ht]
          have hsame := hf' t (wrIn_wr ht hws)
          have : a'.tmps.getD t undef = a.tmps.getD t undef := by
            simp only [Array.getD_eq_getD_getElem?, hsame]
          rw [this]
          exact (hs.env t).evo E₄ hn3
      have hg : good (mask ws s₃.ρ s.ρ) s₃.H a' w' := ⟨Γ₃, hI3, hs₄, E₄, hn3, hrd rd rb hr' hri, hf'⟩
      have hex' : ex a' w' := ⟨_, _, _, hg, rfl⟩
      refine ⟨hex', Nat.lt_of_le_of_lt ((mspec a' w' hex').2 _ ⟨_, _, hg, rfl⟩) ?_⟩
      rw [← hm, mask2]
      exact hlt
    | _ => exact hx.elim
  | exit i => cases x with
    | exit j => exact ⟨_, s', Γ', hx, hq, hs', E₁.trans hn₁ E, Nat.le_trans hn₁ hn, hr', hf'⟩
    | _ => exact hx.elim
  | goto i => cases x with
    | goto j => exact ⟨_, s', Γ', hx, hq, hs', E₁.trans hn₁ E, Nat.le_trans hn₁ hn, hr', hf'⟩
    | _ => exact hx.elim
  | ret => cases x with
    | ret => exact ⟨_, s', Γ', hx, hq, hs', E₁.trans hn₁ E, Nat.le_trans hn₁ hn, hr', hf'⟩
    | _ => exact hx.elim
  | panic c => cases x with
    | panic => exact ⟨_, s', Γ', hx, hq, hs', E₁.trans hn₁ E, Nat.le_trans hn₁ hn, hr', hf'⟩
    | _ => exact hx.elim
  | outgrown => cases x <;> exact hx.elim

/-- A loop in whose rounds nothing is forgotten. -/
theorem W.loop0 {c : Code} (ws : Nat) (hws : wrIn ws c = true) (I : Env → AHeap → Prop) (μ : Env → AHeap → Nat) (h0 : I s.ρ s.H)
    (round : ∀ ρ H, I ρ H → W P G n rd c (thenA (fun s₂ => s.H.next ≤ s₂.H.next ∧ RdIn s₂.H rd ∧ I (mask ws s₂.ρ s.ρ) s₂.H ∧ μ (mask ws s₂.ρ s.ρ) s₂.H < μ (mask ws ρ s.ρ) H) Q) ⟨mask ws ρ s.ρ, H⟩) : W P G n rd (.loop c) Q s :=
  W.loop ws hws I μ h0 fun ρ H hI => (round ρ H hI).mono fun x s' hx => by
    cases x with
    | normal => exact ⟨s', WeakS.refl s', hx⟩
    | _ => exact hx

/-- Forgetting ahead of a piece of code. -/
theorem W.weak {c : Code} {s' : St} (hw : WeakS P G s s') (hn : s.H.next ≤ s'.H.next) (hri : RdIn s'.H rd) (h : W P G n rd c Q s') : W P G n rd c Q s := by
  intro wb Γ a w rb hs hr
  obtain ⟨Γ', hs', E, hrd⟩ := hw n wb Γ a w hs
  exact wpIn_mono (h wb Γ' a w rb hs' (hrd rd rb hr hri)) fun _ _ _ hp => hp.step E hn (.refl _ _) fun _ h => h

end rules
end Go.Hx
