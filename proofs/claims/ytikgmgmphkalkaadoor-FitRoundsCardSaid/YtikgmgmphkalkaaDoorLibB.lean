/-
  What a piece of code does to abstract states, and the rules by which it is shown. Own work: no program stands in this text.
-/
import Derived.Test.YtikgmgmphkalkaaDoorLibA
import Derived.OrdersIn
set_option linter.all false
namespace Go.Hx
variable {P : Program} {G : Nat → Option (List AVal)} {Γ Γ' : Gam} {H H' : AHeap} {w w' : World}

structure St where
  ρ : Env
  H : AHeap

inductive AX where
  | normal
  | exit (id : Nat)
  | goto (l : Nat)
  | ret
  | panic

def ChainOk (chain : List PanicEntry) : Prop := ∃ t v, chain = [{ v := .iface t v, recovered := false }]

def ExitRel : Exit → AX → Prop
  | .normal, .normal => True
  | .exit i, .exit j => i = j
  | .goto i, .goto j => i = j
  | .ret, .ret => True
  | .panic chain, .panic => ChainOk chain
  | _, _ => False

structure Base where
  lo : Nat
  ds : List Deferred

def Marks (lo : Nat) (Γ : Gam) (w : World) (m : List Deferred) : Prop :=
  (∀ d, d ∈ m → ∃ r, d = { target := .collected r, args := #[] } ∧ lo ≤ r ∧ DefBlk Γ w r) ∧ m.Pairwise (fun d e => d.target ≠ e.target)
theorem Marks.nil {lo : Nat} : Marks lo Γ w [] := ⟨fun _ h => (by cases h), .nil⟩
theorem Marks.evo {lo : Nat} {m : List Deferred} (h : Marks lo Γ w m) (E : Evo Γ H w Γ' H' w') : Marks lo Γ' w' m :=
  ⟨fun d hd => let ⟨r, h1, h2, h3⟩ := h.1 d hd; ⟨r, h1, h2, h3.evo E⟩, h.2⟩
def MarksOn (wb : Base) (Γ : Gam) (w : World) (l : List Deferred) : Prop := ∃ m, l = m ++ wb.ds ∧ Marks wb.lo Γ w m
theorem MarksOn.evo {wb : Base} {l : List Deferred} (h : MarksOn wb Γ w l) (E : Evo Γ H w Γ' H' w') : MarksOn wb Γ' w' l :=
  let ⟨m, h1, h2⟩ := h; ⟨m, h1, h2.evo E⟩

structure RelS (P : Program) (G : Nat → Option (List AVal)) (n : Nat) (wb : Base) (Γ : Gam) (s : St) (a : Act) (w : World) : Prop where
  size : a.tmps.size = n
  env : ∀ t, RelV P Γ s.H w (s.ρ t) (a.tmps.getD t undef)
  heap : RelH P G Γ s.H w
  defers : MarksOn wb Γ w a.defers
  low : wb.lo ≤ w.heap.size

def RdOk (Γ : Gam) (H : AHeap) : Option Nat → Option Nat → Prop
  | none, rb => rb = none
  | some id, rb => ∃ b st pend n env ps asg body, rb = some b ∧ Γ id = some (b, 0, 0) ∧ H.get id = some (.loop st pend n env ps asg body)

def RdIn (H : AHeap) : Option Nat → Prop
  | none => True
  | some id => ∃ st pend n env ps asg body, H.get id = some (.loop st pend n env ps asg body)

abbrev fenceOf (rb : Option Nat) : Fence := { Fence.wide with round := rb }

def wr : Code → Nat → Bool
  | .region _ ops _, t => ops.toList.any fun o => o.dst == some t
  | .seq a b, t | .cond _ a b, t => wr a t || wr b t
  | .block _ c, t | .loop c, t | .scope c, t => wr c t
  | _, _ => false

def Fr (ch : Nat → Bool) (a a' : Act) : Prop := ∀ t, ch t = false → a'.tmps[t]? = a.tmps[t]?

theorem Fr.refl (ch : Nat → Bool) (a : Act) : Fr ch a a := fun _ _ => rfl
theorem Fr.trans {ch : Nat → Bool} {a b c : Act} (h : Fr ch a b) (k : Fr ch b c) : Fr ch a c := fun t ht => (k t ht).trans (h t ht)
theorem Fr.mono {ch ch' : Nat → Bool} {a b : Act} (h : Fr ch a b) (hc : ∀ t, ch' t = false → ch t = false) : Fr ch' a b := fun t ht => h t (hc t ht)

def WPost (P : Program) (G : Nat → Option (List AVal)) (n : Nat) (wb : Base) (rd rb : Option Nat) (ch : Nat → Bool) (Γ : Gam) (H : AHeap) (a : Act) (w : World) (Q : AX → St → Prop) (e : Exit) (a' : Act) (w' : World) : Prop :=
  ∃ x s' Γ', ExitRel e x ∧ Q x s' ∧ RelS P G n wb Γ' s' a' w' ∧ Evo Γ H w Γ' s'.H w' ∧ H.next ≤ s'.H.next ∧ RdOk Γ' s'.H rd rb ∧ Fr ch a a'

def W (P : Program) (G : Nat → Option (List AVal)) (n : Nat) (rd : Option Nat) (c : Code) (Q : AX → St → Prop) (s : St) : Prop :=
  ∀ wb Γ a w rb, RelS P G n wb Γ s a w → RdOk Γ s.H rd rb → c.wpIn (fenceOf rb) 0 P (WPost P G n wb rd rb (wr c) Γ s.H a w Q) a w

def thenA (K : St → Prop) (Q : AX → St → Prop) : AX → St → Prop
  | .normal, s => K s
  | x, s => Q x s

def blockA (id : Nat) (Q : AX → St → Prop) : AX → St → Prop
  | .exit i, s => if i = id then Q .normal s else Q (.exit i) s
  | x, s => Q x s

section rules
variable {n : Nat} {rd : Option Nat} {Q Q' : AX → St → Prop} {s : St}

theorem WPost.mono {wb : Base} {rb : Option Nat} {ch : Nat → Bool} {e : Exit} {a a' : Act} (h : WPost P G n wb rd rb ch Γ H a w Q e a' w') (hq : ∀ x s, Q x s → Q' x s) : WPost P G n wb rd rb ch Γ H a w Q' e a' w' :=
  let ⟨x, s', Γ', h1, h2, h3⟩ := h; ⟨x, s', Γ', h1, hq _ _ h2, h3⟩

theorem WPost.step {wb : Base} {rb : Option Nat} {ch ch' : Nat → Bool} {e : Exit} {a a₁ a' : Act} {w₁ : World} {H₁ : AHeap} {Γ₁ : Gam} (E : Evo Γ H w Γ₁ H₁ w₁) (hn : H.next ≤ H₁.next) (hf : Fr ch' a a₁)
    (h : WPost P G n wb rd rb ch Γ₁ H₁ a₁ w₁ Q e a' w') (hc : ∀ t, ch' t = false → ch t = false) : WPost P G n wb rd rb ch' Γ H a w Q e a' w' :=
  let ⟨x, s', Γ', h1, h2, h3, h4, h5, h6, h7⟩ := h; ⟨x, s', Γ', h1, h2, h3, E.trans hn h4, Nat.le_trans hn h5, h6, hf.trans (h7.mono hc)⟩

theorem W.mono {c : Code} (h : W P G n rd c Q s) (hq : ∀ x s, Q x s → Q' x s) : W P G n rd c Q' s :=
  fun wb Γ a w rb hs hr => wpIn_mono (h wb Γ a w rb hs hr) fun _ _ _ hp => hp.mono hq

theorem WPost.here {wb : Base} {rb : Option Nat} {ch : Nat → Bool} {e : Exit} {a : Act} {x : AX} (hx : ExitRel e x) (h : Q x s) (hs : RelS P G n wb Γ s a w) (hr : RdOk Γ s.H rd rb) :
    WPost P G n wb rd rb ch Γ s.H a w Q e a w := ⟨x, s, Γ, hx, h, hs, Evo.refl _ _ _, Nat.le_refl _, hr, .refl _ _⟩

theorem W.skip (h : Q .normal s) : W P G n rd .skip Q s := fun _ _ _ _ _ hs hr => wpIn_skip (.here (x := .normal) trivial h hs hr)
theorem W.label {l : Nat} (h : Q .normal s) : W P G n rd (.label l) Q s := fun _ _ _ _ _ hs hr => wpIn_label (.here (x := .normal) trivial h hs hr)
theorem W.exit {id : Nat} (h : Q (.exit id) s) : W P G n rd (.exit id) Q s := fun _ _ _ _ _ hs hr => wpIn_exit (.here (x := .exit id) rfl h hs hr)
theorem W.goto {l : Nat} (h : Q (.goto l) s) : W P G n rd (.goto l) Q s := fun _ _ _ _ _ hs hr => wpIn_goto (.here (x := .goto l) rfl h hs hr)
theorem W.ret (h : Q .ret s) : W P G n rd .ret Q s := fun _ _ _ _ _ hs hr => wpIn_ret (.here (x := .ret) trivial h hs hr)

theorem wr_left {x y : Bool} (h : (x || y) = false) : x = false := by cases x <;> simp_all
theorem wr_right {x y : Bool} (h : (x || y) = false) : y = false := by cases x <;> simp_all

theorem W.seq {x y : Code} (h : W P G n rd x (thenA (W P G n rd y Q) Q) s) : W P G n rd (.seq x y) Q s := by
  intro wb Γ a w rb hs hr
  refine wpIn_seq (wpIn_mono (h wb Γ a w rb hs hr) ?_)
  rintro e a' w' ⟨x', s', Γ', hx, hq, hs', E, hn, hr', hf⟩
  have hf' : Fr (wr (.seq x y)) a a' := hf.mono fun t ht => wr_left ht
  cases e with
  | normal =>
    cases x' with
    | normal => exact wpIn_mono (hq wb Γ' a' w' rb hs' hr') fun _ _ _ hp => hp.step E hn hf' fun t ht => wr_right ht
    | _ => exact hx.elim
  | exit i => cases x' with
    | exit j => exact ⟨_, s', Γ', hx, hq, hs', E, hn, hr', hf'⟩
    | _ => exact hx.elim
  | goto i => cases x' with
    | goto j => exact ⟨_, s', Γ', hx, hq, hs', E, hn, hr', hf'⟩
    | _ => exact hx.elim
  | ret => cases x' with
    | ret => exact ⟨_, s', Γ', hx, hq, hs', E, hn, hr', hf'⟩
    | _ => exact hx.elim
  | panic c => cases x' with
    | panic => exact ⟨_, s', Γ', hx, hq, hs', E, hn, hr', hf'⟩
    | _ => exact hx.elim
  | outgrown => cases x' <;> exact hx.elim

theorem eval_rel {wb : Base} {a : Act} (hs : RelS P G n wb Γ s a w) (x : Operand) : RelV P Γ s.H w (evA G s.ρ x) (a.eval x) := by
  cases x with
  | tmp t => exact hs.env t
  | const v => exact .lit v
  | global g =>
    simp only [evA, Act.eval]
    cases hg : G g with
    | none => exact .lit _
    | some cells => exact hs.heap.glob g cells hg
  | func f => exact RelV.clo (fs := []) (cs := []) rfl rfl (fun i h _ => absurd h (Nat.not_lt_zero _)) (fun i h _ => absurd h (Nat.not_lt_zero _))

theorem W.cond {c : Operand} {x y : Code} {t : Bool} (hc : evA G s.ρ c = .lit (.bool t)) (h : W P G n rd (if t then x else y) Q s) : W P G n rd (.cond c x y) Q s := by
  intro wb Γ a w rb hs hr
  have he := eval_rel hs c
  rw [hc] at he
  have : a.eval c = .bool t := by
    generalize a.eval c = v at he
    cases he
    rfl
  refine wpIn_cond this (wpIn_mono (h wb Γ a w rb hs hr) ?_)
  rintro e a' w' ⟨x', s', Γ', h1, h2, h3, h4, h5, h6, h7⟩
  refine ⟨x', s', Γ', h1, h2, h3, h4, h5, h6, h7.mono fun i hi => ?_⟩
  cases t with
  | true => exact wr_left hi
  | false => exact wr_right hi

theorem W.block {id : Nat} {c : Code} (h : W P G n rd c (blockA id Q) s) : W P G n rd (.block id c) Q s := by
  intro wb Γ a w rb hs hr
  refine wpIn_block (wpIn_mono (h wb Γ a w rb hs hr) ?_)
  rintro e a' w' ⟨x, s', Γ', hx, hq, hrest⟩
  cases e with
  | exit i =>
    cases x with
    | exit j =>
      obtain rfl : i = j := hx
      simp only [Exit.inBlock]
      simp only [blockA] at hq
      split
      · rename_i hi
        rw [if_pos hi] at hq
        exact ⟨.normal, s', Γ', trivial, hq, hrest⟩
      · rename_i hi
        rw [if_neg hi] at hq
        exact ⟨.exit i, s', Γ', rfl, hq, hrest⟩
    | _ => exact hx.elim
  | normal => cases x with
    | normal => exact ⟨_, s', Γ', hx, hq, hrest⟩
    | _ => exact hx.elim
  | goto i => cases x with
    | goto j => exact ⟨_, s', Γ', hx, hq, hrest⟩
    | _ => exact hx.elim
  | ret => cases x with
    | ret => exact ⟨_, s', Γ', hx, hq, hrest⟩
    | _ => exact hx.elim
  | panic c => cases x with
    | panic => exact ⟨_, s', Γ', hx, hq, hrest⟩
    | _ => exact hx.elim
  | outgrown => cases x <;> exact hx.elim

def WeakS (P : Program) (G : Nat → Option (List AVal)) (s s' : St) : Prop :=
  ∀ n wb Γ a w, RelS P G n wb Γ s a w → ∃ Γ', RelS P G n wb Γ' s' a w ∧ Evo Γ s.H w Γ' s'.H w ∧
    (∀ rd rb, RdOk Γ s.H rd rb → RdIn s'.H rd → RdOk Γ' s'.H rd rb)

theorem WeakS.refl (s : St) : WeakS P G s s := fun _ _ Γ _ _ h => ⟨Γ, h, Evo.refl _ _ _, fun _ _ h _ => h⟩

def mask (ws : Nat) (ρ ρ₀ : Env) : Env := fun t => if ws / 2 ^ t % 2 = 1 then ρ t else ρ₀ t

def wrIn (ws : Nat) : Code → Bool
  | .region _ ops _ => ops.toList.all fun o => match o.dst with | some d => ws / 2 ^ d % 2 == 1 | none => true
  | .seq a b | .cond _ a b => wrIn ws a && wrIn ws b
  | .block _ c | .loop c | .scope c => wrIn ws c
  | _ => true

theorem wrIn_wr {ws : Nat} {t : Nat} (ht : ¬ ws / 2 ^ t % 2 = 1) : ∀ {c : Code}, wrIn ws c = true → wr c t = false := by
  intro c
  induction c with
  | region id ops d =>
    intro h
    simp only [wrIn, List.all_eq_true] at h
    simp only [wr, List.any_eq_false]
    intro o ho hd
    have := h o ho
    have hd' : o.dst = some t := by simpa using hd
    rw [hd'] at this
    simp only [beq_iff_eq] at this
    exact ht this
  | seq a b iha ihb => intro h; simp only [wrIn, Bool.and_eq_true] at h; simp only [wr, iha h.1, ihb h.2]; rfl
  | cond x a b iha ihb => intro h; simp only [wrIn, Bool.and_eq_true] at h; simp only [wr, iha h.1, ihb h.2]; rfl
  | block id c ih => intro h; exact ih h
  | loop c ih => intro h; exact ih h
  | scope c ih => intro h; exact ih h
  | _ => intro _; rfl

theorem W.loop {c : Code} (ws : Nat) (hws : wrIn ws c = true) (I : Env → AHeap → Prop) (μ : Env → AHeap → Nat) (h0 : I s.ρ s.H)
    (round : ∀ ρ H, I ρ H → W P G n rd c (thenA (fun s₂ => ∃ s₃, WeakS P G s₂ s₃ ∧ s.H.next ≤ s₃.H.next ∧ RdIn s₃.H rd ∧ I (mask ws s₃.ρ s.ρ) s₃.H ∧ μ (mask ws s₃.ρ s.ρ) s₃.H < μ (mask ws ρ s.ρ) H) Q) ⟨mask ws ρ s.ρ, H⟩) : W P G n rd (.loop c) Q s := by
  intro wb Γ a w rb hs hr
  let good : Env → AHeap → Act → World → Prop := fun ρ H a₁ w₁ => ∃ Γ₁, I ρ H ∧ RelS P G n wb Γ₁ ⟨mask ws ρ s.ρ, H⟩ a₁ w₁ ∧ Evo Γ s.H w Γ₁ H w₁ ∧ s.H.next ≤ H.next ∧ RdOk Γ₁ H rd rb ∧ Fr (wr c) a a₁
  let ex : Act → World → Prop := fun a₁ w₁ => ∃ k ρ H, good ρ H a₁ w₁ ∧ μ (mask ws ρ s.ρ) H = k
  let m : Act → World → Nat := fun a₁ w₁ => Classical.epsilon fun k => (∃ ρ H, good ρ H a₁ w₁ ∧ μ (mask ws ρ s.ρ) H = k) ∧ ∀ j, (∃ ρ H, good ρ H a₁ w₁ ∧ μ (mask ws ρ s.ρ) H = j) → k ≤ j
  have least : ∀ (p : Nat → Prop), (∃ k, p k) → ∃ k, p k ∧ ∀ j, p j → k ≤ j := by
    intro p ⟨k, hk⟩
    induction k using Nat.strongRecOn with
    | _ k ih =>
      by_cases h : ∃ j, j < k ∧ p j
      · obtain ⟨j, hj, hp⟩ := h
        exact ih j hj hp
      · exact ⟨k, hk, fun j hj => Nat.le_of_not_lt fun hlt => h ⟨j, hlt, hj⟩⟩
  have mspec : ∀ a₁ w₁, ex a₁ w₁ → (∃ ρ H, good ρ H a₁ w₁ ∧ μ (mask ws ρ s.ρ) H = m a₁ w₁) ∧ ∀ j, (∃ ρ H, good ρ H a₁ w₁ ∧ μ (mask ws ρ s.ρ) H = j) → m a₁ w₁ ≤ j := by
    intro a₁ w₁ h
    exact Classical.epsilon_spec (p := fun k => (∃ ρ H, good ρ H a₁ w₁ ∧ μ (mask ws ρ s.ρ) H = k) ∧ ∀ j, (∃ ρ H, good ρ H a₁ w₁ ∧ μ (mask ws ρ s.ρ) H = j) → k ≤ j) (least _ h)
  have mask0 : mask ws s.ρ s.ρ = s.ρ := by
    funext t
    unfold mask
    split <;> rfl
  have mask2 : ∀ ρ, mask ws (mask ws ρ s.ρ) s.ρ = mask ws ρ s.ρ := by
    intro ρ
    funext t
    unfold mask
    by_cases h : ws / 2 ^ t % 2 = 1
    · rw [if_pos h, if_pos h]
    · rw [if_neg h, if_neg h]
  refine wpIn_mono (Q := fun e a' w' => WPost P G n wb rd rb (wr c) Γ s.H a w Q e a' w') ?_ fun _ _ _ hp => hp
  refine wpIn_loop ex m ⟨_, s.ρ, s.H, ⟨Γ, h0, by rw [mask0]; exact hs, Evo.refl _ _ _, Nat.le_refl _, hr, .refl _ _⟩, rfl⟩ ?_
  intro a₁ w₁ hex
  obtain ⟨⟨ρ, H, ⟨Γ₁, hI, hs₁, E₁, hn₁, hr₁, hf₁⟩, hm⟩, hmin⟩ := mspec a₁ w₁ hex
  refine wpIn_mono (round ρ H hI wb Γ₁ a₁ w₁ rb hs₁ hr₁) ?_
  rintro e a' w' ⟨x, s', Γ', hx, hq, hs', E, hn, hr', hf⟩
  have hf' := hf₁.trans hf
  cases e with
  | normal =>
    cases x with
    | normal =>
      obtain ⟨s₃, hw, hn3, hri, hI3, hlt⟩ := hq
      obtain ⟨Γ₃, hs₃, E₃, hrd⟩ := hw n wb Γ' a' w' hs'
      have E₄ : Evo Γ s.H w Γ₃ s₃.H w' := (E₁.trans hn₁ E).trans (Nat.le_trans hn₁ hn) E₃
      have hs₄ : RelS P G n wb Γ₃ ⟨mask ws (mask ws s₃.ρ s.ρ) s.ρ, s₃.H⟩ a' w' := by
        rw [mask2]
        refine ⟨hs₃.size, fun t => ?_, hs₃.heap, hs₃.defers, hs₃.low⟩
        show RelV P Γ₃ s₃.H w' (if ws / 2 ^ t % 2 = 1 then s₃.ρ t else s.ρ t) _
        by_cases ht : ws / 2 ^ t % 2 = 1
        · rw [if_pos ht]; exact hs₃.env t
        · rw [if_neg ht]
          have hsame := hf' t (wrIn_wr ht hws)
          have : a'.tmps.getD t undef = a.tmps.getD t undef := by
            simp only [Array.getD_eq_getD_getElem?, hsame]
          rw [this]
          exact (hs.env t).evo E₄ hn3
      have hg : good (mask ws s₃.ρ s.ρ) s₃.H a' w' := ⟨Γ₃, hI3, hs₄, E₄, hn3, hrd rd rb hr' hri, hf'⟩
      have hex' : ex a' w' := ⟨_, _, _, hg, rfl⟩
      refine ⟨hex', Nat.lt_of_le_of_lt ((mspec a' w' hex').2 _ ⟨_, _, hg, rfl⟩) ?_⟩
      rw [← hm, mask2]
      exact hlt
    | _ => exact hx.elim
  | exit i => cases x with
    | exit j => exact ⟨_, s', Γ', hx, hq, hs', E₁.trans hn₁ E, Nat.le_trans hn₁ hn, hr', hf'⟩
    | _ => exact hx.elim
  | goto i => cases x with
    | goto j => exact ⟨_, s', Γ', hx, hq, hs', E₁.trans hn₁ E, Nat.le_trans hn₁ hn, hr', hf'⟩
    | _ => exact hx.elim
  | ret => cases x with
    | ret => exact ⟨_, s', Γ', hx, hq, hs', E₁.trans hn₁ E, Nat.le_trans hn₁ hn, hr', hf'⟩
    | _ => exact hx.elim
  | panic c => cases x with
    | panic => exact ⟨_, s', Γ', hx, hq, hs', E₁.trans hn₁ E, Nat.le_trans hn₁ hn, hr', hf'⟩
    | _ => exact hx.elim
  | outgrown => cases x <;> exact hx.elim

theorem W.loop0 {c : Code} (ws : Nat) (hws : wrIn ws c = true) (I : Env → AHeap → Prop) (μ : Env → AHeap → Nat) (h0 : I s.ρ s.H)
    (round : ∀ ρ H, I ρ H → W P G n rd c (thenA (fun s₂ => s.H.next ≤ s₂.H.next ∧ RdIn s₂.H rd ∧ I (mask ws s₂.ρ s.ρ) s₂.H ∧ μ (mask ws s₂.ρ s.ρ) s₂.H < μ (mask ws ρ s.ρ) H) Q) ⟨mask ws ρ s.ρ, H⟩) : W P G n rd (.loop c) Q s :=
  W.loop ws hws I μ h0 fun ρ H hI => (round ρ H hI).mono fun x s' hx => by
    cases x with
    | normal => exact ⟨s', WeakS.refl s', hx⟩
    | _ => exact hx

theorem W.weak {c : Code} {s' : St} (hw : WeakS P G s s') (hn : s.H.next ≤ s'.H.next) (hri : RdIn s'.H rd) (h : W P G n rd c Q s') : W P G n rd c Q s := by
  intro wb Γ a w rb hs hr
  obtain ⟨Γ', hs', E, hrd⟩ := hw n wb Γ a w hs
  exact wpIn_mono (h wb Γ' a w rb hs' (hrd rd rb hr hri)) fun _ _ _ hp => hp.step E hn (.refl _ _) fun _ h => h

end rules
end Go.Hx
namespace Go.Hx
variable {P : Program} {G : Nat → Option (List AVal)} {Γ Γ' : Gam} {H H' : AHeap} {w w' : World}

inductive ARes where
  | ret (v : AVal)
  | panic

def EndRel (P : Program) (Γ : Gam) (H : AHeap) (w : World) : Ending → ARes → Prop
  | .returned cv, .ret v => RelV P Γ H w v cv
  | .panicked chain, .panic => ChainOk chain
  | _, _ => False

def CPost (P : Program) (G : Nat → Option (List AVal)) (Γ : Gam) (H : AHeap) (w : World) (K : ARes → AHeap → Prop) (e : Ending) (w' : World) : Prop :=
  ∃ r H' Γ', EndRel P Γ' H' w' e r ∧ K r H' ∧ RelH P G Γ' H' w' ∧ Evo Γ H w Γ' H' w' ∧ H.next ≤ H'.next

def ACall (P : Program) (G : Nat → Option (List AVal)) (f : FuncId) (args : List AVal) (H : AHeap) (K : ARes → AHeap → Prop) : Prop :=
  (∃ fn, P.funcs[f]? = some fn ∧ fn.body.isNone = false ∧ (fn.name == "runtime.NumGoroutine") = false) ∧
  ∀ Γ w cargs, RelH P G Γ H w → RelL P Γ H w args cargs → CallsIn Fence.wide 0 P f cargs w (CPost P G Γ H w K)

def AApply (P : Program) (G : Nat → Option (List AVal)) (fv : AVal) (args : List AVal) (H : AHeap) (K : ARes → AHeap → Prop) : Prop :=
  ∀ Γ w cfv cargs, RelH P G Γ H w → RelV P Γ H w fv cfv → RelL P Γ H w args cargs →
    ∃ d, (Deferred.ofValue cfv cargs).run P w = .ok d w ∧
      ((∃ f as, (invoke d.target d.args).run P w = .ok (.enter f as) w ∧ CallsIn Fence.wide 0 P f as w (CPost P G Γ H w K)) ∨
       (∃ l f tm asg body, (invoke d.target d.args).run P w = .ok (.round l f tm asg body) w ∧ RoundIn Fence.wide 0 P l f tm asg body w (CPost P G Γ H w K)) ∨
       (∃ cv w', (invoke d.target d.args).run P w = .ok (.value cv) w' ∧ CPost P G Γ H w K (.returned cv) w'))

theorem CPost.mono {K K' : ARes → AHeap → Prop} {e : Ending} (h : CPost P G Γ H w K e w') (hk : ∀ r H', K r H' → K' r H') : CPost P G Γ H w K' e w' :=
  let ⟨r, H', Γ', h1, h2, h3⟩ := h; ⟨r, H', Γ', h1, hk _ _ h2, h3⟩

theorem ACall.mono {f : FuncId} {args : List AVal} {K K' : ARes → AHeap → Prop} (h : ACall P G f args H K) (hk : ∀ r H', K r H' → K' r H') : ACall P G f args H K' :=
  ⟨h.1, fun Γ w cargs R hr => (h.2 Γ w cargs R hr).mono fun _ _ hp => hp.mono hk⟩

theorem AApply.mono {fv : AVal} {args : List AVal} {K K' : ARes → AHeap → Prop} (h : AApply P G fv args H K) (hk : ∀ r H', K r H' → K' r H') : AApply P G fv args H K' := by
  intro Γ w cfv cargs R hv hr
  obtain ⟨d, h1, h2⟩ := h Γ w cfv cargs R hv hr
  refine ⟨d, h1, ?_⟩
  rcases h2 with ⟨f, as, h3, h4⟩ | ⟨l, f, tm, asg, body, h3, h4⟩ | ⟨cv, w', h3, h4⟩
  · exact .inl ⟨f, as, h3, h4.mono fun _ _ hp => hp.mono hk⟩
  · exact .inr (.inl ⟨l, f, tm, asg, body, h3, h4.mono fun _ _ hp => hp.mono hk⟩)
  · exact .inr (.inr ⟨cv, w', h3, h4.mono hk⟩)

theorem relL_append {a b : List AVal} {x y : Array Value} (h : RelL P Γ H w a x) (k : RelL P Γ H w b y) : RelL P Γ H w (a ++ b) (x ++ y) := by
  refine ⟨by rw [Array.size_append, List.length_append, h.1, k.1], fun i h1 h2 => ?_⟩
  have hx := h.1
  by_cases hi : i < a.length
  · rw [List.getElem_append_left hi, Array.getElem_append_left (by omega)]
    exact h.2 i hi _
  · rw [List.getElem_append_right (by omega), Array.getElem_append_right (by omega)]
    simp only [hx]
    exact k.2 _ (by simp only [List.length_append] at h1; omega) _

theorem AApply.clo {f : FuncId} {first cap args : List AVal} {K : ARes → AHeap → Prop} (h : ACall P G f (first ++ args ++ cap) H K) : AApply P G (.clo f first cap) args H K := by
  intro Γ w cfv cargs R hv hr
  cases hv with
  | @clo _ _ _ fs cs hfs hcs hf hc =>
    refine ⟨{ target := .fn (.func f) cs.toArray, args := fs.toArray ++ cargs }, rfl, .inl ⟨f, fs.toArray ++ cargs ++ cs.toArray, ?_, ?_⟩⟩
    · obtain ⟨fn, hfn, hb, hn⟩ := h.1
      show (callFunc f (fs.toArray ++ cargs ++ cs.toArray)).run P w = _
      unfold callFunc
      rw [run_bind_ok (run_program P w)]
      simp only [hfn]
      rw [hn, hb]
      rfl
    · exact h.2 Γ w _ R (relL_append (relL_append ⟨by simpa using hfs, fun i h1 h2 => by simpa using hf i h1 (by simpa using h2)⟩ hr) ⟨by simpa using hcs, fun i h1 h2 => by simpa using hc i h1 (by simpa using h2)⟩)

theorem RelV.lit_eq {v cv : Value} (h : RelV P Γ H w (.lit v) cv) : cv = v := by cases h; rfl
theorem AApply.ext {f : FuncId} {fn : Func} {e : Array Value → Sem Value} {args : List AVal} {vs : List Value} {v : Value} {r : AVal} {K : ARes → AHeap → Prop} (hf : P.funcs[f]? = some fn) (hb : fn.body.isNone = true)
    (hn : (fn.name == "runtime.NumGoroutine") = false) (h1 : Extern.findNext fn = none) (h2 : Extern.find fn = some e) (ha : args = vs.map .lit) (hrun : ∀ w, (e vs.toArray).run P w = .ok v w)
    (hrel : ∀ Γ H w, RelV P Γ H w r v) (hK : K (.ret r) H) : AApply P G (.clo f [] []) args H K := by
  intro Γ w cfv cargs R hv hr
  subst ha
  have hc : cargs = vs.toArray := by
    obtain ⟨hs, hr⟩ := hr
    apply Array.ext
    · simpa using hs
    · intro i h1 h2
      have := hr i (by simpa using h2) h1
      simp only [List.getElem_map] at this
      simpa using this.lit_eq
  subst hc
  cases hv with
  | @clo _ _ _ fs cs hfs hcs hf' hc' =>
    obtain rfl : fs = [] := List.eq_nil_of_length_eq_zero (by simpa using hfs)
    obtain rfl : cs = [] := List.eq_nil_of_length_eq_zero (by simpa using hcs)
    refine ⟨{ target := .fn (.func f) #[], args := #[] ++ vs.toArray }, rfl, .inr (.inr ⟨v, w, ?_, .ret r, H, Γ, hrel Γ H w, hK, R, Evo.refl _ _ _, Nat.le_refl _⟩)⟩
    show (callFunc f (#[] ++ vs.toArray ++ #[])).run P w = _
    unfold callFunc
    rw [run_bind_ok (run_program P w)]
    simp only [hf]
    rw [hn, hb]
    simp only [Bool.false_eq_true, if_false, if_true, h1, h2]
    have e0 : #[] ++ vs.toArray ++ #[] = vs.toArray := by simp
    rw [e0]
    have hm : (mark (.extern f)).run P w = .ok () w := rfl
    rw [run_bind_ok hm]
    rw [run_bind_ok (hrun w)]
    rfl

inductive TagK {α : Type} (K : α → Prop) : Type where
  | mk
inductive TagR (K : ARes → AHeap → Prop) : Type where
  | mk
inductive TagP (p q : Prop) : Type where
  | mk
def wpo {α : Type} (o : Option α) (K : α → Prop) (_d : TagK K := .mk) : Prop := ∃ a, o = some a ∧ K a

def putA (ρ : Env) (dst : Option Tmp) (v : AVal) : Env :=
  match dst with
  | some d => fun t => if t = d then v else ρ t
  | none => ρ

def wantA (all : Array Oper) (ρ : Env) (o : Oper) : Option Bool :=
  match o.guard with
  | none => some true
  | some (j, want) =>
    match (all[j]?).bind (·.dst) with
    | some d => match ρ d with
      | .lit (.bool b) => some (b == want)
      | .lit _ => some false
      | _ => none
    | none => some false

def dstOk (n : Nat) (o : Oper) : Bool := match o.dst with | some d => decide (d < n) | none => true

def nilOf (H : AHeap) (op : BinOp) (x y : AVal) : Option Bool :=
  match op, y with
  | .eql, .lit (.slice none 0 0) | .neq, .lit (.slice none 0 0) => match x with
    | .vec n _ => some (decide (0 < n))
    | .own id g _ n _ => match H.live id g with
      | some _ => some (decide (0 < n))
      | none => none
    | _ => none
  | _, _ => none

def sliceT (d : Option TypeDesc) : Bool := match d with | some (.slice _) => true | _ => false

def nilK (P : Program) (op : BinOp) (t : TypeId) (k : Option Bool) (Kb : AVal → Prop) (p : Prop) : Prop :=
  match k with
  | some k => sliceT (P.underlying t) = true ∧ ∀ b : Bool, (k = true → b = false) → Kb (.lit (.bool (if op == .neq then !b else b)))
  | none => p

def opV (P : Program) (G : Nat → Option (List AVal)) (rd : Option Nat) (Q : AX → St → Prop) (o : Oper) (K : St → Prop) (s : St) : Prop :=
  match o.op with
  | .call { callee := .value fv, args, .. } => AApply P G (evA G s.ρ fv) (args.toList.map (evA G s.ρ)) s.H fun r H' => RdIn H' rd ∧ match r with
    | .ret v => K ⟨putA s.ρ o.dst v, H'⟩
    | .panic => Q .panic ⟨s.ρ, H'⟩
  | .panic x => (∃ t v, (evA G s.ρ x) = .lit (.iface t v)) ∧ Q .panic s
  | .binOp op t x y u => nilK P op t (nilOf s.H op (evA G s.ρ x) (evA G s.ρ y)) (fun v => K ⟨putA s.ρ o.dst v, s.H⟩) (wpo (opA P G s.ρ s.H s.H.next (.binOp op t x y u)) fun vH => K ⟨putA s.ρ o.dst vH.1, vH.2⟩)
  | op => wpo (opA P G s.ρ s.H s.H.next op) fun vH => K ⟨putA s.ρ o.dst vH.1, vH.2⟩

def opsV (P : Program) (G : Nat → Option (List AVal)) (rd : Option Nat) (Q : AX → St → Prop) (all : Array Oper) : List Oper → St → Prop
  | [], s => Q .normal s
  | o :: rest, s => wpo (wantA all s.ρ o) fun t => if t = true then opV P G rd Q o (opsV P G rd Q all rest) s else opsV P G rd Q all rest ⟨putA s.ρ o.dst (.lit undef), s.H⟩

theorem want_sound {n : Nat} {wb : Base} {s : St} {a : Act} {all : Array Oper} {o : Oper} {t : Bool} (hs : RelS P G n wb Γ s a w) (h : wantA all s.ρ o = some t) : Region.wanted o (yielded all a.tmps) = t := by
  unfold wantA at h
  unfold Region.wanted
  split at h
  · rename_i hg
    rw [hg]
    simpa using h
  · rename_i j want hg
    rw [hg]
    simp only
    split at h
    · rename_i d hd
      have he := hs.env d
      have hy : yielded all a.tmps j = match a.tmps[d]? with | some (.bool b) => some b | _ => none := by
        unfold yielded
        rw [hd]
        rfl
      rw [hy]
      have hgd : a.tmps.getD d undef = (a.tmps[d]?).getD undef := by simp
      rw [hgd] at he
      split at h
      · rename_i b hb
        rw [hb] at he
        simp only [Option.some.injEq] at h
        cases hd : a.tmps[d]? with
        | none => rw [hd] at he; cases he
        | some v =>
          rw [hd] at he
          cases he
          simp only
          rw [← h]
          cases b <;> cases want <;> rfl
      · rename_i v hnb hb
        rw [hb] at he
        simp only [Option.some.injEq] at h
        subst h
        cases hd : a.tmps[d]? with
        | none => simp
        | some cv =>
          rw [hd] at he
          cases he
          cases cv with
          | bool b => exact (hnb b rfl).elim
          | _ => rfl
      · cases h
    · rename_i hd
      have hy : yielded all a.tmps j = none := by unfold yielded; rw [hd]; rfl
      rw [hy]
      simpa using h

theorem put_rel {n : Nat} {wb : Base} {s : St} {a : Act} {dst : Option Tmp} {v : AVal} {cv : Value} {H' : AHeap} (hs : RelS P G n wb Γ s a w) (hd : ∀ d, dst = some d → d < n) (E : Evo Γ s.H w Γ' H' w') (hn : s.H.next ≤ H'.next)
    (R : RelH P G Γ' H' w') (hv : RelV P Γ' H' w' v cv) : RelS P G n wb Γ' ⟨putA s.ρ dst v, H'⟩ (a.put dst cv) w' := by
  cases dst with
  | none => exact ⟨hs.size, fun t => (hs.env t).evo E hn, R, hs.defers.evo E, Nat.le_trans hs.low E.size⟩
  | some d =>
    have hdn := hd d rfl
    refine ⟨by simp [Act.put, hs.size], fun t => ?_, R, hs.defers.evo E, Nat.le_trans hs.low E.size⟩
    simp only [Act.put, putA]
    by_cases ht : t = d
    · subst ht
      rw [if_pos rfl]
      have : (a.tmps.setIfInBounds t cv).getD t undef = cv := by simp [hs.size, hdn]
      rw [this]
      exact hv
    · rw [if_neg ht]
      have : (a.tmps.setIfInBounds d cv).getD t undef = a.tmps.getD t undef := by
        simp only [Array.getD_eq_getD_getElem?]
        rw [Array.getElem?_setIfInBounds, if_neg (by omega)]
      rw [this]
      exact (hs.env t).evo E hn

theorem RdOk.evo {rd rb : Option Nat} (h : RdOk Γ H rd rb) (E : Evo Γ H w Γ' H' w') (hn : H.next ≤ H'.next) (R : RelH P G Γ H w) (hi : RdIn H' rd) : RdOk Γ' H' rd rb := by
  cases rd with
  | none => exact h
  | some id =>
    obtain ⟨b, st, pend, n, env, ps, asg, body, h1, h2, h3⟩ := h
    obtain ⟨st', pend', n', env', ps', asg', body', h3'⟩ := hi
    have hlt := R.next id _ h3
    obtain ⟨x, hx, hle⟩ := E.live id hlt (Nat.lt_of_lt_of_le hlt hn) _ h3'
    rw [h3] at hx
    cases hx
    exact ⟨b, _, _, _, _, _, _, _, h1, hle.1.trans h2, h3'⟩

theorem lay_keeps {id : Nat} {b : Blk} (h : H.lay id b = some H') {j : Nat} {st : LoopState} {pend : Option Code} {n : Nat} {env : Env} {ps : Array Tmp} {asg body : Code}
    (hj : H.get j = some (.loop st pend n env ps asg body)) (hlt : j < H.next) : H'.get j = some (.loop st pend n env ps asg body) := by
  obtain ⟨h1, _⟩ := lay_some h
  have hne : j ≠ id := by
    rintro rfl
    unfold AHeap.lay at h
    rw [if_neg (by omega), hj] at h
    cases h
  rw [h1, if_neg hne]
  exact hj

theorem rdIn_of_live {rd rb : Option Nat} (h : RdOk Γ H rd rb) (hk : ∀ j st pend n env ps asg body, H.get j = some (.loop st pend n env ps asg body) → ∃ st pend n env ps asg body, H'.get j = some (.loop st pend n env ps asg body)) : RdIn H' rd := by
  cases rd with
  | none => trivial
  | some id =>
    obtain ⟨b, st, pend, n, env, ps, asg, body, h1, h2, h3⟩ := h
    exact hk id _ _ _ _ _ _ _ h3

theorem opA_loops {ρ : Env} {o : Op} {v : AVal} {id : Nat} (R : RelH P G Γ H w) (h : opA P G ρ H id o = some (v, H')) : ∀ j st pend n env ps asg body, H.get j = some (.loop st pend n env ps asg body) →
    ∃ st pend n env ps asg body, H'.get j = some (.loop st pend n env ps asg body) := by
  have same : H' = H → ∀ j st pend n env ps asg body, H.get j = some (.loop st pend n env ps asg body) → ∃ st pend n env ps asg body, H'.get j = some (.loop st pend n env ps asg body) := by
    rintro rfl j st pend n env ps asg body hj
    exact ⟨_, _, _, _, _, _, _, hj⟩
  have lay : ∀ b, H.lay id b = some H' → ∀ j st pend n env ps asg body, H.get j = some (.loop st pend n env ps asg body) → ∃ st pend n env ps asg body, H'.get j = some (.loop st pend n env ps asg body) := by
    intro b hb j st pend n env ps asg body hj
    exact ⟨_, _, _, _, _, _, _, lay_keeps hb hj (R.next j _ hj)⟩
  have upd : ∀ id g e cells b, H.get id = some (.arr g e cells) → H' = H.upd id b → ∀ j st pend n env ps asg body, H.get j = some (.loop st pend n env ps asg body) → ∃ st pend n env ps asg body, H'.get j = some (.loop st pend n env ps asg body) := by
    rintro id g e cells b hb rfl j st pend n env ps asg body hj
    refine ⟨st, pend, n, env, ps, asg, body, ?_⟩
    rw [upd_get, if_neg]
    · exact hj
    · rintro rfl
      rw [hb] at hj
      cases hj
  have updM : ∀ id es b, H.get id = some (.mp es) → H' = H.upd id b → ∀ j st pend n env ps asg body, H.get j = some (.loop st pend n env ps asg body) → ∃ st pend n env ps asg body, H'.get j = some (.loop st pend n env ps asg body) := by
    rintro id es b hb rfl j st pend n env ps asg body hj
    refine ⟨st, pend, n, env, ps, asg, body, ?_⟩
    rw [upd_get, if_neg]
    · exact hj
    · rintro rfl
      rw [hb] at hj
      cases hj
  have updU : ∀ t m k x, mapUpdA P H t m k x = some (v, H') → ∀ j st pend n env ps asg body, H.get j = some (.loop st pend n env ps asg body) → ∃ st pend n env ps asg body, H'.get j = some (.loop st pend n env ps asg body) := by
    intro t m k x h
    unfold mapUpdA at h
    split at h
    · split at h
      · split at h
        · rename_i hg
          simp only [Option.some.injEq, Prod.mk.injEq] at h
          exact updM _ _ _ hg h.2.symm
        · cases h
      · cases h
    · cases h
  cases o with
  | makeMap t r =>
    simp only [opA] at h
    split at h
    · simp only [Option.map_eq_some_iff, Prod.mk.injEq] at h
      obtain ⟨_, hl, _, rfl⟩ := h
      exact lay _ hl
    · cases h
  | lookup a b c d => simp only [opA, Option.map_eq_some_iff, Prod.mk.injEq] at h; obtain ⟨_, _, _, rfl⟩ := h; exact same rfl
  | mapUpdate t m k x => simp only [opA] at h; exact updU _ _ _ _ h
  | insert t m k x => simp only [opA] at h; exact updU _ _ _ _ h
  | mapEntry t m k =>
    simp only [opA] at h
    unfold mapEntA at h
    split at h
    · split at h
      · split at h
        · rename_i hg
          split at h
          · simp only [Option.some.injEq, Prod.mk.injEq] at h
            exact updM _ _ _ hg h.2.symm
          · simp only [Option.some.injEq, Prod.mk.injEq] at h
            exact updM _ _ _ hg h.2.symm
        · cases h
      · cases h
    · cases h
  | entryStore t m s x =>
    simp only [opA] at h
    unfold entStoA at h
    split at h
    · split at h
      · rename_i hg
        split at h
        · simp only [Option.some.injEq, Prod.mk.injEq] at h
          exact updM _ _ _ hg h.2.symm
        · cases h
      · cases h
    · cases h
  | alloc e =>
    simp only [opA, Option.bind_eq_some_iff, Option.map_eq_some_iff, Prod.mk.injEq] at h
    obtain ⟨_, _, _, hl, _, rfl⟩ := h
    exact lay _ hl
  | box e x =>
    simp only [opA, Option.map_eq_some_iff, Prod.mk.injEq] at h
    obtain ⟨_, hl, _, rfl⟩ := h
    exact lay _ hl
  | buildSlice t len parts =>
    simp only [opA, buildSliceA] at h
    split at h
    · split at h
      · simp only [Option.bind_eq_some_iff, Option.map_eq_some_iff, Prod.mk.injEq] at h
        obtain ⟨_, _, _, _, _, hl, _, rfl⟩ := h
        exact lay _ hl
      · cases h
    · cases h
  | store t a x =>
    simp only [opA] at h
    split at h
    · simp only [Option.map_eq_some_iff, Prod.mk.injEq] at h
      obtain ⟨_, hst, _, rfl⟩ := h
      unfold storeA at hst
      split at hst
      · split at hst
        · rename_i hg
          split at hst
          · simp only [Option.some.injEq] at hst
            exact upd _ _ _ _ _ hg hst.symm
          · cases hst
        · cases hst
      · cases hst
    · cases h
  | makeSlice t l c =>
    simp only [opA, makeSliceA] at h
    split at h
    · split at h
      · simp only [Option.bind_eq_some_iff, Option.map_eq_some_iff, Prod.mk.injEq] at h
        obtain ⟨_, _, _, hl, _, rfl⟩ := h
        exact lay _ hl
      · cases h
    · cases h
  | call c =>
    simp only [opA] at h
    split at h
    · rename_i b hb
      unfold builtinA at h
      split at h
      · simp only [Option.map_eq_some_iff, Prod.mk.injEq] at h
        obtain ⟨_, _, _, rfl⟩ := h
        exact same rfl
      · unfold appendA at h
        split at h
        · split at h
          · simp only [Option.bind_eq_some_iff] at h
            obtain ⟨_, _, _, _, h⟩ := h
            split at h
            · split at h
              · simp only [Option.some.injEq, Prod.mk.injEq] at h
                exact same h.2.symm
              · split at h
                · simp only [Option.map_eq_some_iff, Prod.mk.injEq] at h
                  obtain ⟨_, hl, _, rfl⟩ := h
                  exact lay _ hl
                · cases h
            · simp only [Option.bind_eq_some_iff] at h
              obtain ⟨⟨e', cells⟩, hl, h⟩ := h
              simp only at h
              split at h
              · split at h
                · simp only [Option.some.injEq, Prod.mk.injEq] at h
                  exact same h.2.symm
                · simp only [Option.some.injEq, Prod.mk.injEq] at h
                  exact upd _ _ _ _ _ (live_some hl) h.2.symm
              · cases h
            · cases h
          · cases h
        · cases h
      · unfold copyA at h
        split at h
        · split at h
          · simp only [Option.bind_eq_some_iff] at h
            obtain ⟨_, _, h⟩ := h
            split at h
            · simp only [Option.bind_eq_some_iff] at h
              obtain ⟨⟨e', cells⟩, hl, h⟩ := h
              simp only at h
              split at h
              · simp only [Option.some.injEq, Prod.mk.injEq] at h
                exact upd _ _ _ _ _ (live_some hl) h.2.symm
              · cases h
            · cases h
          · cases h
        · cases h
      · unfold clearA at h
        split at h
        · split at h
          · simp only [Option.some.injEq, Prod.mk.injEq] at h
            exact same h.2.symm
          · simp only [Option.bind_eq_some_iff] at h
            obtain ⟨⟨e', cells⟩, hl, h⟩ := h
            simp only at h
            split at h
            · simp only [Option.some.injEq, Prod.mk.injEq] at h
              exact same h.2.symm
            · simp only [Option.bind_eq_some_iff] at h
              obtain ⟨_, _, h⟩ := h
              split at h
              · simp only [Option.some.injEq, Prod.mk.injEq] at h
                exact upd _ _ _ _ _ (live_some hl) h.2.symm
              · cases h
          · cases h
        · cases h
      · simp only [Option.bind_eq_some_iff, Option.map_eq_some_iff, Prod.mk.injEq] at h
        obtain ⟨_, _, _, _, _, rfl⟩ := h
        exact same rfl
      · simp only [Option.bind_eq_some_iff, Option.map_eq_some_iff, Prod.mk.injEq] at h
        obtain ⟨_, _, _, _, _, rfl⟩ := h
        exact same rfl
      · cases h
    · cases h
  | pick c a b =>
    simp only [opA] at h
    split at h
    · simp only [Option.some.injEq, Prod.mk.injEq] at h; exact same h.2.symm
    · cases h
  | makeFunc fn f c =>
    simp only [opA] at h
    split at h
    · simp only [Option.some.injEq, Prod.mk.injEq] at h; exact same h.2.symm
    · cases h
  | makeInterface t x =>
    simp only [opA] at h
    split at h
    · simp only [Option.map_eq_some_iff, Prod.mk.injEq] at h
      obtain ⟨_, _, _, rfl⟩ := h
      exact same rfl
    · cases h
  | slice t x lo hi mx =>
    simp only [opA] at h
    split at h
    · simp only [Option.map_eq_some_iff, Prod.mk.injEq] at h
      obtain ⟨_, _, _, rfl⟩ := h
      exact same rfl
    · cases h
  | fieldAddr s x f =>
    simp only [opA, Option.bind_eq_some_iff] at h
    obtain ⟨_, _, h⟩ := h
    split at h
    · simp only [Option.map_eq_some_iff, Prod.mk.injEq] at h
      obtain ⟨_, _, _, rfl⟩ := h
      exact same rfl
    · simp only [Option.some.injEq, Prod.mk.injEq] at h; exact same h.2.symm
    · cases h
  | field s x f =>
    simp only [opA, Option.bind_eq_some_iff] at h
    obtain ⟨_, _, h⟩ := h
    split at h
    · simp only [Option.map_eq_some_iff, Prod.mk.injEq] at h
      obtain ⟨_, _, _, rfl⟩ := h
      exact same rfl
    · simp only [Option.map_eq_some_iff, Prod.mk.injEq] at h
      obtain ⟨_, _, _, rfl⟩ := h
      exact same rfl
    · cases h
  | indexAddr t x i =>
    simp only [opA] at h
    split at h
    · simp only [Option.map_eq_some_iff, Prod.mk.injEq] at h
      obtain ⟨_, _, _, rfl⟩ := h
      exact same rfl
    · cases h
  | move x => simp only [opA, Option.some.injEq, Prod.mk.injEq] at h; exact same h.2.symm
  | assign x => simp only [opA, Option.some.injEq, Prod.mk.injEq] at h; exact same h.2.symm
  | build t p => simp only [opA, Option.map_eq_some_iff, Prod.mk.injEq] at h; obtain ⟨_, _, _, rfl⟩ := h; exact same rfl
  | load t p => simp only [opA, Option.map_eq_some_iff, Prod.mk.injEq] at h; obtain ⟨_, _, _, rfl⟩ := h; exact same rfl
  | nilCheck p => simp only [opA, Option.map_eq_some_iff, Prod.mk.injEq] at h; obtain ⟨_, _, _, rfl⟩ := h; exact same rfl
  | binOp a b c d e => simp only [opA, Option.map_eq_some_iff, Prod.mk.injEq] at h; obtain ⟨_, _, _, rfl⟩ := h; exact same rfl
  | unOp a b c => simp only [opA, Option.map_eq_some_iff, Prod.mk.injEq] at h; obtain ⟨_, _, _, rfl⟩ := h; exact same rfl
  | convert a b c => simp only [opA, Option.map_eq_some_iff, Prod.mk.injEq] at h; obtain ⟨_, _, _, rfl⟩ := h; exact same rfl
  | index a b c => simp only [opA, Option.map_eq_some_iff, Prod.mk.injEq] at h; obtain ⟨_, _, _, rfl⟩ := h; exact same rfl
  | extract a b => simp only [opA, Option.map_eq_some_iff, Prod.mk.injEq] at h; obtain ⟨_, _, _, rfl⟩ := h; exact same rfl
  | _ => simp [opA] at h

end Go.Hx
namespace Go.Hx
variable {P : Program} {G : Nat → Option (List AVal)} {Γ Γ' : Gam} {H H' : AHeap} {w w' : World}

theorem vec_rel {n : Nat} {cells : List AVal} {cx : Value} (hx : RelV P Γ H w (.vec n cells) cx) : ∃ a m c, cx = .slice a m c ∧ (decide (0 < n) = true → a.isNone = false) := by
  cases hx with
  | vec0 a cap => exact ⟨a, 0, cap, rfl, fun hk => by simp at hk⟩
  | vec => exact ⟨_, _, _, rfl, fun _ => rfl⟩

theorem own_nil {id g o n z : Nat} {k : Bool} {cx : Value} (h : (match H.live id g with | some _ => some (decide (0 < n)) | none => none) = some k) (hx : RelV P Γ H w (.own id g o n z) cx) : ∃ a m c, cx = .slice a m c ∧ (k = true → a.isNone = false) := by
  split at h
  · rename_i ec hl
    simp only [Option.some.injEq] at h
    rcases own_live (e := ec.1) (cells := ec.2) hx hl with ⟨b, base, m, a, cap, _, rfl, _, _, _⟩ | ⟨_, _, rfl, rfl⟩
    · exact ⟨_, _, _, rfl, fun _ => rfl⟩
    · refine ⟨_, _, _, rfl, fun hk => ?_⟩
      rw [← h] at hk
      simp at hk
  · cases h

theorem nilOf_rel {op : BinOp} {x y : AVal} {k : Bool} {cx cy : Value} (h : nilOf H op x y = some k) (hx : RelV P Γ H w x cx) (hy : RelV P Γ H w y cy) :
    (op = .eql ∨ op = .neq) ∧ cy = .slice none 0 0 ∧ ∃ a n c, cx = .slice a n c ∧ (k = true → a.isNone = false) := by
  unfold nilOf at h
  split at h
  · cases hy
    split at h
    · simp only [Option.some.injEq] at h
      rw [← h]
      exact ⟨.inl rfl, rfl, vec_rel hx⟩
    · exact ⟨.inl rfl, rfl, own_nil h hx⟩
    · cases h
  · cases hy
    split at h
    · simp only [Option.some.injEq] at h
      rw [← h]
      exact ⟨.inr rfl, rfl, vec_rel hx⟩
    · exact ⟨.inr rfl, rfl, own_nil h hx⟩
    · cases h
  · cases h

theorem run_equal_nil {t : TypeId} (ht : sliceT (P.underlying t) = true) (a : Option Addr) (n c : Nat) : (Op.equal t (.slice a n c) (.slice none 0 0)).run P w = .ok a.isNone w := by
  unfold sliceT at ht
  split at ht
  · rename_i e he
    show (Op.equalIn (9999 + 1) t (.slice a n c) (.slice none 0 0)).run P w = _
    unfold Op.equalIn
    rw [run_bind_ok (run_und he)]
    cases a <;> rfl
  · cases ht

section
variable {n : Nat} {wb : Base} {rd rb : Option Nat} {Q : AX → St → Prop}

theorem opV_sound {o : Oper} {K : St → Prop} {s : St} {a : Act} {next : Act → World → Prop} {Q' : Exit → Act → World → Prop} (hd : dstOk n o = true) (hs : RelS P G n wb Γ s a w) (hr : RdOk Γ s.H rd rb) (h : opV P G rd Q o K s)
    (hnext : ∀ Γ' s' a' w', K s' → RelS P G n wb Γ' s' a' w' → Evo Γ s.H w Γ' s'.H w' → s.H.next ≤ s'.H.next → RdOk Γ' s'.H rd rb → (∃ cv, a' = a.put o.dst cv) → next a' w')
    (hq : ∀ Γ' s' a' w' chain, Q .panic s' → ChainOk chain → RelS P G n wb Γ' s' a' w' → Evo Γ s.H w Γ' s'.H w' → s.H.next ≤ s'.H.next → RdOk Γ' s'.H rd rb → a' = a → Q' (.panic chain) a' w') :
    o.wpIn (fenceOf rb) 0 P a w next Q' := by
  have hdst : ∀ d, o.dst = some d → d < n := by
    intro d hd'
    unfold dstOk at hd
    rw [hd'] at hd
    simpa using hd
  have plain : ∀ vH : AVal × AHeap, opA P G s.ρ s.H s.H.next o.op = some vH → K ⟨putA s.ρ o.dst vH.1, vH.2⟩ → o.wpIn (fenceOf rb) 0 P a w next Q' := by
    rintro ⟨v, H'⟩ hop hk
    refine ⟨fun _ _ => trivial, ?_⟩
    rw [Oper.semAt_eq _ _ _ (fun c hc => by rw [hc] at hop; simp [opA] at hop)]
    obtain ⟨nx, cv, Γ', w', hrun, hnx, E, hn, R, hv⟩ := opA_sound hs.heap (eval_rel hs) hop
    rw [hrun]
    have hri := rdIn_of_live hr (opA_loops hs.heap hop)
    have hs' := put_rel hs hdst E hn R hv
    have hr' := hr.evo E hn hs.heap hri
    rcases hnx with rfl | ⟨rfl, rfl⟩
    · exact hnext Γ' _ _ w' hk hs' E hn hr' ⟨_, rfl⟩
    · exact hnext Γ' _ _ w' hk hs' E hn hr' ⟨_, rfl⟩
  unfold opV at h
  split at h
  · rename_i fv args ats hop
    refine ⟨fun _ _ => trivial, ?_⟩
    rw [Oper.semAt_eq _ _ _ (fun c hc => by rw [hc] at hop; cases hop)]
    obtain ⟨d, h1, h2⟩ := h Γ w (a.eval fv) (args.map a.eval) hs.heap (eval_rel hs fv) ⟨by simp, fun i h1 h2 => by simp only [List.getElem_map, Array.getElem_map, Array.getElem_toList]; exact eval_rel hs _⟩
    have hex : (execOp a.eval o).run P w = (invoke d.target d.args).run P w := by
      unfold execOp
      simp only [hop]
      unfold resolve
      simp only
      rw [run_bind_ok h1]
    have cont : ∀ e w', CPost P G Γ s.H w (fun r H' => RdIn H' rd ∧ match r with
        | .ret v => K ⟨putA s.ρ o.dst v, H'⟩
        | .panic => Q .panic ⟨s.ρ, H'⟩) e w' → (match e with
          | .returned v => next (a.put o.dst v) w'
          | .panicked chain => Q' (.panic chain) a w'
          | .outgrown => LetsOut Q') := by
      rintro e w' ⟨r, H', Γ', hend, ⟨hri, hk⟩, R, E, hn⟩
      have hr' := hr.evo E hn hs.heap hri
      cases e with
      | returned cv =>
        cases r with
        | ret v => exact hnext Γ' _ _ w' hk (put_rel hs hdst E hn R hend) E hn hr' ⟨_, rfl⟩
        | panic => exact hend.elim
      | panicked chain =>
        cases r with
        | ret v => exact hend.elim
        | panic =>
          exact hq Γ' ⟨s.ρ, H'⟩ a w' chain hk hend ⟨hs.size, fun t => (hs.env t).evo E hn, R, hs.defers.evo E, Nat.le_trans hs.low E.size⟩ E hn hr' rfl
      | outgrown => cases r <;> exact hend.elim
    rw [hex]
    rcases h2 with ⟨f, as, h3, h4⟩ | ⟨l, f, tm, asg, body, h3, h4⟩ | ⟨cv, w', h3, h4⟩
    · rw [h3]
      refine ⟨fun hc => by simp [Fence.wide] at hc, ?_⟩
      have h4' : CallsIn (fenceOf rb) 0 P f as w _ := h4
      refine h4'.mono ?_
      intro e w' hp
      have := cont e w' hp
      cases e <;> exact this
    · rw [h3]
      refine ⟨fun hc => by simp [Fence.wide] at hc, ?_⟩
      have h4' : RoundIn (fenceOf rb) 0 P l f tm asg body w _ := h4
      refine h4'.mono ?_
      intro e w' hp
      have := cont e w' hp
      cases e <;> exact this
    · rw [h3]
      exact cont (.returned cv) w' h4
  · rename_i x hop
    obtain ⟨⟨t, v, hx⟩, hk⟩ := h
    refine ⟨fun _ _ => trivial, ?_⟩
    rw [Oper.semAt_eq _ _ _ (fun c hc => by rw [hc] at hop; cases hop)]
    have he := eval_rel hs x
    rw [hx] at he
    have hev : a.eval x = .iface t v := by
      generalize a.eval x = y at he
      cases he
      rfl
    have hex : (execOp a.eval o).run P w = .halt (.panic (.iface t v)) w := by
      unfold execOp
      simp only [hop, hev]
      rfl
    rw [hex]
    exact hq Γ s a w _ hk ⟨t, v, rfl⟩ hs (Evo.refl _ _ _) (Nat.le_refl _) hr rfl
  · rename_i op t x y u hop
    unfold nilK at h
    split at h
    · rename_i k hk
      obtain ⟨ht, hall⟩ := h
      obtain ⟨hor, hcy, sa, sn, sc, hcx, hsome⟩ := nilOf_rel hk (eval_rel hs x) (eval_rel hs y)
      refine ⟨fun _ _ => trivial, ?_⟩
      rw [Oper.semAt_eq _ _ _ (fun c hc => by rw [hc] at hop; cases hop)]
      have hex : (execOp a.eval o).run P w = .ok (.value (.bool (if op == .neq then !sa.isNone else sa.isNone))) w := by
        unfold execOp
        simp only [hop, hcx, hcy]
        rcases hor with rfl | rfl
        · have h1 : (eqGuard .eql t x y (.slice sa sn sc) (.slice none 0 0)).run P w = .ok () w := rfl
          have h2 : (binOp .eql t (.slice sa sn sc) (.slice none 0 0)).run P w = .ok (.bool sa.isNone) w := by
            show ((Op.equal t (.slice sa sn sc) (.slice none 0 0)) >>= fun b => pure (Value.bool b)).run P w = _
            rw [run_bind_ok (run_equal_nil ht sa sn sc)]
            rfl
          have h3 : (do eqGuard .eql t x y (.slice sa sn sc) (.slice none 0 0); binOp .eql t (.slice sa sn sc) (.slice none 0 0)).run P w = .ok (.bool sa.isNone) w := by rw [run_bind_ok h1]; exact h2
          rw [run_bind_ok h3]
          rfl
        · have h1 : (eqGuard .neq t x y (.slice sa sn sc) (.slice none 0 0)).run P w = .ok () w := rfl
          have h2 : (binOp .neq t (.slice sa sn sc) (.slice none 0 0)).run P w = .ok (.bool (!sa.isNone)) w := by
            show ((Op.equal t (.slice sa sn sc) (.slice none 0 0)) >>= fun b => pure (Value.bool !b)).run P w = _
            rw [run_bind_ok (run_equal_nil ht sa sn sc)]
            rfl
          have h3 : (do eqGuard .neq t x y (.slice sa sn sc) (.slice none 0 0); binOp .neq t (.slice sa sn sc) (.slice none 0 0)).run P w = .ok (.bool (!sa.isNone)) w := by rw [run_bind_ok h1]; exact h2
          rw [run_bind_ok h3]
          rfl
      rw [hex]
      exact hnext Γ _ _ w (hall sa.isNone hsome) (put_rel hs hdst (Evo.refl _ _ _) (Nat.le_refl _) hs.heap (.lit _)) (Evo.refl _ _ _) (Nat.le_refl _) hr ⟨_, rfl⟩
    · obtain ⟨vH, hop', hk⟩ := h
      exact plain vH (by rw [hop]; exact hop') hk
  · obtain ⟨vH, hop, hk⟩ := h
    exact plain vH hop hk

theorem put_fr {a : Act} {all : Array Oper} {i : Nat} (hi : i < all.size) (cv : Value) : Fr (fun t => all.toList.any fun o => o.dst == some t) a (a.put all[i].dst cv) := by
  intro t ht
  simp only [List.any_eq_false] at ht
  have := ht all[i] (by simp)
  cases hd : all[i].dst with
  | none => rfl
  | some d =>
    simp only [Act.put]
    rw [Array.getElem?_setIfInBounds, if_neg]
    intro hdt
    rw [hd, hdt] at this
    simp at this

theorem opsV_sound {id : Nat} {dr : Bool} {all : Array Oper} (hfit : ∀ o, o ∈ all.toList → dstOk n o = true) : ∀ (is : List Nat) (s : St) (Γ : Gam) (a : Act) (w : World), (∀ i, i ∈ is → i < all.size) →
    opsV P G rd Q all (is.filterMap fun i => all[i]?) s → RelS P G n wb Γ s a w → RdOk Γ s.H rd rb →
    ∀ (Q' : Exit → Act → World → Prop), (∀ e a' w', WPost P G n wb rd rb (wr (.region id all dr)) Γ s.H a w Q e a' w' → Q' e a' w') → wpOpsIn (fenceOf rb) 0 P all Q' is a w := by
  intro is
  induction is with
  | nil =>
    intro s Γ a w _ h hs hr Q' hq
    exact hq _ _ _ (.here (x := .normal) trivial h hs hr)
  | cons i is ih =>
    intro s Γ a w hi h hs hr Q' hq
    have hlt := hi i (by simp)
    have ho : all[i]? = some all[i] := Array.getElem?_eq_getElem hlt
    simp only [List.filterMap_cons, ho] at h
    unfold wpOpsIn
    rw [ho]
    simp only
    obtain ⟨t, ht, h⟩ := h
    rw [want_sound hs ht]
    have hd := hfit all[i] (by simp)
    cases t with
    | true =>
      simp only [if_true] at h ⊢
      refine opV_sound hd hs hr h ?_ ?_
      · rintro Γ' s' a' w' hk hs' E hn hr' ⟨cv, rfl⟩
        exact ih s' Γ' _ w' (fun j hj => hi j (by simp [hj])) hk hs' hr' Q' fun e a'' w'' hp => hq _ _ _ (hp.step E hn (put_fr hlt cv) fun _ h => h)
      · rintro Γ' s' a' w' chain hp hc hs' E hn hr' rfl
        exact hq _ _ _ ⟨.panic, s', Γ', hc, hp, hs', E, hn, hr', .refl _ _⟩
    | false =>
      simp only [Bool.false_eq_true, if_false] at h ⊢
      refine ⟨fun _ _ => trivial, ?_⟩
      have hdst : ∀ d, all[i].dst = some d → d < n := by
        intro d hd'
        unfold dstOk at hd
        rw [hd'] at hd
        simpa using hd
      have hs' := put_rel (v := .lit undef) (cv := undef) hs hdst (Evo.refl Γ s.H w) (Nat.le_refl _) hs.heap (.lit _)
      exact ih ⟨putA s.ρ all[i].dst (.lit undef), s.H⟩ Γ _ w (fun j hj => hi j (by simp [hj])) h hs' hr Q' fun e a'' w'' hp => hq _ _ _ (hp.step (Evo.refl _ _ _) (Nat.le_refl _) (put_fr hlt _) fun _ h => h)

theorem filterMap_range {α : Type} (l : List α) : (List.range l.length).filterMap (fun i => l[i]?) = l := by
  induction l with
  | nil => rfl
  | cons x xs ih =>
    rw [List.length_cons, List.range_succ_eq_map, List.filterMap_cons]
    simp only [List.getElem?_cons_zero]
    rw [List.filterMap_map]
    congr 1

theorem W.region {id : Nat} {ops : Array Oper} {s : St} (hfit : ops.toList.all (dstOk n) = true) (h : opsV P G rd Q ops ops.toList s) : W P G n rd (.region id ops false) Q s := by
  intro wb Γ a w rb hs hr
  refine wpIn_region (opsV_sound (id := id) (dr := false) (fun o ho => List.all_eq_true.1 hfit o ho) _ s Γ a w (fun i hi => List.mem_range.1 hi) ?_ hs hr _ fun _ _ _ hp => hp)
  have : (List.range ops.size).filterMap (fun i => ops[i]?) = ops.toList := by
    have := filterMap_range ops.toList
    simpa using this
  rw [this]
  exact h

theorem stepR_scope {b : Frame} {a : Act} {k : List Item} {cs : List Frame} {c : Code} :
    step P (lone (b.atR a (.code (.scope c) :: k)) cs w) = .next (lone (b.atR a (.code c :: .inScope c :: k)) cs w) :=
  step_lone_go (by simp [stepG, stepG.exec, Frame.atR])

theorem stepR_inScope {b : Frame} {a : Act} {k : List Item} {cs : List Frame} {c : Code} :
    step P (lone (b.atR a (.inScope c :: k)) cs w) = .next (lone (b.atR a k) cs w) :=
  step_lone_go (by simp [stepG, stepG.exec, Frame.atR])

def noGoto (Q : AX → St → Prop) : AX → St → Prop
  | .goto _, _ => False
  | x, s => Q x s

theorem W.scope {c : Code} {s : St} (h : W P G n rd c (noGoto Q) s) : W P G n rd (.scope c) Q s := by
  intro wb Γ a w rb hs hr b k cs hro hb hrm
  have h0 : (lone (b.atR a (.code (.scope c) :: k)) cs w).fenced P (fenceOf rb) := fenced_calm hb hrm rfl
  obtain ⟨e, a', w', hp, harr⟩ := h wb Γ a w rb hs hr b (.inScope c :: k) cs hro hb hrm
  obtain ⟨x, s', Γ', hx, hq, hrest⟩ := hp
  cases e with
  | normal =>
    cases x with
    | normal => exact ⟨.normal, a', w', ⟨.normal, s', Γ', hx, hq, hrest⟩, .head h0 stepR_scope (StepsIn.trans harr (.one (fenced_calm hb hrm rfl) stepR_inScope))⟩
    | _ => exact hx.elim
  | exit i =>
    cases x with
    | exit j =>
      have hk : exitTo i (.inScope c :: k) = exitTo i k := by simp [exitTo]
      exact ⟨.exit i, a', w', ⟨.exit j, s', Γ', hx, hq, hrest⟩, fun k' hk' => .head h0 stepR_scope (harr.1 k' (by rw [hk]; exact hk')),
        fun hr' hk' => let ⟨k₁, h1, h2⟩ := harr.2 hr' (by rw [hk]; exact hk'); ⟨k₁, h1, .head h0 stepR_scope h2⟩⟩
    | _ => exact hx.elim
  | goto i => cases x with
    | goto j => exact hq.elim
    | _ => exact hx.elim
  | ret => cases x with
    | ret => exact ⟨.ret, a', w', ⟨.ret, s', Γ', hx, hq, hrest⟩, .of_steps (.one h0 stepR_scope) harr⟩
    | _ => exact hx.elim
  | panic ch => cases x with
    | panic => exact ⟨.panic ch, a', w', ⟨.panic, s', Γ', hx, hq, hrest⟩, .of_steps (.one h0 stepR_scope) harr⟩
    | _ => exact hx.elim
  | outgrown => cases x <;> exact hx.elim

end

def Branch (t : Bool) (p q : Prop) (_d : TagP p q := .mk) : Prop := (t = true → p) ∧ (t = false → q)

def vc (P : Program) (G : Nat → Option (List AVal)) (n : Nat) (rd : Option Nat) : Code → (AX → St → Prop) → St → Prop
  | .skip, Q, s => Q .normal s
  | .label _, Q, s => Q .normal s
  | .region _ ops false, Q, s => opsV P G rd Q ops ops.toList s
  | .region id ops true, Q, s => W P G n rd (.region id ops true) Q s
  | .seq a b, Q, s => vc P G n rd a (thenA (vc P G n rd b Q) Q) s
  | .cond c a b, Q, s => wpo (match evA G s.ρ c with | .lit (.bool t) => some t | _ => none) fun t => Branch t (vc P G n rd a Q s) (vc P G n rd b Q s)
  | .block id c, Q, s => vc P G n rd c (blockA id Q) s
  | .loop c, Q, s => W P G n rd (.loop c) Q s
  | .rangeFunc f ps asg body, Q, s => W P G n rd (.rangeFunc f ps asg body) Q s
  | .exit id, Q, s => Q (.exit id) s
  | .scope c, Q, s => vc P G n rd c (noGoto Q) s
  | .goto l, Q, s => Q (.goto l) s
  | .ret, Q, s => Q .ret s
  | .refuse _, _, _ => False

def fits (n : Nat) : Code → Bool
  | .region _ ops _ => ops.toList.all (dstOk n)
  | .seq a b | .cond _ a b | .rangeFunc _ _ a b => fits n a && fits n b
  | .block _ c | .loop c | .scope c => fits n c
  | _ => true

theorem vc_sound {n : Nat} {rd : Option Nat} : ∀ (c : Code) (Q : AX → St → Prop) (s : St), fits n c = true → vc P G n rd c Q s → W P G n rd c Q s := by
  intro c
  induction c with
  | skip => exact fun Q s _ h => .skip h
  | label l => exact fun Q s _ h => .label h
  | region id ops d =>
    intro Q s hf h
    cases d with
    | false => exact .region hf h
    | true => exact h
  | seq a b iha ihb =>
    intro Q s hf h
    simp only [fits, Bool.and_eq_true] at hf
    refine W.seq ((iha _ s hf.1 h).mono fun x s' hx => ?_)
    cases x with
    | normal => exact ihb Q s' hf.2 hx
    | _ => exact hx
  | cond c a b iha ihb =>
    intro Q s hf h
    simp only [fits, Bool.and_eq_true] at hf
    obtain ⟨t, ht, h1, h2⟩ := h
    split at ht
    · rename_i t' hc
      simp only [Option.some.injEq] at ht
      subst ht
      refine W.cond hc ?_
      cases t' with
      | true => exact iha Q s hf.1 (h1 rfl)
      | false => exact ihb Q s hf.2 (h2 rfl)
    · cases ht
  | block id c ih => exact fun Q s hf h => .block (ih _ s hf h)
  | loop c _ => exact fun Q s _ h => h
  | rangeFunc => exact fun Q s _ h => h
  | exit id => exact fun Q s _ h => .exit h
  | scope c ih => exact fun Q s hf h => .scope (ih _ s hf h)
  | goto l => exact fun Q s _ h => .goto h
  | ret => exact fun Q s _ h => .ret h
  | refuse why => exact fun Q s _ h => h.elim

end Go.Hx
namespace Go.Hx
variable {P : Program} {G : Nat → Option (List AVal)} {Γ Γ' : Gam} {H H' : AHeap} {w w' : World}

theorem closed_cell {r : Nat} {x : Option (List Deferred)} (hr : w.heap[r]? = some (.deferred x)) (o : Obj) (ho : ∀ c e f, o ≠ .cells c e f) (b i : Nat) : (setBlk w r o).cell? ⟨b, i, none⟩ = w.cell? ⟨b, i, none⟩ := by
  simp only [World.cell?, heap_setBlk]
  by_cases h : b = r ∧ r < w.heap.size
  · rw [if_pos h, h.1, hr]
    cases o <;> first | rfl | exact absurd rfl (ho _ _ _)
  · rw [if_neg h]

theorem RelV.closed {v : AVal} {cv : Value} {r : Nat} {x : Option (List Deferred)} (hr : w.heap[r]? = some (.deferred x)) {o : Obj} (ho : ∀ c e f, o ≠ .cells c e f) (h : RelV P Γ H w v cv) : RelV P Γ H (setBlk w r o) v cv := by
  induction h with
  | lit v => exact .lit v
  | vec0 a cap => exact .vec0 a cap
  | vec hb hlt hlen hcs hcell hrel ih => exact .vec hb (by rw [size_setBlk]; exact hlt) hlen hcs (fun i hi => (closed_cell hr o ho _ _).trans (hcell i hi)) ih
  | own h => exact .own h
  | ptr h => exact .ptr h
  | vptr hb hlt hcs hcell hrel ih => exact .vptr hb (by rw [size_setBlk]; exact hlt) hcs (fun i hi => (closed_cell hr o ho _ _).trans (hcell i hi)) ih
  | agg hcs hrel ih => exact .agg hcs ih
  | tup hcs hrel ih => exact .tup hcs ih
  | clo hfs hcs hf hc ih1 ih2 => exact .clo hfs hcs ih1 ih2
  | yld h => exact .yld h

theorem RelH.closed (R : RelH P G Γ H w) {r : Nat} {x : Option (List Deferred)} (hr : w.heap[r]? = some (.deferred x)) (hown : ¬ Γ.owns r) {o : Obj} (ho : ∀ c e f, o ≠ .cells c e f) : RelH P G Γ H (setBlk w r o) where
  arr id g e cells hg := by
    have h1 := R.arr id g e cells hg
    cases hΓ : Γ id with
    | none => rw [hΓ] at h1; exact h1
    | some y =>
      obtain ⟨b, base, n⟩ := y
      rw [hΓ] at h1
      obtain ⟨c, a1, a2, a3, a4⟩ := h1
      refine ⟨c, ?_, a2, a3, fun i hi => let ⟨cv, b1, b2⟩ := a4 i hi; ⟨cv, b1, b2.closed hr ho⟩⟩
      rw [heap_setBlk, if_neg]
      · exact a1
      · rintro ⟨rfl, _⟩
        exact hown ⟨id, base, n, hΓ⟩
  loop id st pend n env ps asg body hg := by
    obtain ⟨b, rr, a1, a2, a3, a4, a5, a6, a7, a8, a9⟩ := R.loop id st pend n env ps asg body hg
    refine ⟨b, rr, a1, ?_, a3, a4, a5, a6, a7, a8, fun t ht => (a9 t ht).closed hr ho⟩
    rw [heap_setBlk, if_neg]
    · exact a2
    · rintro ⟨rfl, _⟩
      exact hown ⟨id, 0, 0, a1⟩
  mp id es hg := by
    obtain ⟨b, a1, a2⟩ := R.mp id es hg
    refine ⟨b, a1, ?_⟩
    rw [heap_setBlk, if_neg]
    · exact a2
    · rintro ⟨rfl, _⟩
      exact hown ⟨id, 0, 0, a1⟩
  rsv := R.rsv
  inj := R.inj
  dom := R.dom
  lt id b base n h := by rw [size_setBlk]; exact R.lt id b base n h
  next := R.next
  glob g cells h := (R.glob g cells h).closed hr ho
  gsz g cells h := by
    obtain ⟨c, e, f, h1, h2⟩ := R.gsz g cells h
    refine ⟨c, e, f, ?_, h2⟩
    rw [heap_setBlk, if_neg]
    · exact h1
    · rintro ⟨rfl, _⟩
      rw [hr] at h1
      cases h1

theorem Evo.closed {Γ₀ : Gam} {H₀ : AHeap} {w₀ : World} (E : Evo Γ₀ H₀ w₀ Γ H w) {r : Nat} {x : Option (List Deferred)} (hx : w.heap[r]? = some (.deferred x)) (hr : w₀.heap.size ≤ r) (o : Obj) (ho : ∀ c e f, o ≠ .cells c e f) : Evo Γ₀ H₀ w₀ Γ H (setBlk w r o) where
  os := E.os
  tape := E.tape
  output := E.output
  size := by rw [size_setBlk]; exact E.size
  keep b hb ho := by
    obtain ⟨h1, h2⟩ := E.keep b hb ho
    refine ⟨?_, h2⟩
    rw [heap_setBlk, if_neg (by omega)]
    exact h1
  live := E.live
  frz a ha := (frozen_setBlk hx (fun _ _ _ h => by cases h) (fun c e f h => absurd h (ho c e f)) a).trans (E.frz a ha)

theorem leaves_marks {fn : Func} {tmps : Array Value} {R : Ending → World → Prop} {u : FrameMode} {ρ : Env} {Γ₀ : Gam} {H₀ : AHeap} {w₀ : World} (hu : u ≠ .run) : ∀ (ds : List Deferred) (w : World),
    (∀ d, d ∈ ds → ∃ r, d = { target := .collected r, args := #[] } ∧ w₀.heap.size ≤ r ∧ DefBlk Γ w r) → ds.Pairwise (fun d e => d.target ≠ e.target) →
    RelH P G Γ H w → (∀ t, RelV P Γ H w (ρ t) (tmps.getD t undef)) → Evo Γ₀ H₀ w₀ Γ H w →
    (∀ w', RelH P G Γ H w' → (∀ t, RelV P Γ H w' (ρ t) (tmps.getD t undef)) → Evo Γ₀ H₀ w₀ Γ H w' → LeavesIn Fence.wide 0 P fn tmps R [] u w') →
    LeavesInM Fence.wide 0 P fn tmps R ds u w := by
  intro ds
  induction ds with
  | nil => intro w _ _ R0 he E h; exact h w R0 he E
  | cons d ds ih =>
    intro w hd hp R0 he E h
    obtain ⟨r, rfl, hle, hown, hblk⟩ := hd d (by simp)
    have ho : ∀ c e f, Obj.deferred none ≠ .cells c e f := fun _ _ _ h => by cases h
    refine ⟨hu, .inl ⟨r, setBlk w r (.deferred none), rfl, ?_, ?_⟩⟩
    · unfold Instr.takeDeferred
      have hg : (getObj r).run P w = .ok (.deferred (some [])) w := by simp [getObj, Sem.run, hblk]
      rw [run_bind_ok hg]
      simp only
      have hset : (setObj r (.deferred none)).run P w = .ok () (setBlk w r (.deferred none)) := by simp [setObj, Sem.run, hblk, setBlk]
      rw [run_bind_ok hset]
      rfl
    · refine ih _ (fun e he' => ?_) (List.pairwise_cons.1 hp).2 (R0.closed hblk hown ho) (fun t => (he t).closed hblk ho) (E.closed hblk hle _ ho) h
      obtain ⟨r', rfl, hle', hown', hblk'⟩ := hd e (by simp [he'])
      refine ⟨r', rfl, hle', hown', ?_⟩
      rw [heap_setBlk, if_neg]
      · exact hblk'
      · rintro ⟨rfl, _⟩
        exact (List.pairwise_cons.1 hp).1 _ he' rfl

theorem loadA_addr {t : TypeId} {a v : AVal} {ca : Value} (R : RelH P G Γ H w) (h : loadA P H t a = some v) (ha : RelV P Γ H w a ca) :
    ∃ ad cv, ca = .pointer (some ad) ∧ (loadVar t ad).run P w = .ok cv w ∧ RelV P Γ H w v cv := by
  have h0 := h
  unfold loadA at h
  split at h
  · rename_i id gen off
    split at h
    · rename_i g e cells hg
      split at h
      · rename_i hgg
        have hl : H.live id gen = some (e, cells) := by simp [AHeap.live, hg, hgg]
        obtain ⟨b, base, n, hΓ, rfl⟩ := ptr_live ha hl
        obtain ⟨cv, h1, h2⟩ := partA_load h (row_live R hl hΓ)
        exact ⟨_, cv, rfl, h1, h2⟩
      · cases h
    · cases h
  · rename_i cells off
    cases ha with
    | vptr hb hlt hcs hcell hrel =>
      obtain ⟨cv, h1, h2⟩ := partA_load h ⟨_, hcs, hcell, hrel⟩
      exact ⟨_, cv, rfl, h1, h2⟩
  · cases h

def resA (P : Program) (H : AHeap) (ρ : Env) : List ResultVar → Option (List AVal)
  | [] => some []
  | .tmp t :: r => (resA P H ρ r).map (ρ t :: ·)
  | .cell a t :: r => (loadA P H t (ρ a)).bind fun v => (resA P H ρ r).map (v :: ·)

def resV : List AVal → AVal
  | [v] => v
  | vs => .tup vs

def resM (tmps : Array Value) : ResultVar → Sem Value
  | .tmp t => pure (tmps.getD t undef)
  | .cell a t => do loadVar t (← asAddr (tmps.getD a undef))

theorem resA_sound {tmps : Array Value} {ρ : Env} (R : RelH P G Γ H w) (he : ∀ t, RelV P Γ H w (ρ t) (tmps.getD t undef)) : ∀ (rs : List ResultVar) (vs : List AVal), resA P H ρ rs = some vs →
    ∃ cs : List Value, (rs.mapM (resM tmps)).run P w = .ok cs w ∧ cs.length = vs.length ∧ ∀ i (_ : i < vs.length) (_ : i < cs.length), RelV P Γ H w vs[i] cs[i] := by
  intro rs
  induction rs with
  | nil =>
    intro vs h
    simp only [resA, Option.some.injEq] at h
    subst h
    exact ⟨[], rfl, rfl, fun i h _ => absurd h (Nat.not_lt_zero _)⟩
  | cons rv rs ih =>
    intro vs h
    have cons : ∀ (v : AVal) (cv : Value) (vs' : List AVal), (resM tmps rv).run P w = .ok cv w → RelV P Γ H w v cv → resA P H ρ rs = some vs' → ∃ cs : List Value, ((rv :: rs).mapM (resM tmps)).run P w = .ok cs w ∧
        cs.length = (v :: vs').length ∧ ∀ i (_ : i < (v :: vs').length) (_ : i < cs.length), RelV P Γ H w (v :: vs')[i] cs[i] := by
      intro v cv vs' hm hv hr
      obtain ⟨cs, h1, h2, h3⟩ := ih vs' hr
      refine ⟨cv :: cs, ?_, by simp [h2], fun i a b => ?_⟩
      · rw [List.mapM_cons, run_bind_ok hm, run_bind_ok h1]; rfl
      · cases i with
        | zero => exact hv
        | succ i => exact h3 i (by simpa using a) (by simpa using b)
    cases rv with
    | tmp t =>
      simp only [resA, Option.map_eq_some_iff] at h
      obtain ⟨vs', h1, rfl⟩ := h
      exact cons (ρ t) _ vs' rfl (he t) h1
    | cell a t =>
      simp only [resA, Option.bind_eq_some_iff, Option.map_eq_some_iff] at h
      obtain ⟨v, hv, vs', h1, rfl⟩ := h
      obtain ⟨ad, cv, ha, hl, hr⟩ := loadA_addr R hv (he a)
      refine cons v cv vs' ?_ hr h1
      simp only [resM, ha]
      have : (asAddr (.pointer (some ad))).run P w = .ok ad w := rfl
      rw [run_bind_ok this]
      exact hl

theorem results_eq (fn : Func) (tmps : Array Value) : results fn tmps = (do let vs ← fn.results.mapM (resM tmps); pure (if h : vs.size = 1 then vs[0] else .tuple vs)) := by
  unfold results
  congr 1

theorem results_sound {fn : Func} {tmps : Array Value} {ρ : Env} {vs : List AVal} (R : RelH P G Γ H w) (he : ∀ t, RelV P Γ H w (ρ t) (tmps.getD t undef)) (h : resA P H ρ fn.results.toList = some vs) :
    ∃ cv, (results fn tmps).run P w = .ok cv w ∧ RelV P Γ H w (resV vs) cv := by
  obtain ⟨cs, h1, h2, h3⟩ := resA_sound R he _ _ h
  have hm : (fn.results.mapM (resM tmps)).run P w = .ok cs.toArray w := by
    rw [Array.mapM_eq_mapM_toList, Sem.run_map, h1]
    rfl
  rw [results_eq, run_bind_ok hm]
  match vs, cs, h2, h3 with
  | [v], [c], _, h3 => exact ⟨c, rfl, h3 0 (by simp) (by simp)⟩
  | [], [], _, h3 => exact ⟨_, rfl, .tup (cs := []) rfl h3⟩
  | v :: v' :: vs, c :: c' :: cs, h2, h3 =>
    refine ⟨.tuple (c :: c' :: cs).toArray, ?_, .tup h2 h3⟩
    have hne : ¬ (c :: c' :: cs).toArray.size = 1 := by simp
    rw [dif_neg hne]
    rfl

def WeakV (P : Program) (G : Nat → Option (List AVal)) (H : AHeap) (v : AVal) (H' : AHeap) (v' : AVal) : Prop :=
  ∀ Γ w, RelH P G Γ H w → ∃ Γ', RelH P G Γ' H' w ∧ Evo Γ H w Γ' H' w ∧ ∀ cv, RelV P Γ H w v cv → RelV P Γ' H' w v' cv

def FinV (P : Program) (G : Nat → Option (List AVal)) (H₀ : AHeap) (K : ARes → AHeap → Prop) (v : AVal) (H : AHeap) : Prop :=
  ∃ v' H', WeakV P G H v H' v' ∧ H₀.next ≤ H'.next ∧ K (.ret v') H'

theorem WeakV.refl (H : AHeap) (v : AVal) : WeakV P G H v H v := fun Γ _ R => ⟨Γ, R, Evo.refl _ _ _, fun _ h => h⟩
theorem FinV.mk {H₀ : AHeap} {K : ARes → AHeap → Prop} {v : AVal} {H : AHeap} (hn : H₀.next ≤ H.next) (hk : K (.ret v) H) : FinV P G H₀ K v H := ⟨v, H, WeakV.refl H v, hn, hk⟩

def bodyQ (P : Program) (G : Nat → Option (List AVal)) (rs : List ResultVar) (H₀ : AHeap) (K : ARes → AHeap → Prop) : AX → St → Prop
  | .normal, s | .ret, s => wpo (resA P s.H s.ρ rs) fun vs => FinV P G H₀ K (resV vs) s.H
  | .panic, s => ∃ H', WeakV P G s.H (.lit undef) H' (.lit undef) ∧ H₀.next ≤ H'.next ∧ K .panic H'
  | _, _ => False

def envOf (args : List AVal) : Env := fun t => (args[t]?).getD (.lit undef)

theorem ACall.of_bodyW {f : FuncId} {fn : Func} {c : Code} {args : List AVal} {K : ARes → AHeap → Prop} {rs : List ResultVar} {n : Nat} (hf : P.funcs[f]? = some fn) (hb : fn.body = some c) (hres : fn.results.toList = rs) (hnt : fn.ntmps = n) (hname : (fn.name == "runtime.NumGoroutine") = false)
    (hargs : args.length ≤ n) (hW : W P G n none c (bodyQ P G rs H K) ⟨envOf args, H⟩) : ACall P G f args H K := by
  subst hres
  subst hnt
  refine ⟨⟨fn, hf, by rw [hb]; rfl, hname⟩, fun Γ w cargs R hr => ?_⟩
  refine callsIn_of_wp_marks hf hb trivial ?_
  have hs : RelS P G fn.ntmps ⟨w.heap.size, []⟩ Γ ⟨envOf args, H⟩ { tmps := cargs ++ Array.replicate (fn.ntmps - cargs.size) undef, defers := [] } w := by
    refine ⟨by have := hr.1; simp; omega, fun t => ?_, R, ⟨[], rfl, Marks.nil⟩, Nat.le_refl _⟩
    have hsz := hr.1
    by_cases ht : t < args.length
    · have h1 : (cargs ++ Array.replicate (fn.ntmps - cargs.size) undef).getD t undef = cargs[t]'(by omega) := by
        simp only [Array.getD_eq_getD_getElem?]
        rw [Array.getElem?_append_left (by omega), Array.getElem?_eq_getElem (by omega)]
        rfl
      have h2 : envOf args t = args[t] := by
        unfold envOf
        rw [List.getElem?_eq_getElem ht]
        rfl
      rw [h1]
      show RelV P Γ H w (envOf args t) _
      rw [h2]
      exact hr.2 t ht (by omega)
    · have h1 : (cargs ++ Array.replicate (fn.ntmps - cargs.size) undef).getD t undef = undef := by
        simp only [Array.getD_eq_getD_getElem?]
        rw [Array.getElem?_append_right (by omega), Array.getElem?_replicate]
        split <;> rfl
      have h2 : envOf args t = .lit undef := by
        unfold envOf
        rw [List.getElem?_eq_none (by omega)]
        rfl
      rw [h1]
      show RelV P Γ H w (envOf args t) _
      rw [h2]
      exact .lit _
  refine wpIn_mono (hW ⟨w.heap.size, []⟩ Γ _ w none hs rfl) ?_
  rintro e a' w' ⟨x, s', Γ', hx, hq, hs', E, hn, _, _⟩
  have leave : ∀ (u : FrameMode) (Q : World → Prop), u ≠ .run → (∀ w'', RelH P G Γ' s'.H w'' → (∀ t, RelV P Γ' s'.H w'' (s'.ρ t) (a'.tmps.getD t undef)) → Evo Γ H w Γ' s'.H w'' → LeavesIn Fence.wide 0 P fn a'.tmps (CPost P G Γ H w K) [] u w'') →
      LeavesInM Fence.wide 0 P fn a'.tmps (CPost P G Γ H w K) a'.defers u w' :=
    fun u _ hu hfin => by
      obtain ⟨m, hm, hmarks⟩ := hs'.defers
      rw [hm, List.append_nil]
      exact leaves_marks hu m w' hmarks.1 hmarks.2 hs'.heap hs'.env E hfin
  have normal : wpo (resA P s'.H s'.ρ fn.results.toList) (fun vs => FinV P G H K (resV vs) s'.H) → LeavesInM Fence.wide 0 P fn a'.tmps (CPost P G Γ H w K) a'.defers .returning w' := by
    rintro ⟨vs, hvs, v', H', hw, hn', hk⟩
    refine leave .returning (fun _ => True) (by simp) fun w'' R'' he'' E'' => ?_
    obtain ⟨cv, h1, h2⟩ := results_sound R'' he'' hvs
    obtain ⟨Γ'', R3, E3, hv3⟩ := hw Γ' w'' R''
    exact ⟨cv, h1, .ret v', H', Γ'', hv3 cv h2, hk, R3, E''.trans hn E3, hn'⟩
  cases e with
  | normal => cases x with
    | normal => exact normal hq
    | _ => exact hx.elim
  | ret => cases x with
    | ret => exact normal hq
    | _ => exact hx.elim
  | panic chain => cases x with
    | panic =>
      obtain ⟨H', hw, hn', hk⟩ := hq
      refine leave (.panicking chain) (fun _ => True) (by simp) fun w'' R'' he'' E'' => ?_
      obtain ⟨Γ'', R3, E3, _⟩ := hw Γ' w'' R''
      exact ⟨.panic, H', Γ'', hx, hk, R3, E''.trans hn E3, hn'⟩
    | _ => exact hx.elim
  | exit i => cases x with
    | exit j => exact hq.elim
    | _ => exact hx.elim
  | goto i => cases x with
    | goto j => exact hq.elim
    | _ => exact hx.elim
  | outgrown => cases x <;> exact hx.elim

theorem ACall.of_body {f : FuncId} {fn : Func} {c : Code} {args : List AVal} {K : ARes → AHeap → Prop} {rs : List ResultVar} {n : Nat} (hf : P.funcs[f]? = some fn) (hb : fn.body = some c) (hres : fn.results.toList = rs) (hnt : fn.ntmps = n) (hname : (fn.name == "runtime.NumGoroutine") = false)
    (hfit : fits n c = true) (hargs : args.length ≤ n) (h : vc P G n none c (bodyQ P G rs H K) ⟨envOf args, H⟩) : ACall P G f args H K :=
  .of_bodyW hf hb hres hnt hname hargs (vc_sound c _ _ hfit h)

end Go.Hx
namespace Go.Hx
variable {P : Program} {G : Nat → Option (List AVal)} {Γ Γ' : Gam} {H H' : AHeap} {w w' : World}

def idsV : AVal → List Nat
  | .own id _ _ _ _ => [id]
  | .ptr id _ _ => [id]
  | _ => []

def idsM : AVal → List Nat
  | .yld id => [id]
  | _ => []

structure FP where
  eff : List Nat
  rs : List Nat

def isOwn : AVal → Bool
  | .own .. => true
  | _ => false

def lenIds (P : Program) (t : TypeId) (x : AVal) : List Nat := match P.underlying t with
  | some (.slice _) => idsV x
  | _ => []

def fpB (P : Program) (id : Nat) (b : Builtin) (ats : List TypeId) (args : List AVal) : FP :=
  match b, ats, args with
  | .append, _, [s, x] => if isOwn s then ⟨idsV s, idsV s ++ idsV x⟩ else ⟨[id], idsV x⟩
  | .copy, _, [d, x] => ⟨idsV d, idsV d ++ idsV x⟩
  | .clear, _, [d] => ⟨idsV d, idsV d⟩
  | .len, [t], [x] => ⟨[], lenIds P t x⟩
  | _, _, _ => ⟨[], []⟩

def fpO (P : Program) (G : Nat → Option (List AVal)) (ρ : Env) (id : Nat) : Op → FP
  | .load _ a => ⟨[], idsV (evA G ρ a)⟩
  | .nilCheck a => ⟨[], idsV (evA G ρ a)⟩
  | .slice _ a _ _ _ => ⟨[], idsV (evA G ρ a)⟩
  | .fieldAddr _ a _ => ⟨[], idsV (evA G ρ a)⟩
  | .indexAddr _ a _ => ⟨[], idsV (evA G ρ a)⟩
  | .convert _ _ a => ⟨[], idsV (evA G ρ a)⟩
  | .store _ a _ => ⟨idsV (evA G ρ a), idsV (evA G ρ a)⟩
  | .alloc _ => ⟨[id], []⟩
  | .box _ _ => ⟨[id], []⟩
  | .buildSlice _ _ _ => ⟨[id], []⟩
  | .makeSlice _ _ _ => ⟨[id], []⟩
  | .makeMap _ _ => ⟨[id], []⟩
  | .lookup _ x _ _ => ⟨[], idsM (evA G ρ x)⟩
  | .mapUpdate _ m _ _ | .insert _ m _ _ | .mapEntry _ m _ | .entryStore _ m _ _ => ⟨idsM (evA G ρ m), idsM (evA G ρ m)⟩
  | .call c => match c.callee with
    | .builtin b => fpB P id b c.argTypes.toList (c.args.toList.map (evA G ρ))
    | _ => ⟨[], []⟩
  | _ => ⟨[], []⟩

def effGet (e : Option (Nat × Blk)) (g : Nat → Option Blk) : Nat → Option Blk :=
  match e with
  | none => g
  | some (k, b) => fun j => if j = k then some b else g j

def WFH (H : AHeap) : Prop := ∀ id b, H.get id = some b → id < H.next

theorem live_lt (wf : WFH H) {id gen : Nat} {ec : TypeId × List AVal} (h : H.live id gen = some ec) : id < H.next := wf id _ (live_some (e := ec.1) (cells := ec.2) h)

theorem live_eq {H2 : AHeap} {id : Nat} (h : H2.get id = H.get id) (gen : Nat) : H2.live id gen = H.live id gen := by unfold AHeap.live; rw [h]

def Local (P : Program) (G : Nat → Option (List AVal)) (ρ : Env) (H : AHeap) (o : Op) (v : AVal) (H' : AHeap) (f : FP) : Prop :=
  ∃ (e : Option (Nat × Blk)) (al : Bool), H'.get = effGet e H.get ∧ H'.next = (if al then H.next + 1 else H.next) ∧
    (∀ k b, e = some (k, b) → k ∈ f.eff ∧ (al = false → k ∈ f.rs)) ∧ (al = true → ∃ b, e = some (H.next, b)) ∧ (∀ r, r ∈ f.rs → r < H.next) ∧
    ∀ H2 : AHeap, (∀ r, r ∈ f.rs → H2.get r = H.get r) → (al = true → H2.get H.next = some .rsv ∧ H.next ≠ H2.next) → opA P G ρ H2 H.next o = some (v, ⟨effGet e H2.get, H2.next⟩)

theorem local_same {ρ : Env} {o : Op} {v : AVal} {f : FP} (hrs : ∀ r, r ∈ f.rs → r < H.next) (h : ∀ H2 : AHeap, (∀ r, r ∈ f.rs → H2.get r = H.get r) → opA P G ρ H2 H.next o = some (v, H2)) : Local P G ρ H o v H f := by
  refine ⟨none, false, rfl, rfl, ?_, ?_, hrs, fun H2 ha _ => h H2 ha⟩
  · intro k b h; cases h
  · intro h; cases h

theorem local_lay {ρ : Env} {o : Op} {v : AVal} {f : FP} {b : Blk} (hl : H.lay H.next b = some H') (hta : H.next ∈ f.eff) (hrs : ∀ r, r ∈ f.rs → r < H.next)
    (h : ∀ H2 : AHeap, (∀ r, r ∈ f.rs → H2.get r = H.get r) → ∀ H2', H2.lay H.next b = some H2' → opA P G ρ H2 H.next o = some (v, H2')) : Local P G ρ H o v H' f := by
  obtain ⟨h1, h2⟩ := lay_some hl
  have h2' : H'.next = H.next + 1 := by
    unfold AHeap.lay at hl
    rw [if_pos rfl] at hl
    simp only [Option.some.injEq] at hl
    rw [← hl]
  refine ⟨some (H.next, b), true, funext h1, by simp [h2'], ?_, ?_, hrs, fun H2 ha hr => ?_⟩
  · intro k b' hk
    simp only [Option.some.injEq, Prod.mk.injEq] at hk
    exact ⟨hk.1 ▸ hta, fun h => by cases h⟩
  · exact fun _ => ⟨b, rfl⟩
  · obtain ⟨hr1, hr2⟩ := hr rfl
    refine h H2 ha _ ?_
    unfold AHeap.lay
    rw [if_neg hr2, hr1]
    rfl

theorem local_upd {ρ : Env} {o : Op} {v : AVal} {f : FP} {id : Nat} {b : Blk} (hid : id ∈ f.eff) (hid' : id ∈ f.rs) (hrs : ∀ r, r ∈ f.rs → r < H.next)
    (h : ∀ H2 : AHeap, (∀ r, r ∈ f.rs → H2.get r = H.get r) → opA P G ρ H2 H.next o = some (v, H2.upd id b)) : Local P G ρ H o v (H.upd id b) f := by
  refine ⟨some (id, b), false, rfl, rfl, ?_, ?_, hrs, fun H2 ha _ => h H2 ha⟩
  · intro k b' hk
    simp only [Option.some.injEq, Prod.mk.injEq] at hk
    exact ⟨hk.1 ▸ hid, fun _ => hk.1 ▸ hid'⟩
  · intro h; cases h

theorem nil_lt {n : Nat} : ∀ r, r ∈ ([] : List Nat) → r < n := fun _ h => by cases h
theorem one_lt {n id : Nat} (h : id < n) : ∀ r, r ∈ [id] → r < n := fun r hr => by
  simp only [List.mem_singleton] at hr
  omega

theorem loadA_eq {H2 : AHeap} {t : TypeId} {a : AVal} (h : ∀ r, r ∈ idsV a → H2.get r = H.get r) : loadA P H2 t a = loadA P H t a := by
  cases a with
  | ptr id gen off => simp only [loadA]; rw [h id (by simp [idsV])]
  | _ => rfl

theorem loadA_lt (wf : WFH H) {t : TypeId} {a v : AVal} (h : loadA P H t a = some v) : ∀ r, r ∈ idsV a → r < H.next := by
  cases a with
  | ptr id gen off =>
    refine one_lt ?_
    simp only [loadA] at h
    split at h
    · rename_i hg; exact wf _ _ hg
    · cases h
  | own => simp [loadA] at h
  | _ => exact nil_lt

theorem storeA_form {t : TypeId} {a v : AVal} (h : storeA P H t a v = some H') : ∃ id gen off g e cells, a = .ptr id gen off ∧ H.get id = some (.arr g e cells) ∧ ∃ cells', H' = H.upd id (.arr g e cells') ∧
    ∀ H2 : AHeap, H2.get id = H.get id → storeA P H2 t a v = some (H2.upd id (.arr g e cells')) := by
  cases a with
  | ptr id gen off =>
    simp only [storeA] at h
    split at h
    · rename_i g e cells hg
      split at h
      · rename_i hc
        simp only [Option.some.injEq] at h
        refine ⟨id, gen, off, g, e, cells, rfl, hg, _, h.symm, fun H2 h2 => ?_⟩
        simp only [storeA]
        rw [h2, hg]
        simp only
        rw [if_pos hc]
      · cases h
    · cases h
  | _ => simp [storeA] at h

theorem indexAddrA_loc (wf : WFH H) {t : TypeId} {x v : AVal} {i : Int} (h : indexAddrA P H t x i = some v) : (∀ r, r ∈ idsV x → r < H.next) ∧ ∀ H2 : AHeap, (∀ r, r ∈ idsV x → H2.get r = H.get r) → indexAddrA P H2 t x i = some v := by
  unfold indexAddrA at h ⊢
  split at h
  · split at h
    · rename_i hc
      split at h
      · rename_i id gen off
        simp only [Option.map_eq_some_iff] at h
        obtain ⟨ec, hl, hv⟩ := h
        refine ⟨one_lt (live_lt wf hl), fun H2 h2 => ?_⟩
        rw [if_pos hc]
        simp only [live_eq (h2 id (by simp [idsV])), hl, Option.map_some, hv]
      · refine ⟨nil_lt, fun H2 _ => ?_⟩
        rw [if_pos hc]
        exact h
      · cases h
    · cases h
  · split at h
    · rename_i hc
      split at h
      · rename_i id gen off len sz
        split at h
        · rename_i hi
          simp only [Option.map_eq_some_iff] at h
          obtain ⟨ec, hl, hv⟩ := h
          refine ⟨one_lt (live_lt wf hl), fun H2 h2 => ?_⟩
          rw [if_pos hc, if_pos hi]
          simp only [live_eq (h2 id (by simp [idsV])), hl, Option.map_some, hv]
        · cases h
      · refine ⟨nil_lt, fun H2 _ => ?_⟩
        rw [if_pos hc]
        exact h
      · cases h
    · cases h
  · cases h

theorem sliceA_loc (wf : WFH H) {t : TypeId} {x v : AVal} {lo hi : Option AVal} (h : sliceA P H t x lo hi = some v) : (∀ r, r ∈ idsV x → r < H.next) ∧ ∀ H2 : AHeap, (∀ r, r ∈ idsV x → H2.get r = H.get r) → sliceA P H2 t x lo hi = some v := by
  unfold sliceA at h ⊢
  split at h
  · split at h
    · rename_i hc
      split at h
      · rename_i id gen off
        split at h
        · rename_i e' cells hl
          refine ⟨one_lt (live_lt wf hl), fun H2 h2 => ?_⟩
          rw [if_pos hc]
          simp only [live_eq (h2 id (by simp [idsV])), hl]
          exact h
        · cases h
      · refine ⟨nil_lt, fun H2 _ => ?_⟩
        rw [if_pos hc]
        exact h
      · cases h
    · cases h
  · split at h
    · rename_i hc
      split at h
      · rename_i id gen off len sz
        split at h
        · rename_i hi
          have h0 := h
          simp only [Option.bind_eq_some_iff] at h
          obtain ⟨ec, hl, _⟩ := h
          refine ⟨one_lt (live_lt wf hl), fun H2 h2 => ?_⟩
          rw [if_pos hc, if_pos hi, live_eq (h2 id (by simp [idsV]))]
          exact h0
        · cases h
      · refine ⟨nil_lt, fun H2 _ => ?_⟩
        rw [if_pos hc]
        exact h
      · refine ⟨nil_lt, fun H2 _ => ?_⟩
        rw [if_pos hc]
        exact h
      · cases h
    · cases h
  · split at h
    · exact ⟨nil_lt, fun H2 _ => h⟩
    · cases h
  · cases h

theorem lenA_loc (wf : WFH H) {t : TypeId} {x v : AVal} (h : lenA P H t x = some v) : (∀ r, r ∈ lenIds P t x → r < H.next) ∧ ∀ H2 : AHeap, (∀ r, r ∈ lenIds P t x → H2.get r = H.get r) → lenA P H2 t x = some v := by
  unfold lenA lenIds at *
  cases hu : P.underlying t with
  | none => rw [hu] at h; cases h
  | some d =>
    rw [hu] at h
    cases d with
    | slice e =>
      simp only at h ⊢
      split at h
      · exact ⟨nil_lt, fun _ _ => h⟩
      · rename_i id gen off len sz
        simp only [Option.map_eq_some_iff] at h
        obtain ⟨ec, hl, hv⟩ := h
        refine ⟨one_lt (live_lt wf hl), fun H2 h2 => ?_⟩
        simp only [live_eq (h2 id (by simp [idsV])), hl, Option.map_some, hv]
      · exact ⟨nil_lt, fun _ _ => h⟩
      · cases h
    | string => exact ⟨nil_lt, fun _ _ => h⟩
    | array n e => exact ⟨nil_lt, fun _ _ => h⟩
    | _ => cases h

theorem sourceA_loc (wf : WFH H) {sz : Nat} {x : AVal} {r : Nat × List AVal} (h : sourceA H sz x = some r) : (∀ r, r ∈ idsV x → r < H.next) ∧ ∀ H2 : AHeap, (∀ r, r ∈ idsV x → H2.get r = H.get r) → sourceA H2 sz x = some r := by
  unfold sourceA at h ⊢
  split at h
  · exact ⟨nil_lt, fun _ _ => h⟩
  · rename_i id gen off len sz'
    split at h
    · rename_i hsz
      simp only [Option.map_eq_some_iff] at h
      obtain ⟨ec, hl, hv⟩ := h
      refine ⟨one_lt (live_lt wf hl), fun H2 h2 => ?_⟩
      rw [if_pos hsz]
      simp only [live_eq (h2 id (by simp [idsV])), hl, Option.map_some, hv]
    · cases h
  · exact ⟨nil_lt, fun _ _ => h⟩
  · cases h

theorem mem_app {a b : List Nat} {p : Nat → Prop} (h1 : ∀ r, r ∈ a → p r) (h2 : ∀ r, r ∈ b → p r) : ∀ r, r ∈ a ++ b → p r := fun r hr => (List.mem_append.1 hr).elim (h1 r) (h2 r)

theorem appendA_local (wf : WFH H) {ρ : Env} {c : Call} {t u : TypeId} {s x v : AVal} (hb : c.callee = .builtin .append) (hats : c.argTypes.toList = [t, u]) (hargs : c.args.toList.map (evA G ρ) = [s, x])
    (h : appendA P H H.next t u s x = some (v, H')) : Local P G ρ H (.call c) v H' (fpO P G ρ H.next (.call c)) := by
  have hfp : fpO P G ρ H.next (.call c) = if isOwn s then ⟨idsV s, idsV s ++ idsV x⟩ else ⟨[H.next], idsV x⟩ := by
    simp only [fpO, hb, hats, hargs, fpB]
  have hop : ∀ H2 : AHeap, opA P G ρ H2 H.next (.call c) = appendA P H2 H.next t u s x := fun H2 => by
    simp only [opA, hb, hats, hargs, builtinA]
  rw [hfp]
  unfold appendA at h
  split at h
  · rename_i e he
    split at h
    · rename_i e' he'
      simp only [Option.bind_eq_some_iff] at h
      obtain ⟨z, hz, nx, hsrc, h⟩ := h
      obtain ⟨hxlt, hxl⟩ := sourceA_loc wf hsrc
      split at h
      · simp only [isOwn, Bool.false_eq_true, if_false]
        split at h
        · rename_i hn0
          simp only [Option.some.injEq, Prod.mk.injEq] at h
          obtain ⟨rfl, rfl⟩ := h
          refine local_same hxlt fun H2 h2 => ?_
          rw [hop]
          simp only [appendA, he, he', hz, hxl H2 h2, Option.bind_some, if_pos hn0]
        · rename_i hn0
          split at h
          · rename_i hb
            simp only [Option.map_eq_some_iff, Prod.mk.injEq] at h
            obtain ⟨H3, hl, rfl, rfl⟩ := h
            refine local_lay hl (by simp) hxlt fun H2 h2 H2' hl2 => ?_
            rw [hop]
            simp only [appendA, he, he', hz, hxl H2 h2, Option.bind_some, if_neg hn0, if_pos hb, hl2, Option.map_some]
          · cases h
      · rename_i id' gen off len sz
        simp only [isOwn, if_true]
        simp only [Option.bind_eq_some_iff] at h
        obtain ⟨ec, hl, h⟩ := h
        have hlt : ∀ r, r ∈ idsV (.own id' gen off len sz) ++ idsV x → r < H.next := mem_app (one_lt (live_lt wf hl)) hxlt
        have hl2 : ∀ H2 : AHeap, (∀ r, r ∈ idsV (.own id' gen off len sz) ++ idsV x → H2.get r = H.get r) → H2.live id' gen = some ec := fun H2 h2 => by
          rw [live_eq (h2 id' (by simp [idsV]))]; exact hl
        have hx2 : ∀ H2 : AHeap, (∀ r, r ∈ idsV (.own id' gen off len sz) ++ idsV x → H2.get r = H.get r) → sourceA H2 (P.cellsOf e) x = some nx := fun H2 h2 =>
          hxl H2 fun r hr => h2 r (List.mem_append_right _ hr)
        split at h
        · rename_i hc
          split at h
          · rename_i hn0
            simp only [Option.some.injEq, Prod.mk.injEq] at h
            obtain ⟨rfl, rfl⟩ := h
            refine local_same hlt fun H2 h2 => ?_
            rw [hop]
            simp only [appendA, he, he', hz, hx2 H2 h2, hl2 H2 h2, Option.bind_some]
            rw [if_pos hc, if_pos hn0]
          · rename_i hn0
            simp only [Option.some.injEq, Prod.mk.injEq] at h
            obtain ⟨rfl, rfl⟩ := h
            refine local_upd (by simp [idsV]) (by simp [idsV]) hlt fun H2 h2 => ?_
            rw [hop]
            simp only [appendA, he, he', hz, hx2 H2 h2, hl2 H2 h2, Option.bind_some]
            rw [if_pos hc, if_neg hn0]
        · cases h
      · cases h
    · cases h
  · cases h

theorem copyA_local (wf : WFH H) {ρ : Env} {c : Call} {t u : TypeId} {s x v : AVal} (hb : c.callee = .builtin .copy) (hats : c.argTypes.toList = [t, u]) (hargs : c.args.toList.map (evA G ρ) = [s, x])
    (h : copyA P H t s x = some (v, H')) : Local P G ρ H (.call c) v H' (fpO P G ρ H.next (.call c)) := by
  have hfp : fpO P G ρ H.next (.call c) = ⟨idsV s, idsV s ++ idsV x⟩ := by
    simp only [fpO, hb, hats, hargs, fpB]
  have hop : ∀ H2 : AHeap, opA P G ρ H2 H.next (.call c) = copyA P H2 t s x := fun H2 => by
    simp only [opA, hb, hats, hargs, builtinA]
  rw [hfp]
  unfold copyA at h
  split at h
  · rename_i e he
    split at h
    · rename_i hs
      simp only [Option.bind_eq_some_iff] at h
      obtain ⟨nx, hsrc, h⟩ := h
      obtain ⟨hxlt, hxl⟩ := sourceA_loc wf hsrc
      split at h
      · rename_i id' gen off len sz
        simp only [Option.bind_eq_some_iff] at h
        obtain ⟨ec, hl, h⟩ := h
        have hlt : ∀ r, r ∈ idsV (.own id' gen off len sz) ++ idsV x → r < H.next := mem_app (one_lt (live_lt wf hl)) hxlt
        split at h
        · rename_i hc
          simp only [Option.some.injEq, Prod.mk.injEq] at h
          obtain ⟨rfl, rfl⟩ := h
          refine local_upd (by simp [idsV]) (by simp [idsV]) hlt fun H2 h2 => ?_
          have hl2 : H2.live id' gen = some ec := by
            rw [live_eq (h2 id' (by simp [idsV]))]; exact hl
          rw [hop]
          simp only [copyA, he, hs, if_true, hxl H2 fun r hr => h2 r (List.mem_append_right _ hr), hl2, Option.bind_some]
          rw [if_pos hc]
        · cases h
      · cases h
    · cases h
  · cases h

theorem clearA_local (wf : WFH H) {ρ : Env} {c : Call} {t : TypeId} {s v : AVal} (hb : c.callee = .builtin .clear) (hats : c.argTypes.toList = [t]) (hargs : c.args.toList.map (evA G ρ) = [s])
    (h : clearA P H t s = some (v, H')) : Local P G ρ H (.call c) v H' (fpO P G ρ H.next (.call c)) := by
  have hfp : fpO P G ρ H.next (.call c) = ⟨idsV s, idsV s⟩ := by
    simp only [fpO, hb, hats, hargs, fpB]
  have hop : ∀ H2 : AHeap, opA P G ρ H2 H.next (.call c) = clearA P H2 t s := fun H2 => by
    simp only [opA, hb, hats, hargs, builtinA]
  rw [hfp]
  unfold clearA at h
  split at h
  · rename_i e he
    split at h
    · simp only [Option.some.injEq, Prod.mk.injEq] at h
      obtain ⟨rfl, rfl⟩ := h
      refine local_same (fun r hr => by cases hr) fun H2 h2 => ?_
      rw [hop]
      simp only [clearA, he]
    · rename_i id' gen off len sz
      simp only [Option.bind_eq_some_iff] at h
      obtain ⟨ec, hl, h⟩ := h
      have hlt : ∀ r, r ∈ idsV (.own id' gen off len sz) → r < H.next := one_lt (live_lt wf hl)
      have hl2 : ∀ H2 : AHeap, (∀ r, r ∈ idsV (.own id' gen off len sz) → H2.get r = H.get r) → H2.live id' gen = some ec := fun H2 h2 => by
        rw [live_eq (h2 id' (by simp [idsV]))]; exact hl
      split at h
      · rename_i h0
        simp only [Option.some.injEq, Prod.mk.injEq] at h
        obtain ⟨rfl, rfl⟩ := h
        refine local_same hlt fun H2 h2 => ?_
        rw [hop]
        simp only [clearA, he, hl2 H2 h2, Option.bind_some]
        rw [if_pos h0]
      · rename_i h0
        simp only [Option.bind_eq_some_iff] at h
        obtain ⟨z, hz, h⟩ := h
        split at h
        · rename_i hc
          simp only [Option.some.injEq, Prod.mk.injEq] at h
          obtain ⟨rfl, rfl⟩ := h
          refine local_upd (by simp [idsV]) (by simp [idsV]) hlt fun H2 h2 => ?_
          rw [hop]
          simp only [clearA, he, hl2 H2 h2, hz, Option.bind_some]
          rw [if_neg h0, if_pos hc]
        · cases h
    · cases h
  · cases h

theorem mapUpd_local (wf : WFH H) {ρ : Env} {o : Op} {t : TypeId} {m k x : Operand} {v : AVal} (h : mapUpdA P H t (evA G ρ m) (evA G ρ k) (evA G ρ x) = some (v, H')) (hfp : fpO P G ρ H.next o = ⟨idsM (evA G ρ m), idsM (evA G ρ m)⟩)
    (hop : ∀ H2 : AHeap, opA P G ρ H2 H.next o = mapUpdA P H2 t (evA G ρ m) (evA G ρ k) (evA G ρ x)) : Local P G ρ H o v H' (fpO P G ρ H.next o) := by
  rw [hfp]
  unfold mapUpdA at h
  split at h
  · rename_i hm
    split at h
    · rename_i id k' u hx hk hu
      split at h
      · rename_i es hg
        simp only [Option.some.injEq, Prod.mk.injEq] at h
        obtain ⟨rfl, rfl⟩ := h
        refine local_upd (by rw [hx]; simp [idsM]) (by rw [hx]; simp [idsM]) (by rw [hx]; exact one_lt (wf _ _ hg)) fun H2 h2 => ?_
        have hg2 : H2.get id = some (.mp es) := by rw [h2 id (by rw [hx]; simp [idsM])]; exact hg
        rw [hop]
        simp only [mapUpdA, hm, if_true, hx, hk, hu, hg2]
      · cases h
    · cases h
  · cases h

theorem convH_loc (wf : WFH H) {s d : TypeId} {x v : AVal} (h : convH P H s d x = some v) : (∀ r, r ∈ idsV x → r < H.next) ∧ ∀ H2 : AHeap, (∀ r, r ∈ idsV x → H2.get r = H.get r) → convH P H2 s d x = some v := by
  have bytes : ∀ y : AVal, convB P H s d y = some v → (∀ r, r ∈ idsV y → r < H.next) ∧ ∀ H2 : AHeap, (∀ r, r ∈ idsV y → H2.get r = H.get r) → convB P H2 s d y = some v := by
    intro y h
    unfold convB at h
    split at h
    · rename_i hsb
      simp only [Option.bind_eq_some_iff] at h
      obtain ⟨nl, hs, h⟩ := h
      obtain ⟨h1, h2⟩ := sourceA_loc wf hs
      refine ⟨h1, fun H2 ha => ?_⟩
      unfold convB
      rw [if_pos hsb, h2 H2 ha]
      exact h
    · cases h
  unfold convH at h
  split at h
  · exact bytes _ h
  · exact bytes _ h
  · rename_i hne1 hne2
    refine ⟨fun r hr => ?_, fun H2 _ => ?_⟩
    · unfold convA at h
      split at h
      · rename_i a ha
        cases x <;> simp_all [idsV, AVal.toVal]
      · cases h
    · unfold convH
      split
      · exact absurd rfl (hne1 _ _ _ _ _)
      · exact absurd rfl (hne2 _ _)
      · exact h
theorem opA_local (wf : WFH H) {ρ : Env} {o : Op} {v : AVal} (h : opA P G ρ H H.next o = some (v, H')) : Local P G ρ H o v H' (fpO P G ρ H.next o) := by
  cases o with
  | makeMap t r =>
    simp only [opA] at h
    split at h
    · simp only [Option.map_eq_some_iff, Prod.mk.injEq] at h
      obtain ⟨H3, hl, rfl, rfl⟩ := h
      refine local_lay hl (by simp [fpO]) nil_lt fun H2 _ H2' hl2 => ?_
      simp only [opA, hl2, Option.map_some]
    · cases h
  | lookup t x i ok =>
    simp only [opA, Option.map_eq_some_iff, Prod.mk.injEq] at h
    obtain ⟨v', hv, rfl, rfl⟩ := h
    have hfp : fpO P G ρ H.next (.lookup t x i ok) = ⟨[], idsM (evA G ρ x)⟩ := rfl
    rw [hfp]
    unfold lookupA at hv
    split at hv
    · rename_i hm
      split at hv
      · rename_i hx hi
        refine local_same (by rw [hx]; exact nil_lt) fun H2 _ => ?_
        simp only [opA, lookupA, hm, if_true, hx, hi]
        simp only [Option.some.injEq] at hv
        simp [hv]
      · rename_i id k hx hi
        split at hv
        · rename_i es hg
          refine local_same (by rw [hx]; exact one_lt (wf _ _ hg)) fun H2 h2 => ?_
          have hg2 : H2.get id = some (.mp es) := by rw [h2 id (by rw [hx]; simp [idsM])]; exact hg
          simp only [opA, lookupA, hm, if_true, hx, hi, hg2]
          simp only [Option.some.injEq] at hv
          simp [hv]
        · cases hv
      · cases hv
    · cases hv
  | mapUpdate t m k x => exact mapUpd_local wf (by simp only [opA] at h; exact h) (by rfl) fun H2 => rfl
  | insert t m k x => exact mapUpd_local wf (by simp only [opA] at h; exact h) (by rfl) fun H2 => rfl
  | mapEntry t m k =>
    simp only [opA] at h
    have hfp : fpO P G ρ H.next (.mapEntry t m k) = ⟨idsM (evA G ρ m), idsM (evA G ρ m)⟩ := rfl
    rw [hfp]
    unfold mapEntA at h
    split at h
    · rename_i hm
      split at h
      · rename_i id k' hx hk
        split at h
        · rename_i es hg
          have hg2 : ∀ H2 : AHeap, (∀ r, r ∈ idsM (evA G ρ m) → H2.get r = H.get r) → H2.get id = some (.mp es) := fun H2 h2 => by rw [h2 id (by rw [hx]; simp [idsM])]; exact hg
          split at h
          · rename_i n u hf
            simp only [Option.some.injEq, Prod.mk.injEq] at h
            obtain ⟨rfl, rfl⟩ := h
            refine local_upd (by rw [hx]; simp [idsM]) (by rw [hx]; simp [idsM]) (by rw [hx]; exact one_lt (wf _ _ hg)) fun H2 h2 => ?_
            simp only [opA, mapEntA, hm, if_true, hx, hk, hg2 H2 h2, hf]
          · rename_i hf
            simp only [Option.some.injEq, Prod.mk.injEq] at h
            obtain ⟨rfl, rfl⟩ := h
            refine local_upd (by rw [hx]; simp [idsM]) (by rw [hx]; simp [idsM]) (by rw [hx]; exact one_lt (wf _ _ hg)) fun H2 h2 => ?_
            simp only [opA, mapEntA, hm, if_true, hx, hk, hg2 H2 h2, hf]
        · cases h
      · cases h
    · cases h
  | entryStore t m s x =>
    simp only [opA] at h
    have hfp : fpO P G ρ H.next (.entryStore t m s x) = ⟨idsM (evA G ρ m), idsM (evA G ρ m)⟩ := rfl
    rw [hfp]
    unfold entStoA at h
    split at h
    · rename_i id s' u hx hs hu
      split at h
      · rename_i es hg
        split at h
        · rename_i hlt
          simp only [Option.some.injEq, Prod.mk.injEq] at h
          obtain ⟨rfl, rfl⟩ := h
          refine local_upd (by rw [hx]; simp [idsM]) (by rw [hx]; simp [idsM]) (by rw [hx]; exact one_lt (wf _ _ hg)) fun H2 h2 => ?_
          have hg2 : H2.get id = some (.mp es) := by rw [h2 id (by rw [hx]; simp [idsM])]; exact hg
          simp only [opA, entStoA, hx, hs, hu, hg2]
          rw [if_pos hlt]
        · cases h
      · cases h
    · cases h
  | alloc e =>
    simp only [opA, Option.bind_eq_some_iff, Option.map_eq_some_iff, Prod.mk.injEq] at h
    obtain ⟨z, hz, H3, hl, rfl, rfl⟩ := h
    refine local_lay hl (by simp [fpO]) nil_lt fun H2 _ H2' hl2 => ?_
    simp only [opA, hz, hl2, Option.bind_some, Option.map_some]
  | box e x =>
    simp only [opA, Option.map_eq_some_iff, Prod.mk.injEq] at h
    obtain ⟨H3, hl, rfl, rfl⟩ := h
    refine local_lay hl (by simp [fpO]) nil_lt fun H2 _ H2' hl2 => ?_
    simp only [opA, hl2, Option.map_some]
  | buildSlice t len parts =>
    simp only [opA, buildSliceA] at h
    split at h
    · rename_i e he
      split at h
      · rename_i hc
        simp only [Option.bind_eq_some_iff, Option.map_eq_some_iff, Prod.mk.injEq] at h
        obtain ⟨z, hz, cells, hcl, H3, hl, rfl, rfl⟩ := h
        refine local_lay hl (by simp [fpO]) nil_lt fun H2 _ H2' hl2 => ?_
        simp only [opA, buildSliceA, he]
        rw [if_pos hc]
        simp only [hz, hcl, hl2, Option.bind_some, Option.map_some]
      · cases h
    · cases h
  | makeSlice t l c =>
    simp only [opA, makeSliceA] at h
    split at h
    · rename_i e k l' k' c' he hl' hc'
      split at h
      · rename_i hc
        simp only [Option.bind_eq_some_iff, Option.map_eq_some_iff, Prod.mk.injEq] at h
        obtain ⟨cells, hz, H3, hl, rfl, rfl⟩ := h
        refine local_lay hl (by simp [fpO]) nil_lt fun H2 _ H2' hl2 => ?_
        simp only [opA, makeSliceA, he, hl', hc']
        rw [if_pos hc]
        simp only [hz, hl2, Option.bind_some, Option.map_some]
      · cases h
    · cases h
  | store t a x =>
    simp only [opA] at h
    split at h
    · rename_i hu
      simp only [Option.map_eq_some_iff, Prod.mk.injEq] at h
      obtain ⟨H3, hst, rfl, rfl⟩ := h
      obtain ⟨id, gen, off, g, e, cells, ha, hg, cells', rfl, hall⟩ := storeA_form hst
      have hfp : fpO P G ρ H.next (.store t a x) = ⟨[id], [id]⟩ := by simp only [fpO, ha, idsV]
      rw [hfp]
      refine local_upd (by simp) (by simp) (one_lt (wf _ _ hg)) fun H2 h2 => ?_
      simp only [opA, hu, if_true, hall H2 (h2 id (by simp)), Option.map_some]
    · cases h
  | load t p =>
    simp only [opA, Option.map_eq_some_iff, Prod.mk.injEq] at h
    obtain ⟨v', hv, rfl, rfl⟩ := h
    refine local_same (loadA_lt wf hv) fun H2 h2 => ?_
    simp only [opA, loadA_eq h2, hv, Option.map_some]
  | nilCheck p =>
    simp only [opA, Option.map_eq_some_iff, Prod.mk.injEq] at h
    obtain ⟨v', hv, rfl, rfl⟩ := h
    have hv0 := hv
    unfold nilCheckA at hv
    split at hv
    · rename_i id gen off hp
      simp only [Option.map_eq_some_iff] at hv
      obtain ⟨ec, hl, hv⟩ := hv
      have hfp : fpO P G ρ H.next (.nilCheck p) = ⟨[], [id]⟩ := by simp only [fpO, hp, idsV]
      rw [hfp]
      refine local_same (one_lt (live_lt wf hl)) fun H2 h2 => ?_
      subst hv
      simp only [opA, hp, nilCheckA, live_eq (h2 id (by simp)), hl, Option.map_some]
    · rename_i hp
      have hfp : fpO P G ρ H.next (.nilCheck p) = ⟨[], []⟩ := by simp only [fpO, hp, idsV]
      rw [hfp]
      refine local_same nil_lt fun H2 _ => ?_
      simp only [opA, hp, nilCheckA, Option.map_some, Option.some.injEq] at hv ⊢
      rw [hv]
    · rename_i hp
      have hfp : fpO P G ρ H.next (.nilCheck p) = ⟨[], []⟩ := by simp only [fpO, hp, idsV]
      rw [hfp]
      refine local_same nil_lt fun H2 _ => ?_
      simp only [opA, hp, nilCheckA, Option.map_some, Option.some.injEq] at hv ⊢
      rw [hv]
    · cases hv
  | slice t x lo hi mx =>
    simp only [opA] at h
    split at h
    · simp only [Option.map_eq_some_iff, Prod.mk.injEq] at h
      obtain ⟨v', hv, rfl, rfl⟩ := h
      obtain ⟨h1, h2⟩ := sliceA_loc wf hv
      refine local_same h1 fun H2 h3 => ?_
      simp only [opA, h2 H2 h3, Option.map_some]
    · cases h
  | indexAddr t x i =>
    simp only [opA] at h
    split at h
    · rename_i k i' hi
      simp only [Option.map_eq_some_iff, Prod.mk.injEq] at h
      obtain ⟨v', hv, rfl, rfl⟩ := h
      obtain ⟨h1, h2⟩ := indexAddrA_loc wf hv
      refine local_same h1 fun H2 h3 => ?_
      simp only [opA, hi, h2 H2 h3, Option.map_some]
    · cases h
  | fieldAddr s x f =>
    simp only [opA, Option.bind_eq_some_iff] at h
    obtain ⟨of, hof, h⟩ := h
    split at h
    · rename_i id gen off hx
      simp only [Option.map_eq_some_iff, Prod.mk.injEq] at h
      obtain ⟨ec, hl, rfl, rfl⟩ := h
      have hfp : fpO P G ρ H.next (.fieldAddr s x f) = ⟨[], [id]⟩ := by simp only [fpO, hx, idsV]
      rw [hfp]
      refine local_same (one_lt (live_lt wf hl)) fun H2 h2 => ?_
      simp only [opA, hof, Option.bind_some, hx, live_eq (h2 id (by simp)), hl, Option.map_some]
    · rename_i cells off hx
      simp only [Option.some.injEq, Prod.mk.injEq] at h
      obtain ⟨rfl, rfl⟩ := h
      have hfp : fpO P G ρ H.next (.fieldAddr s x f) = ⟨[], []⟩ := by simp only [fpO, hx, idsV]
      rw [hfp]
      refine local_same nil_lt fun H2 _ => ?_
      simp only [opA, hof, Option.bind_some, hx]
    · cases h
  | call c =>
    have h0 := h
    simp only [opA] at h
    split at h
    · rename_i b hb
      unfold builtinA at h
      split at h
      · rename_i t x hats hargs
        simp only [Option.map_eq_some_iff, Prod.mk.injEq] at h
        obtain ⟨v', hv, rfl, rfl⟩ := h
        obtain ⟨h1, h2⟩ := lenA_loc wf hv
        have hfp : fpO P G ρ H.next (.call c) = ⟨[], lenIds P t x⟩ := by simp only [fpO, hb, hats, hargs, fpB]
        rw [hfp]
        refine local_same h1 fun H2 h3 => ?_
        simp only [opA, hb, hats, hargs, builtinA, h2 H2 h3, Option.map_some]
      · rename_i hats hargs; exact appendA_local wf hb hats hargs h
      · rename_i hats hargs; exact copyA_local wf hb hats hargs h
      · rename_i hats hargs; exact clearA_local wf hb hats hargs h
      · rename_i hats
        simp only [Option.bind_eq_some_iff, Option.map_eq_some_iff, Prod.mk.injEq] at h
        obtain ⟨vs, h1, v', h2, rfl, rfl⟩ := h
        have hfp : fpO P G ρ H.next (.call c) = ⟨[], []⟩ := by simp only [fpO, hb, fpB]
        rw [hfp]
        refine local_same nil_lt fun H2 _ => ?_
        simp only [opA, hb, builtinA, h1, h2, Option.bind_some, Option.map_some]
      · rename_i hats
        simp only [Option.bind_eq_some_iff, Option.map_eq_some_iff, Prod.mk.injEq] at h
        obtain ⟨vs, h1, v', h2, rfl, rfl⟩ := h
        have hfp : fpO P G ρ H.next (.call c) = ⟨[], []⟩ := by simp only [fpO, hb, fpB]
        rw [hfp]
        refine local_same nil_lt fun H2 _ => ?_
        simp only [opA, hb, builtinA, h1, h2, Option.bind_some, Option.map_some]
      · cases h
    · cases h
  | pick c a b =>
    simp only [opA] at h
    split at h
    · rename_i t ht
      simp only [Option.some.injEq, Prod.mk.injEq] at h
      obtain ⟨rfl, rfl⟩ := h
      refine local_same nil_lt fun H2 _ => ?_
      simp only [opA, ht]
    · cases h
  | makeFunc fn f c =>
    simp only [opA] at h
    split at h
    · simp only [Option.some.injEq, Prod.mk.injEq] at h
      obtain ⟨rfl, rfl⟩ := h
      exact local_same nil_lt fun H2 _ => by simp only [opA]
    · cases h
  | makeInterface t x =>
    simp only [opA] at h
    split at h
    · rename_i y hy
      simp only [Option.map_eq_some_iff, Prod.mk.injEq] at h
      obtain ⟨v', hv, rfl, rfl⟩ := h
      refine local_same nil_lt fun H2 _ => ?_
      simp only [opA, hy, hv, Option.map_some]
    · cases h
  | field s x f =>
    simp only [opA, Option.bind_eq_some_iff] at h
    obtain ⟨of, hof, h⟩ := h
    split at h
    · rename_i hx
      simp only [Option.map_eq_some_iff, Prod.mk.injEq] at h
      obtain ⟨v', hv, rfl, rfl⟩ := h
      refine local_same nil_lt fun H2 _ => ?_
      simp only [opA, hof, Option.bind_some, hx, hv, Option.map_some]
    · rename_i hx
      simp only [Option.map_eq_some_iff, Prod.mk.injEq] at h
      obtain ⟨v', hv, rfl, rfl⟩ := h
      refine local_same nil_lt fun H2 _ => ?_
      simp only [opA, hof, Option.bind_some, hx, hv, Option.map_some]
    · cases h
  | move x => simp only [opA, Option.some.injEq, Prod.mk.injEq] at h; obtain ⟨rfl, rfl⟩ := h; exact local_same nil_lt fun H2 _ => by simp only [opA]
  | assign x => simp only [opA, Option.some.injEq, Prod.mk.injEq] at h; obtain ⟨rfl, rfl⟩ := h; exact local_same nil_lt fun H2 _ => by simp only [opA]
  | build t p => simp only [opA, Option.map_eq_some_iff, Prod.mk.injEq] at h; obtain ⟨v', hv, rfl, rfl⟩ := h; exact local_same nil_lt fun H2 _ => by simp only [opA, hv, Option.map_some]
  | binOp a b c d e => simp only [opA, Option.map_eq_some_iff, Prod.mk.injEq] at h; obtain ⟨v', hv, rfl, rfl⟩ := h; exact local_same nil_lt fun H2 _ => by simp only [opA, hv, Option.map_some]
  | unOp a b c => simp only [opA, Option.map_eq_some_iff, Prod.mk.injEq] at h; obtain ⟨v', hv, rfl, rfl⟩ := h; exact local_same nil_lt fun H2 _ => by simp only [opA, hv, Option.map_some]
  | convert a b c =>
    simp only [opA, Option.map_eq_some_iff, Prod.mk.injEq] at h
    obtain ⟨v', hv, rfl, rfl⟩ := h
    obtain ⟨h1, h2⟩ := convH_loc wf hv
    refine local_same h1 fun H2 ha => ?_
    simp only [opA, h2 H2 ha, Option.map_some]
  | index a b c => simp only [opA, Option.map_eq_some_iff, Prod.mk.injEq] at h; obtain ⟨v', hv, rfl, rfl⟩ := h; exact local_same nil_lt fun H2 _ => by simp only [opA, hv, Option.map_some]
  | extract a b => simp only [opA, Option.map_eq_some_iff, Prod.mk.injEq] at h; obtain ⟨v', hv, rfl, rfl⟩ := h; exact local_same nil_lt fun H2 _ => by simp only [opA, hv, Option.map_some]
  | _ => simp [opA] at h

theorem opA_env {ρ ρ' : Env} {o : Op} {id : Nat} (h : ∀ x, x ∈ o.operands → evA G ρ x = evA G ρ' x) : opA P G ρ H id o = opA P G ρ' H id o := by
  have hparts : ∀ (ps : Array (Nat × Operand)), (∀ x, x ∈ (ps.toList.map (·.2)).toArray → evA G ρ x = evA G ρ' x) → ps.toList.map (fun p => (p.1, evA G ρ p.2)) = ps.toList.map (fun p => (p.1, evA G ρ' p.2)) := by
    intro ps hp
    refine List.map_congr_left fun p hpm => ?_
    rw [hp p.2 (by simpa using ⟨p.1, by simpa using hpm⟩)]
  have hlist : ∀ (ps : Array Operand), (∀ x, x ∈ ps → evA G ρ x = evA G ρ' x) → ps.toList.map (evA G ρ) = ps.toList.map (evA G ρ') := by
    intro ps hp
    exact List.map_congr_left fun p hpm => hp p (by simpa using hpm)
  cases o with
  | build t ps => simp only [opA]; rw [hparts ps h]
  | buildSlice t len ps => simp only [opA]; rw [hparts ps h]
  | makeFunc fn f c =>
    simp only [opA]
    rw [hlist f fun x hx => h x (by simp [Op.operands, hx]), hlist c fun x hx => h x (by simp [Op.operands, hx])]
  | slice t x lo hi mx =>
    have hx := h x (by simp [Op.operands])
    have hlo : lo.map (evA G ρ) = lo.map (evA G ρ') := by
      cases lo with
      | none => rfl
      | some l => simp only [Option.map_some]; rw [h l (by simp [Op.operands])]
    have hhi : hi.map (evA G ρ) = hi.map (evA G ρ') := by
      cases hi with
      | none => rfl
      | some l => simp only [Option.map_some]; rw [h l (by simp [Op.operands])]
    simp only [opA, hx, hlo, hhi]
  | call c =>
    simp only [opA]
    rw [hlist c.args fun x hx => h x (by
      simp only [Op.operands, Call.operands]
      split <;> simp [hx])]
  | pick c a b => simp only [opA, h c (by simp [Op.operands]), h a (by simp [Op.operands]), h b (by simp [Op.operands])]
  | store t a x => simp only [opA, h a (by simp [Op.operands]), h x (by simp [Op.operands])]
  | binOp op t x y u => simp only [opA, h x (by simp [Op.operands]), h y (by simp [Op.operands])]
  | makeSlice t l c => simp only [opA, h l (by simp [Op.operands]), h c (by simp [Op.operands])]
  | indexAddr t x i => simp only [opA, h x (by simp [Op.operands]), h i (by simp [Op.operands])]
  | index t x i => simp only [opA, h x (by simp [Op.operands]), h i (by simp [Op.operands])]
  | move x => simp only [opA, h x (by simp [Op.operands])]
  | assign x => simp only [opA, h x (by simp [Op.operands])]
  | box e x => simp only [opA, h x (by simp [Op.operands])]
  | load e x => simp only [opA, h x (by simp [Op.operands])]
  | nilCheck x => simp only [opA, h x (by simp [Op.operands])]
  | unOp a b x => simp only [opA, h x (by simp [Op.operands])]
  | convert a b x => simp only [opA, h x (by simp [Op.operands])]
  | makeInterface t x => simp only [opA, h x (by simp [Op.operands])]
  | fieldAddr s x f => simp only [opA, h x (by simp [Op.operands])]
  | field s x f => simp only [opA, h x (by simp [Op.operands])]
  | extract x i => simp only [opA, h x (by simp [Op.operands])]
  | lookup t x i ok => simp only [opA, h x (by simp [Op.operands]), h i (by simp [Op.operands])]
  | mapUpdate t m k x => simp only [opA, h m (by simp [Op.operands]), h k (by simp [Op.operands]), h x (by simp [Op.operands])]
  | insert t m k x => simp only [opA, h m (by simp [Op.operands]), h k (by simp [Op.operands]), h x (by simp [Op.operands])]
  | mapEntry t m k => simp only [opA, h m (by simp [Op.operands]), h k (by simp [Op.operands])]
  | entryStore t m s x => simp only [opA, h m (by simp [Op.operands]), h s (by simp [Op.operands]), h x (by simp [Op.operands])]
  | _ => rfl

end Go.Hx
namespace Go.Hx
variable {P : Program} {G : Nat → Option (List AVal)} {Γ Γ' : Gam} {H H' : AHeap} {w w' : World}

def PCall (P : Program) (G : Nat → Option (List AVal)) (fv : AVal) (args : List AVal) (H : AHeap) (v : AVal) (rs : List Nat) : Prop :=
  (∀ r, r ∈ rs → r < H.next) ∧ ∀ H2 : AHeap, (∀ r, r ∈ rs → H2.get r = H.get r) → H.next ≤ H2.next → AApply P G fv args H2 fun r H3 => r = .ret v ∧ H3 = H2

def opD (P : Program) (G : Nat → Option (List AVal)) (o : Oper) (K : FP → St → Prop) (s : St) : Prop :=
  match o.op with
  | .call { callee := .value fv, args, .. } => ∃ v rs, PCall P G (evA G s.ρ fv) (args.toList.map (evA G s.ρ)) s.H v rs ∧ K ⟨[], rs⟩ ⟨putA s.ρ o.dst v, s.H⟩
  | op => wpo (opA P G s.ρ s.H s.H.next op) fun vH => K (fpO P G s.ρ s.H.next op) ⟨putA s.ρ o.dst vH.1, vH.2⟩

def addF (i : Nat) (f : FP) (acc : List (Nat × FP)) : List (Nat × FP) :=
  match f with
  | ⟨[], []⟩ => acc
  | f => (i, f) :: acc

def ApartA (b : Nat) (f : FP) (acc : List (Nat × FP)) : Prop :=
  ∀ p, p ∈ acc → b.testBit p.1 = false → (∀ r, r ∈ f.eff → r ∉ p.2.rs) ∧ (∀ r, r ∈ p.2.eff → r ∉ f.rs)

def opsD (P : Program) (G : Nat → Option (List AVal)) (all : Array Oper) (tail : St → Prop) : List Nat → Nat → List (Nat × FP) → List Oper → St → Prop
  | b :: bs, i, acc, o :: rest, s => wpo (wantA all s.ρ o) fun t => if t = true then opD P G o (fun f s' => ApartA b f acc ∧ opsD P G all tail bs (i + 1) (addF i f acc) rest s') s
      else opsD P G all tail bs (i + 1) acc rest ⟨putA s.ρ o.dst (.lit undef), s.H⟩
  | _, _, _, [], s => tail s
  | [], _, _, _ :: _, _ => False

def binding (o : Oper) : List Nat := (o.after.toList.filter fun e => Region.binds .any e).map (·.on)

def noDst (x : Option Tmp) (l : List Tmp) : Bool := match x with | some d => !l.contains d | none => true

def apartO (all : Array Oper) (x y : Oper) : Bool :=
  noDst x.dst (y.looksAt all) && noDst y.dst (x.looksAt all) && (match x.dst with | some d => y.dst != some d | none => true)

def bitAt (bs : List Nat) (i : Nat) : Nat := (bs[i]?).getD 0

def checkOne (bs : List Nat) (i : Nat) (o : Oper) : Bool :=
  let es := binding o
  let b := bitAt bs i
  es.all (fun e => decide (e < i)) && decide (b < 2 ^ i) &&
  (List.range i).all (fun j => !b.testBit j || es.any fun e => e == j || (bitAt bs e).testBit j)

def drawOk (all : Array Oper) (bs : List Nat) (K : Nat) : Bool :=
  decide (bs.length = K) && decide (K ≤ all.size) &&
  (List.range all.size).all (fun i => match all[i]? with | some o => checkOne (bs ++ (List.range' K (all.size - K)).map fun m => 2 ^ m - 1) i o | none => false) &&
  (List.range K).all fun i => match all[i]? with
    | some o => (List.range i).all fun j => (bitAt bs i).testBit j || (match all[j]? with | some o' => apartO all o' o | none => false)
    | none => false

structure Dt where
  v : AVal
  e : Option (Nat × Blk)
  al : Bool
  f : FP

def dstAt (all : Array Oper) (i : Nat) : Option Tmp := (all[i]?).bind (·.dst)

def envAt (all : Array Oper) (d : Nat → Dt) (ρ0 : Env) : Nat → (Nat → Bool) → Env
  | 0, _ => ρ0
  | n + 1, D => if D n then putA (envAt all d ρ0 n D) (dstAt all n) (d n).v else envAt all d ρ0 n D

def getAt (d : Nat → Dt) (g0 : Nat → Option Blk) : Nat → (Nat → Bool) → Nat → Option Blk
  | 0, _ => g0
  | n + 1, D => if D n then effGet (d n).e (getAt d g0 n D) else getAt d g0 n D

def nal (d : Nat → Dt) : Nat → Nat
  | 0 => 0
  | n + 1 => nal d n + (if (d n).al then 1 else 0)

def tgt (x : Dt) : Option Nat := x.e.map (·.1)

theorem effGet_ne {e : Option (Nat × Blk)} {g : Nat → Option Blk} {r : Nat} (h : e.map (·.1) ≠ some r) : effGet e g r = g r := by
  cases e with
  | none => rfl
  | some kb =>
    simp only [effGet]
    rw [if_neg]
    rintro rfl
    exact h rfl

theorem putA_ne {ρ : Env} {x : Option Tmp} {v : AVal} {t : Tmp} (h : x ≠ some t) : putA ρ x v t = ρ t := by
  cases x with
  | none => rfl
  | some d =>
    simp only [putA]
    rw [if_neg]
    rintro rfl
    exact h rfl

theorem putA_congr {ρ ρ' : Env} {x : Option Tmp} {v : AVal} {t : Tmp} (h : ρ t = ρ' t) : putA ρ x v t = putA ρ' x v t := by
  cases x with
  | none => exact h
  | some d => simp only [putA, h]

theorem effGet_congr {e : Option (Nat × Blk)} {g g' : Nat → Option Blk} {r : Nat} (h : g r = g' r) : effGet e g r = effGet e g' r := by
  cases e with
  | none => exact h
  | some kb => simp only [effGet, h]

theorem putA_comm {ρ : Env} {x y : Option Tmp} {v u : AVal} (h : ∀ d, x = some d → y ≠ some d) : putA (putA ρ x v) y u = putA (putA ρ y u) x v := by
  funext t
  by_cases hx : x = some t
  · rw [putA_ne (h t hx)]
    exact putA_congr (putA_ne (h t hx)).symm
  · rw [putA_ne (ρ := putA ρ y u) hx]
    exact putA_congr (putA_ne hx)

theorem effGet_comm {e e' : Option (Nat × Blk)} {g : Nat → Option Blk} (h : ∀ r, e.map (·.1) = some r → e'.map (·.1) ≠ some r) : effGet e' (effGet e g) = effGet e (effGet e' g) := by
  funext r
  by_cases hx : e.map (·.1) = some r
  · rw [effGet_ne (h r hx)]
    exact effGet_congr (effGet_ne (h r hx)).symm
  · rw [effGet_ne (g := effGet e' g) hx]
    exact effGet_congr (effGet_ne hx)

section
variable {all : Array Oper} {d d' : Nat → Dt} {ρ0 : Env} {g0 g0' : Nat → Option Blk} {D D' : Nat → Bool}

theorem envAt_agree {t : Tmp} : ∀ {n : Nat}, (∀ j, j < n → dstAt all j = some t → D j = D' j) → envAt all d ρ0 n D t = envAt all d ρ0 n D' t := by
  intro n
  induction n with
  | zero => intro _; rfl
  | succ n ih =>
    intro h
    have h0 := ih fun j hj => h j (by omega)
    simp only [envAt]
    by_cases hd : dstAt all n = some t
    · rw [h n (by omega) hd]
      split
      · exact putA_congr h0
      · exact h0
    · have : ∀ (b : Bool) (ρ : Env), (if b = true then putA ρ (dstAt all n) (d n).v else ρ) t = ρ t := by
        intro b ρ
        split
        · exact putA_ne hd
        · rfl
      rw [this, this]
      exact h0

theorem envAt_cut {m : Nat} : ∀ {n : Nat}, m ≤ n → envAt all d ρ0 n (fun j => decide (j < m)) = envAt all d ρ0 m fun _ => true := by
  have low : ∀ k, k ≤ m → envAt all d ρ0 k (fun j => decide (j < m)) = envAt all d ρ0 k fun _ => true := by
    intro k
    induction k with
    | zero => intro _; rfl
    | succ k ih =>
      intro hk
      simp only [envAt]
      rw [ih (by omega), if_pos (by simp; omega)]
      simp
  intro n
  induction n with
  | zero =>
    intro hm
    obtain rfl : m = 0 := by omega
    exact low 0 (by omega)
  | succ n ih =>
    intro hm
    by_cases h : m = n + 1
    · subst h; exact low (n + 1) (by omega)
    · simp only [envAt]
      rw [if_neg (by simp; omega)]
      exact ih (by omega)

theorem getAt_agree {r : Nat} : ∀ {n : Nat}, (∀ j, j < n → tgt (d j) = some r → D j = D' j) → getAt d g0 n D r = getAt d g0 n D' r := by
  intro n
  induction n with
  | zero => intro _; rfl
  | succ n ih =>
    intro h
    have h0 := ih fun j hj => h j (by omega)
    simp only [getAt]
    by_cases hd : tgt (d n) = some r
    · rw [h n (by omega) hd]
      split
      · exact effGet_congr h0
      · exact h0
    · have : ∀ (b : Bool) (g : Nat → Option Blk), (if b = true then effGet (d n).e g else g) r = g r := by
        intro b g
        split
        · exact effGet_ne hd
        · rfl
      rw [this, this]
      exact h0

theorem getAt_cut {m : Nat} : ∀ {n : Nat}, m ≤ n → getAt d g0 n (fun j => decide (j < m)) = getAt d g0 m fun _ => true := by
  have low : ∀ k, k ≤ m → getAt d g0 k (fun j => decide (j < m)) = getAt d g0 k fun _ => true := by
    intro k
    induction k with
    | zero => intro _; rfl
    | succ k ih =>
      intro hk
      simp only [getAt]
      rw [ih (by omega), if_pos (by simp; omega)]
      simp
  intro n
  induction n with
  | zero =>
    intro hm
    obtain rfl : m = 0 := by omega
    exact low 0 (by omega)
  | succ n ih =>
    intro hm
    by_cases h : m = n + 1
    · subst h; exact low (n + 1) (by omega)
    · simp only [getAt]
      rw [if_neg (by simp; omega)]
      exact ih (by omega)

theorem getAt_base {r : Nat} : ∀ {n : Nat}, (g0 r = g0' r ∨ ∃ j, j < n ∧ D j = true ∧ tgt (d j) = some r) → getAt d g0 n D r = getAt d g0' n D r := by
  intro n
  induction n with
  | zero =>
    rintro (h | ⟨j, hj, _⟩)
    · exact h
    · omega
  | succ n ih =>
    intro h
    simp only [getAt]
    by_cases hD : D n = true
    · rw [if_pos hD, if_pos hD]
      by_cases ht : tgt (d n) = some r
      · cases he : (d n).e with
        | none => simp [tgt, he] at ht
        | some kb =>
          simp only [tgt, he, Option.map_some, Option.some.injEq] at ht
          simp only [effGet]
          rw [if_pos ht.symm, if_pos ht.symm]
      · refine effGet_congr (ih ?_)
        rcases h with h | ⟨j, hj, h1, h2⟩
        · exact .inl h
        · by_cases hjn : j = n
          · subst hjn; exact absurd h2 ht
          · exact .inr ⟨j, by omega, h1, h2⟩
    · rw [if_neg hD, if_neg hD]
      refine ih ?_
      rcases h with h | ⟨j, hj, h1, h2⟩
      · exact .inl h
      · by_cases hjn : j = n
        · subst hjn; exact absurd h1 hD
        · exact .inr ⟨j, by omega, h1, h2⟩

theorem getAt_none {r : Nat} : ∀ {n : Nat}, (∀ j, j < n → D j = true → tgt (d j) ≠ some r) → getAt d g0 n D r = g0 r := by
  intro n
  induction n with
  | zero => intro _; rfl
  | succ n ih =>
    intro h
    simp only [getAt]
    split
    · rename_i hD
      rw [effGet_ne (h n (by omega) hD)]
      exact ih fun j hj => h j (by omega)
    · exact ih fun j hj => h j (by omega)

def withI (D : Nat → Bool) (i : Nat) : Nat → Bool := fun j => if j = i then true else D j

theorem envAt_with {i : Nat} (hD : D i = false) : ∀ {n : Nat}, i < n → (∀ j, i < j → j < n → D j = true → ∀ t, dstAt all i = some t → dstAt all j ≠ some t) →
    envAt all d ρ0 n (withI D i) = putA (envAt all d ρ0 n D) (dstAt all i) (d i).v := by
  intro n
  induction n with
  | zero => intro h; omega
  | succ n ih =>
    intro hi h
    by_cases hin : i = n
    · subst hin
      have h0 : envAt all d ρ0 i (withI D i) = envAt all d ρ0 i D := funext fun t => envAt_agree fun j hj _ => by simp [withI, Nat.ne_of_lt hj]
      simp only [envAt]
      rw [if_pos (by simp [withI]), if_neg (by simp [hD]), h0]
    · have hw : withI D i n = D n := by simp [withI, Ne.symm hin]
      have h0 := ih (by omega) fun j h1 h2 => h j h1 (by omega)
      simp only [envAt, hw]
      split
      · rename_i hDn
        rw [h0]
        exact putA_comm (h n (by omega) (by omega) hDn)
      · exact h0

theorem getAt_with {i : Nat} (hD : D i = false) : ∀ {n : Nat}, i < n → (∀ j, i < j → j < n → D j = true → ∀ t, tgt (d i) = some t → tgt (d j) ≠ some t) →
    getAt d g0 n (withI D i) = effGet (d i).e (getAt d g0 n D) := by
  intro n
  induction n with
  | zero => intro h; omega
  | succ n ih =>
    intro hi h
    by_cases hin : i = n
    · subst hin
      have h0 : getAt d g0 i (withI D i) = getAt d g0 i D := funext fun t => getAt_agree fun j hj _ => by simp [withI, Nat.ne_of_lt hj]
      simp only [getAt]
      rw [if_pos (by simp [withI]), if_neg (by simp [hD]), h0]
    · have hw : withI D i n = D n := by simp [withI, Ne.symm hin]
      have h0 := ih (by omega) fun j h1 h2 => h j h1 (by omega)
      simp only [getAt, hw]
      split
      · rename_i hDn
        rw [h0]
        exact effGet_comm (h n (by omega) (by omega) hDn)
      · exact h0

theorem nal_mono {m n : Nat} (h : m ≤ n) : nal d m ≤ nal d n := by
  induction n with
  | zero =>
    have : m = 0 := by omega
    subst this; exact Nat.le_refl _
  | succ n ih =>
    by_cases hm : m = n + 1
    · subst hm; exact Nat.le_refl _
    · exact Nat.le_trans (ih (by omega)) (by simp [nal])

theorem nal_hit {n c : Nat} (h : c < nal d n) : ∃ j, j < n ∧ (d j).al = true ∧ nal d j = c := by
  induction n with
  | zero => simp [nal] at h
  | succ n ih =>
    by_cases hc : c < nal d n
    · obtain ⟨j, h1, h2⟩ := ih hc
      exact ⟨j, by omega, h2⟩
    · simp only [nal] at h
      cases hal : (d n).al with
      | false => simp [hal] at h; omega
      | true =>
        simp only [hal, if_true] at h
        exact ⟨n, by omega, hal, by omega⟩

theorem nal_lt {i n : Nat} (h : i < n) (hal : (d i).al = true) : nal d i < nal d n := by
  have := nal_mono (d := d) (m := i + 1) (n := n) h
  simp only [nal, hal, if_true] at this
  omega

theorem envAt_below {n : Nat} (h : ∀ j, j < n → d j = d' j) : envAt all d ρ0 n D = envAt all d' ρ0 n D := by
  induction n with
  | zero => rfl
  | succ n ih => simp only [envAt]; rw [ih fun j hj => h j (by omega), h n (by omega)]
theorem getAt_below {n : Nat} (h : ∀ j, j < n → d j = d' j) : getAt d g0 n D = getAt d' g0 n D := by
  induction n with
  | zero => rfl
  | succ n ih => simp only [getAt]; rw [ih fun j hj => h j (by omega), h n (by omega)]
theorem nal_below {n : Nat} (h : ∀ j, j < n → d j = d' j) : nal d n = nal d' n := by
  induction n with
  | zero => rfl
  | succ n ih => simp only [nal]; rw [ih fun j hj => h j (by omega), h n (by omega)]

end


def ExecOk (P : Program) (G : Nat → Option (List AVal)) (all : Array Oper) (o : Oper) (id : Nat) (s s' : St) : Prop :=
  (wantA all s.ρ o = some false ∧ s' = ⟨putA s.ρ o.dst (.lit undef), s.H⟩) ∨
  (wantA all s.ρ o = some true ∧ ∃ v, s'.ρ = putA s.ρ o.dst v ∧
    (opA P G s.ρ s.H id o.op = some (v, s'.H) ∨
     ∃ fv args ats, o.op = .call ⟨.value fv, args, ats⟩ ∧ s'.H = s.H ∧ AApply P G (evA G s.ρ fv) (args.toList.map (evA G s.ρ)) s.H fun r H3 => r = .ret v ∧ H3 = s.H))

theorem execOk_sound {n : Nat} {wb : Base} {rd rb : Option Nat} {all : Array Oper} {o : Oper} {id i : Nat} {s s' : St} {a : Act} {next : Act → World → Prop} {Q' : Exit → Act → World → Prop} (ho : all[i]? = some o) (hd : dstOk n o = true)
    (hs : RelS P G n wb Γ s a w) (hr : RdOk Γ s.H rd rb) (h : ExecOk P G all o id s s')
    (hnext : ∀ Γ' a' w', RelS P G n wb Γ' s' a' w' → Evo Γ s.H w Γ' s'.H w' → s.H.next ≤ s'.H.next → RdOk Γ' s'.H rd rb → (∃ cv, a' = a.put o.dst cv) → next a' w') :
    wpOpIn (fenceOf rb) 0 P all Q' i next a w := by
  have hdst : ∀ d, o.dst = some d → d < n := by
    intro d hd'
    unfold dstOk at hd
    rw [hd'] at hd
    simpa using hd
  unfold wpOpIn
  rw [ho]
  simp only
  rcases h with ⟨hw, rfl⟩ | ⟨hw, v, hρ, h⟩
  · rw [want_sound hs hw]
    simp only [Bool.false_eq_true, if_false]
    refine ⟨fun _ _ => trivial, ?_⟩
    have hs' := put_rel (v := .lit undef) (cv := undef) hs hdst (Evo.refl Γ s.H w) (Nat.le_refl _) hs.heap (.lit _)
    exact hnext Γ _ w hs' (Evo.refl _ _ _) (Nat.le_refl _) hr ⟨_, rfl⟩
  · rw [want_sound hs hw]
    simp only [if_true]
    obtain ⟨ρ', H'⟩ := s'
    simp only at hρ
    subst hρ
    refine ⟨fun _ _ => trivial, ?_⟩
    rcases h with hop | ⟨fv, args, ats, hop, hH, hap⟩
    · simp only at hop
      rw [Oper.semAt_eq _ _ _ (fun c hc => by rw [hc] at hop; simp [opA] at hop)]
      obtain ⟨nx, cv, Γ', w', hrun, hnx, E, hn, R, hv⟩ := opA_sound hs.heap (eval_rel hs) hop
      rw [hrun]
      have hri := rdIn_of_live hr (opA_loops hs.heap hop)
      have hs' := put_rel hs hdst E hn R hv
      have hr' := hr.evo E hn hs.heap hri
      rcases hnx with rfl | ⟨rfl, rfl⟩
      · exact hnext Γ' _ w' hs' E hn hr' ⟨_, rfl⟩
      · exact hnext Γ' _ w' hs' E hn hr' ⟨_, rfl⟩
    · simp only at hH
      subst hH
      rw [Oper.semAt_eq _ _ _ (fun c hc => by rw [hc] at hop; cases hop)]
      obtain ⟨d, h1, h2⟩ := hap Γ w (a.eval fv) (args.map a.eval) hs.heap (eval_rel hs fv) ⟨by simp, fun i h1 h2 => by simp only [List.getElem_map, Array.getElem_map, Array.getElem_toList]; exact eval_rel hs _⟩
      have hex : (execOp a.eval o).run P w = (invoke d.target d.args).run P w := by
        unfold execOp
        simp only [hop]
        unfold resolve
        simp only
        rw [run_bind_ok h1]
      have hri : RdIn s.H rd := by
        cases rd with
        | none => trivial
        | some id =>
          obtain ⟨b, st, pend, n, env, ps, asg, body, _, _, h3⟩ := hr
          exact ⟨_, _, _, _, _, _, _, h3⟩
      have cont : ∀ e w', CPost P G Γ s.H w (fun r H3 => r = .ret v ∧ H3 = s.H) e w' → (match e with
          | .returned v => next (a.put o.dst v) w'
          | .panicked chain => Q' (.panic chain) a w'
          | .outgrown => LetsOut Q') := by
        rintro e w' ⟨r, H', Γ', hend, ⟨rfl, rfl⟩, R, E, hn⟩
        have hr' := hr.evo E hn hs.heap hri
        cases e with
        | returned cv => exact hnext Γ' _ w' (put_rel hs hdst E hn R hend) E hn hr' ⟨_, rfl⟩
        | panicked chain => exact hend.elim
        | outgrown => exact hend.elim
      rw [hex]
      rcases h2 with ⟨f, as, h3, h4⟩ | ⟨l, f, tm, asg, body, h3, h4⟩ | ⟨cv, w', h3, h4⟩
      · rw [h3]
        refine ⟨fun hc => by simp [Fence.wide] at hc, ?_⟩
        have h4' : CallsIn (fenceOf rb) 0 P f as w _ := h4
        refine h4'.mono ?_
        intro e w' hp
        have := cont e w' hp
        cases e <;> exact this
      · rw [h3]
        refine ⟨fun hc => by simp [Fence.wide] at hc, ?_⟩
        have h4' : RoundIn (fenceOf rb) 0 P l f tm asg body w _ := h4
        refine h4'.mono ?_
        intro e w' hp
        have := cont e w' hp
        cases e <;> exact this
      · rw [h3]
        exact cont (.returned cv) w' h4

def canonH (d : Nat → Dt) (H0 : AHeap) (m : Nat) : AHeap := ⟨getAt d H0.get m fun _ => true, H0.next + nal d m⟩
def canon (all : Array Oper) (d : Nat → Dt) (s0 : St) (m : Nat) : St := ⟨envAt all d s0.ρ m fun _ => true, canonH d s0.H m⟩

structure GoodAt (P : Program) (G : Nat → Option (List AVal)) (all : Array Oper) (bs : List Nat) (s0 : St) (d : Nat → Dt) (i : Nat) : Prop where
  step : ∀ o, all[i]? = some o → ∀ ρ2 H2, (∀ t, t ∈ o.looksAt all → ρ2 t = (canon all d s0 i).ρ t) → (∀ r, r ∈ (d i).f.rs → H2.get r = (canon all d s0 i).H.get r) →
    ((d i).al = true → H2.get (s0.H.next + nal d i) = some .rsv ∧ s0.H.next + nal d i ≠ H2.next) → s0.H.next + nal d i ≤ H2.next →
    ExecOk P G all o (s0.H.next + nal d i) ⟨ρ2, H2⟩ ⟨putA ρ2 o.dst (d i).v, ⟨effGet (d i).e H2.get, H2.next⟩⟩
  eff : ∀ k b, (d i).e = some (k, b) → k ∈ (d i).f.eff ∧ ((d i).al = false → k ∈ (d i).f.rs)
  al : (d i).al = true → ∃ b, (d i).e = some (s0.H.next + nal d i, b)
  lt : ∀ r, r ∈ (d i).f.rs → r < s0.H.next + nal d i
  apart : ∀ j, j < i → (bitAt bs i).testBit j = false → (∀ r, r ∈ (d i).f.eff → r ∉ (d j).f.rs) ∧ (∀ r, r ∈ (d j).f.eff → r ∉ (d i).f.rs)

theorem wantA_env {all : Array Oper} {o : Oper} {ρ ρ' : Env} (h : ∀ t, t ∈ o.looksAt all → ρ' t = ρ t) : wantA all ρ' o = wantA all ρ o := by
  unfold wantA
  cases hg : o.guard with
  | none => rfl
  | some gw =>
    obtain ⟨j, want⟩ := gw
    simp only
    cases hd : (all[j]?).bind (·.dst) with
    | none => rfl
    | some d =>
      simp only
      rw [h d (by simp [Oper.looksAt, hg, hd])]

theorem evA_env {all : Array Oper} {o : Oper} {ρ ρ' : Env} (h : ∀ t, t ∈ o.looksAt all → ρ' t = ρ t) : ∀ x, x ∈ o.op.operands → evA G ρ' x = evA G ρ x := by
  intro x hx
  cases x with
  | tmp t => exact h t (List.mem_append_left _ (List.mem_filterMap.2 ⟨.tmp t, by simpa using hx, rfl⟩))
  | _ => rfl

def upD (d : Nat → Dt) (m : Nat) (x : Dt) : Nat → Dt := fun j => if j = m then x else d j

theorem upD_lt {d : Nat → Dt} {m : Nat} {x : Dt} {i : Nat} (h : i < m) : d i = upD d m x i := by simp [upD, Nat.ne_of_lt h]
theorem upD_self {d : Nat → Dt} {m : Nat} {x : Dt} : upD d m x m = x := by simp [upD]

theorem canon_below {all : Array Oper} {d d' : Nat → Dt} {s0 : St} {m : Nat} (h : ∀ j, j < m → d j = d' j) : canon all d s0 m = canon all d' s0 m := by
  unfold canon canonH
  rw [envAt_below h, getAt_below h, nal_below h]

theorem GoodAt.below {all : Array Oper} {bs : List Nat} {s0 : St} {d d' : Nat → Dt} {i : Nat} (g : GoodAt P G all bs s0 d i) (h : ∀ j, j ≤ i → d j = d' j) : GoodAt P G all bs s0 d' i := by
  have hi := h i (Nat.le_refl _)
  have hn : nal d i = nal d' i := nal_below fun j hj => h j (by omega)
  have hc : canon all d s0 i = canon all d' s0 i := canon_below fun j hj => h j (by omega)
  obtain ⟨a, b, c, e, f⟩ := g
  refine ⟨?_, ?_, ?_, ?_, ?_⟩
  · rw [← hi, ← hn, ← hc]; exact a
  · rw [← hi]; exact b
  · rw [← hi, ← hn]; exact c
  · rw [← hi, ← hn]; exact e
  · intro j hj hb
    rw [← hi, ← h j (by omega)]
    exact f j hj hb

def Covers (d : Nat → Dt) (m : Nat) (acc : List (Nat × FP)) : Prop := ∀ j, j < m → (d j).f = ⟨[], []⟩ ∨ (j, (d j).f) ∈ acc

theorem Covers.add {d : Nat → Dt} {m : Nat} {acc : List (Nat × FP)} (h : Covers d m acc) (x : Dt) : Covers (upD d m x) (m + 1) (addF m x.f acc) := by
  intro j hj
  have key : ∀ p, p ∈ acc → p ∈ addF m x.f acc := by
    intro p hp
    unfold addF
    split
    · exact hp
    · exact List.mem_cons_of_mem _ hp
  by_cases hjm : j = m
  · subst hjm
    rw [upD_self]
    by_cases hf : x.f = ⟨[], []⟩
    · exact .inl hf
    · refine .inr ?_
      unfold addF
      split
      · rename_i h0; exact absurd h0 hf
      · exact List.mem_cons_self
  · rw [← upD_lt (x := x) (by omega)]
    exact (h j (by omega)).imp id (key _)

theorem apart_of {d : Nat → Dt} {m : Nat} {acc : List (Nat × FP)} {b : Nat} {f : FP} (hc : Covers d m acc) (h : ApartA b f acc) : ∀ j, j < m → b.testBit j = false → (∀ r, r ∈ f.eff → r ∉ (d j).f.rs) ∧ (∀ r, r ∈ (d j).f.eff → r ∉ f.rs) := by
  intro j hj hb
  rcases hc j hj with h0 | h1
  · rw [h0]
    exact ⟨fun r _ h => (by cases h), fun r h => (by cases h)⟩
  · exact h _ h1 hb

theorem canon_succ {all : Array Oper} {d : Nat → Dt} {s0 : St} {m : Nat} {x : Dt} {o : Oper} (ho : all[m]? = some o) :
    canon all (upD d m x) s0 (m + 1) = ⟨putA (canon all d s0 m).ρ o.dst x.v, ⟨effGet x.e (canon all d s0 m).H.get, (canon all d s0 m).H.next + (if x.al then 1 else 0)⟩⟩ := by
  have hb : ∀ j, j < m → d j = upD d m x j := fun j hj => upD_lt hj
  unfold canon canonH
  simp only [envAt, getAt, nal, if_true, upD_self]
  rw [← envAt_below hb, ← getAt_below hb, ← nal_below hb]
  simp only [dstAt, ho, Option.bind_some, Nat.add_assoc]


theorem trace_add {all : Array Oper} {bs : List Nat} {s0 : St} {d : Nat → Dt} {m : Nat} {x : Dt} (hg : ∀ i, i < m → GoodAt P G all bs s0 d i) (hx : GoodAt P G all bs s0 (upD d m x) m) :
    ∀ i, i < m + 1 → GoodAt P G all bs s0 (upD d m x) i := by
  intro i hi
  by_cases him : i = m
  · subst him; exact hx
  · exact (hg i (by omega)).below fun j hj => upD_lt (by omega)

theorem trace {all : Array Oper} {bs : List Nat} {s0 : St} {tail : St → Prop} {K : Nat} (hbs : bs.length = K) (hK : K ≤ all.size) : ∀ (k m : Nat) (d : Nat → Dt) (acc : List (Nat × FP)), k + m = K →
    (∀ i, i < m → GoodAt P G all bs s0 d i) → Covers d m acc → WFH (canon all d s0 m).H → opsD P G all tail (bs.drop m) m acc ((all.toList.take K).drop m) (canon all d s0 m) →
    ∃ d', (∀ i, i < K → GoodAt P G all bs s0 d' i) ∧ tail (canon all d' s0 K) := by
  intro k
  induction k with
  | zero =>
    intro m d acc hm hg hc wf h
    obtain rfl : m = K := by omega
    refine ⟨d, hg, ?_⟩
    have : (all.toList.take m).drop m = [] := by
      apply List.drop_eq_nil_of_le
      simp only [List.length_take]
      omega
    rw [this] at h
    cases hb : bs.drop m with
    | nil => rw [hb] at h; simpa only [opsD] using h
    | cons b bs' => rw [hb] at h; simpa only [opsD] using h
  | succ k ih =>
    intro m d acc hm hg hc wf h
    have hmK : m < K := by omega
    have hms : m < all.size := by omega
    have ho : all[m]? = some all[m] := Array.getElem?_eq_getElem hms
    have hbm : bs.drop m = bitAt bs m :: bs.drop (m + 1) := by
      rw [List.drop_eq_getElem_cons (by omega)]
      congr 1
      simp [bitAt, List.getElem?_eq_getElem (show m < bs.length by omega)]
    have hom : (all.toList.take K).drop m = all[m] :: (all.toList.take K).drop (m + 1) := by
      rw [List.drop_eq_getElem_cons (by simp only [List.length_take, Array.length_toList]; omega)]
      congr 1
      simp
    rw [hbm, hom] at h
    simp only [opsD] at h
    obtain ⟨t, ht, h⟩ := h
    have hnext : (canon all d s0 m).H.next = s0.H.next + nal d m := rfl
    cases t with
    | false =>
      simp only [Bool.false_eq_true, if_false] at h
      let x : Dt := ⟨.lit undef, none, false, ⟨[], []⟩⟩
      have hb : ∀ j, j < m → d j = upD d m x j := fun j hj => upD_lt hj
      have hcan : canon all (upD d m x) s0 (m + 1) = ⟨putA (canon all d s0 m).ρ all[m].dst (.lit undef), (canon all d s0 m).H⟩ := canon_succ ho
      have hgx : GoodAt P G all bs s0 (upD d m x) m := by
        refine ⟨?_, ?_, ?_, ?_, ?_⟩
        · rw [upD_self, ← canon_below hb]
          intro o ho' ρ2 H2 h1 h2 h3 _
          rw [ho] at ho'
          cases ho'
          refine .inl ⟨?_, rfl⟩
          simp only
          rw [wantA_env h1, ht]
        · rw [upD_self]; intro k b he; cases he
        · rw [upD_self]; intro he; cases he
        · rw [upD_self]; intro r hr; cases hr
        · rw [upD_self]
          intro j hj hbit
          exact ⟨fun r hr => (by cases hr), fun r hr hr' => (by cases hr')⟩
      refine ih (m + 1) (upD d m x) acc (by omega) (trace_add hg hgx) (hc.add x) ?_ ?_
      · rw [hcan]; exact wf
      · rw [hcan]; exact h
    | true =>
      simp only [if_true] at h
      unfold opD at h
      split at h
      · rename_i fv args ats hop
        obtain ⟨v, rs, ⟨hlt, hcall⟩, hap, h⟩ := h
        let x : Dt := ⟨v, none, false, ⟨[], rs⟩⟩
        have hb : ∀ j, j < m → d j = upD d m x j := fun j hj => upD_lt hj
        have hcan : canon all (upD d m x) s0 (m + 1) = ⟨putA (canon all d s0 m).ρ all[m].dst v, (canon all d s0 m).H⟩ := canon_succ ho
        have hgx : GoodAt P G all bs s0 (upD d m x) m := by
          refine ⟨?_, ?_, ?_, ?_, ?_⟩
          · rw [upD_self, ← canon_below hb]
            intro o ho' ρ2 H2 h1 h2 h3 h4
            rw [ho] at ho'
            cases ho'
            refine .inr ⟨?_, v, rfl, .inr ⟨fv, args, ats, hop, rfl, ?_⟩⟩
            · simp only
              rw [wantA_env h1, ht]
            · have hev := evA_env (G := G) h1
              have e1 : evA G ρ2 fv = evA G (canon all d s0 m).ρ fv := hev fv (by simp [hop, Op.operands, Call.operands])
              have e2 : args.toList.map (evA G ρ2) = args.toList.map (evA G (canon all d s0 m).ρ) :=
                List.map_congr_left fun y hy => hev y (by simp only [hop, Op.operands, Call.operands]; simp; exact .inr (by simpa using hy))
              simp only
              rw [e1, e2]
              exact hcall H2 h2 (by rw [hnext, nal_below hb]; exact h4)
          · rw [upD_self]; intro k b he; cases he
          · rw [upD_self]; intro he; cases he
          · rw [upD_self, ← nal_below hb]; exact hlt
          · rw [upD_self]
            intro j hj hbit
            rw [← upD_lt hj]
            exact apart_of hc hap j hj hbit
        refine ih (m + 1) (upD d m x) _ (by omega) (trace_add hg hgx) (hc.add x) ?_ ?_
        · rw [hcan]; exact wf
        · rw [hcan]; exact h
      · obtain ⟨⟨v, H'⟩, hop, hap, h⟩ := h
        obtain ⟨e, al, hget, hnx, heff, hal, hlt, hloc⟩ := opA_local wf hop
        let x : Dt := ⟨v, e, al, fpO P G (canon all d s0 m).ρ (canon all d s0 m).H.next all[m].op⟩
        have hb : ∀ j, j < m → d j = upD d m x j := fun j hj => upD_lt hj
        have hcan : canon all (upD d m x) s0 (m + 1) = ⟨putA (canon all d s0 m).ρ all[m].dst v, H'⟩ := by
          rw [canon_succ ho]
          congr 1
          cases H'
          simp only at hget hnx
          simp only [AHeap.mk.injEq]
          refine ⟨hget.symm, ?_⟩
          rw [hnx]
          simp only [x]
          cases al <;> simp
        have hgx : GoodAt P G all bs s0 (upD d m x) m := by
          refine ⟨?_, ?_, ?_, ?_, ?_⟩
          · rw [upD_self, ← canon_below hb, ← nal_below hb]
            intro o ho' ρ2 H2 h1 h2 h3 h4
            rw [ho] at ho'
            cases ho'
            refine .inr ⟨?_, v, rfl, .inl ?_⟩
            · simp only
              rw [wantA_env h1, ht]
            · simp only
              rw [opA_env (ρ' := (canon all d s0 m).ρ) (evA_env h1)]
              exact hloc H2 h2 h3
          · rw [upD_self]; exact heff
          · rw [upD_self, ← nal_below hb]; exact hal
          · rw [upD_self, ← nal_below hb]; exact hlt
          · rw [upD_self]
            intro j hj hbit
            rw [← upD_lt hj]
            exact apart_of hc hap j hj hbit
        have wf' : WFH H' := by
          intro id b hid
          rw [hget] at hid
          rw [hnx]
          cases e with
          | none =>
            have := wf id b hid
            split <;> omega
          | some kb =>
            obtain ⟨k0, b0⟩ := kb
            simp only [effGet] at hid
            split at hid
            · rename_i hk
              subst hk
              cases al with
              | true =>
                obtain ⟨b1, hb1⟩ := hal rfl
                simp only [Option.some.injEq, Prod.mk.injEq] at hb1
                simp only [if_true]
                omega
              | false =>
                have := hlt _ ((heff id b0 rfl).2 rfl)
                simpa using this
            · have := wf id b hid
              split <;> omega
        refine ih (m + 1) (upD d m x) _ (by omega) (trace_add hg hgx) (hc.add x) ?_ ?_
        · rw [hcan]; exact wf'
        · rw [hcan]; exact h

end Go.Hx
namespace Go.Hx
variable {P : Program} {G : Nat → Option (List AVal)} {Γ Γ' : Gam} {H H' : AHeap} {w w' : World}

structure Static (all : Array Oper) (bs : List Nat) (K : Nat) : Prop where
  len : bs.length = K
  le : K ≤ all.size
  down : ∀ i o, all[i]? = some o → ∀ e, e ∈ o.after → Region.binds .any e = true → e.on < i
  just : ∀ i o j, all[i]? = some o → (if i < K then (bitAt bs i).testBit j = true else j < i) → ∃ e, e ∈ o.after ∧ Region.binds .any e = true ∧ (e.on = j ∨ (if e.on < K then (bitAt bs e.on).testBit j = true else j < e.on))
  apart : ∀ i j oi oj, i < K → j < i → all[i]? = some oi → all[j]? = some oj → (bitAt bs i).testBit j = false → apartO all oj oi = true

theorem mem_binding {o : Oper} {k : Nat} : k ∈ binding o ↔ ∃ e, e ∈ o.after ∧ Region.binds .any e = true ∧ e.on = k := by
  simp [binding, and_assoc]

theorem bitAt_app {bs : List Nat} {K N i j : Nat} (hl : bs.length = K) (hi : i < N) (hK : K ≤ N) :
    (bitAt (bs ++ (List.range' K (N - K)).map fun m => 2 ^ m - 1) i).testBit j = true ↔ (if i < K then (bitAt bs i).testBit j = true else j < i) := by
  unfold bitAt
  by_cases h : i < K
  · rw [if_pos h, List.getElem?_append_left (by omega)]
  · rw [if_neg h, List.getElem?_append_right (by omega), List.getElem?_map, List.getElem?_range' (by omega)]
    simp only [Option.map_some, Option.getD_some, Nat.testBit_two_pow_sub_one, decide_eq_true_eq]
    have : K + 1 * (i - bs.length) = i := by omega
    rw [this]

theorem drawOk_spec {all : Array Oper} {bs : List Nat} {K : Nat} (h : drawOk all bs K = true) : Static all bs K := by
  unfold drawOk at h
  simp only [Bool.and_eq_true, decide_eq_true_eq, List.all_eq_true, List.mem_range] at h
  obtain ⟨⟨⟨hlen, hle⟩, hone⟩, hap⟩ := h
  have hlt : ∀ i o, all[i]? = some o → i < all.size := fun i o ho => (Array.getElem?_eq_some_iff.1 ho).1
  have hdown : ∀ i o, all[i]? = some o → ∀ e, e ∈ o.after → Region.binds .any e = true → e.on < i := by
    intro i o ho e he hb
    have h1 := hone i (hlt i o ho)
    rw [ho] at h1
    simp only [checkOne, Bool.and_eq_true, List.all_eq_true, decide_eq_true_eq] at h1
    exact h1.1.1 e.on (mem_binding.2 ⟨e, he, hb, rfl⟩)
  refine ⟨hlen, hle, hdown, ?_, ?_⟩
  · intro i o j ho hj
    have hi := hlt i o ho
    have h1 := hone i hi
    rw [ho] at h1
    simp only [checkOne, Bool.and_eq_true, List.all_eq_true, decide_eq_true_eq, List.mem_range] at h1
    obtain ⟨⟨_, hb⟩, h2⟩ := h1
    have hbit := (bitAt_app (j := j) hlen hi hle).2 hj
    have hji : j < i := by
      rcases Nat.lt_or_ge j i with h | h
      · exact h
      · have := Nat.testBit_lt_two_pow (Nat.lt_of_lt_of_le hb (Nat.pow_le_pow_right (by omega) h))
        rw [hbit] at this
        cases this
    have h3 := h2 j hji
    rw [hbit] at h3
    simp only [Bool.not_true, Bool.false_or, List.any_eq_true, Bool.or_eq_true, beq_iff_eq] at h3
    obtain ⟨k, hk, h4⟩ := h3
    obtain ⟨e, he, hbe, rfl⟩ := mem_binding.1 hk
    refine ⟨e, he, hbe, h4.imp id fun h5 => ?_⟩
    exact (bitAt_app (j := j) hlen (Nat.lt_trans (hdown i o ho e he hbe) hi) hle).1 h5
  · intro i j oi oj hi hj hoi hoj hbit
    have h1 := hap i hi
    rw [hoi] at h1
    simp only [List.all_eq_true, List.mem_range] at h1
    have h2 := h1 j hj
    rw [hbit, hoj] at h2
    simpa using h2

theorem noDst_spec {x : Option Tmp} {l : List Tmp} {t : Tmp} (h : noDst x l = true) (hx : x = some t) : t ∉ l := by
  subst hx
  simpa [noDst] using h

theorem apartO_spec {all : Array Oper} {x y : Oper} (h : apartO all x y = true) : (∀ t, x.dst = some t → t ∉ y.looksAt all) ∧ (∀ t, y.dst = some t → t ∉ x.looksAt all) ∧ (∀ t, x.dst = some t → y.dst ≠ some t) := by
  simp only [apartO, Bool.and_eq_true] at h
  obtain ⟨⟨h1, h2⟩, h3⟩ := h
  refine ⟨fun t ht => noDst_spec h1 ht, fun t ht => noDst_spec h2 ht, fun t ht => ?_⟩
  rw [ht] at h3
  simpa using h3

def ClosedB (all : Array Oper) (L : Nat → Bool) : Prop := ∀ i o, L i = true → all[i]? = some o → ∀ e, e ∈ o.after → Region.binds .any e = true → L e.on = true

theorem Static.ahead {all : Array Oper} {bs : List Nat} {K : Nat} (S : Static all bs K) {L : Nat → Bool} (hL : ClosedB all L) : ∀ i o j, all[i]? = some o → (∀ e, e ∈ o.after → Region.binds .any e = true → L e.on = true) →
    (if i < K then (bitAt bs i).testBit j = true else j < i) → L j = true := by
  intro i
  induction i using Nat.strongRecOn with
  | _ i ih =>
    intro o j ho hdir hj
    obtain ⟨e, he, hb, h⟩ := S.just i o j ho hj
    have hon := hdir e he hb
    rcases h with rfl | h
    · exact hon
    · have hlt := S.down i o ho e he hb
      have hi := (Array.getElem?_eq_some_iff.1 ho).1
      exact ih e.on hlt all[e.on] j (Array.getElem?_eq_getElem (by omega)) (hL e.on _ hon (Array.getElem?_eq_getElem (by omega))) h

def resv (H : AHeap) (k : Nat) : AHeap := ⟨fun j => if H.next ≤ j ∧ j < H.next + k then some .rsv else H.get j, H.next + k⟩

theorem resv_evo (H : AHeap) (k : Nat) : Evo Γ H w Γ (resv H k) w where
  os := rfl
  tape := rfl
  output := rfl
  size := Nat.le_refl _
  keep := fun _ _ h => ⟨rfl, h⟩
  live := fun id h1 _ x' hx => by
    refine ⟨x', ?_, Blk.le_refl _ _ _⟩
    simp only [resv] at hx
    rw [if_neg (by omega)] at hx
    exact hx
  frz := fun _ _ => rfl

theorem drawn_evo (w : World) : Evo Γ H w Γ H { w with drawn := w.drawn + 1 } where
  os := rfl
  tape := rfl
  output := rfl
  size := Nat.le_refl _
  keep := fun _ _ h => ⟨rfl, h⟩
  live := fun _ _ _ x' hx => ⟨x', hx, Blk.le_refl _ _ _⟩
  frz := fun _ _ => rfl

theorem RelH.move (R : RelH P G Γ H w) (hheap : w'.heap = w.heap) (E : Evo Γ H w Γ H' w') (hn : H.next ≤ H'.next) (hget : ∀ id b, H'.get id = some b → H.get id = some b ∨ (b = .rsv ∧ H.get id = none ∧ id < H'.next)) (hsame : ∀ id b, H.get id = some b → H'.get id = some b) : RelH P G Γ H' w' where
  arr id g e cells hg := by
    rcases hget _ _ hg with h | h
    · have h1 := R.arr id g e cells h
      cases hΓ : Γ id with
      | none => rw [hΓ] at h1; exact h1
      | some y =>
        obtain ⟨b, base, n⟩ := y
        rw [hΓ] at h1
        obtain ⟨c, a1, a2, a3, a4⟩ := h1
        exact ⟨c, by rw [hheap]; exact a1, a2, a3, fun i hi => let ⟨cv, b1, b2⟩ := a4 i hi; ⟨cv, b1, b2.evo E hn⟩⟩
    · cases h.1
  loop id st pend n env ps asg body hg := by
    rcases hget _ _ hg with h | h
    · obtain ⟨b, rr, a1, a2, a3, a4, a5, a6, a7, a8, a9⟩ := R.loop id st pend n env ps asg body h
      exact ⟨b, rr, a1, by rw [hheap]; exact a2, a3, a4, a5, a6, a7, a8, fun t ht => (a9 t ht).evo E hn⟩
    · cases h.1
  mp id es hg := by
    rcases hget _ _ hg with h | h
    · obtain ⟨b, a1, a2⟩ := R.mp id es h
      exact ⟨b, a1, by rw [hheap]; exact a2⟩
    · cases h.1
  rsv id hg := by
    rcases hget _ _ hg with h | h
    · exact R.rsv id h
    · cases hΓ : Γ id with
      | none => rfl
      | some x =>
        obtain ⟨y, hy⟩ := R.dom id x hΓ
        rw [h.2.1] at hy
        cases hy
  inj := R.inj
  dom id x h := let ⟨y, hy⟩ := R.dom id x h; ⟨y, hsame _ _ hy⟩
  lt id b base n h := by rw [hheap]; exact R.lt id b base n h
  next id y h := by
    rcases hget _ _ h with h | h
    · exact Nat.lt_of_lt_of_le (R.next id y h) hn
    · exact h.2.2
  glob g cells h := (R.glob g cells h).evo E hn
  gsz := R.gszEvo E

theorem resv_rel (R : RelH P G Γ H w) (k : Nat) : RelH P G Γ (resv H k) w := by
  have hnone : ∀ id, H.next ≤ id → H.get id = none := by
    intro id h
    cases hg : H.get id with
    | none => rfl
    | some y => have := R.next id y hg; omega
  refine R.move rfl (resv_evo H k) (by simp [resv]) (fun id b hb => ?_) (fun id b hb => ?_)
  · simp only [resv] at hb
    split at hb
    · rename_i hc
      simp only [Option.some.injEq] at hb
      exact .inr ⟨hb.symm, hnone id hc.1, hc.2⟩
    · exact .inl hb
  · simp only [resv]
    rw [if_neg]
    · exact hb
    · have := R.next id b hb; omega

theorem RelS.move {n : Nat} {wb : Base} {s : St} {a : Act} (hs : RelS P G n wb Γ s a w) {H' : AHeap} (E : Evo Γ s.H w Γ H' w') (hn : s.H.next ≤ H'.next) (R : RelH P G Γ H' w') : RelS P G n wb Γ ⟨s.ρ, H'⟩ a w' :=
  ⟨hs.size, fun t => (hs.env t).evo E hn, R, hs.defers.evo E, Nat.le_trans hs.low E.size⟩

theorem RdOk.move {rd rb : Option Nat} (h : RdOk Γ H rd rb) (hk : ∀ id b, H.get id = some b → H'.get id = some b) : RdOk Γ H' rd rb := by
  cases rd with
  | none => exact h
  | some id =>
    obtain ⟨b, st, pend, n, env, ps, asg, body, h1, h2, h3⟩ := h
    exact ⟨b, _, _, _, _, _, _, _, h1, h2, hk _ _ h3⟩

def stD (all : Array Oper) (d : Nat → Dt) (s0 : St) (K : Nat) (D : Nat → Bool) : St :=
  ⟨envAt all d s0.ρ K D, ⟨getAt d (resv s0.H (nal d K)).get K D, s0.H.next + nal d K⟩⟩

theorem dst_of {all : Array Oper} {j : Nat} {o : Oper} (h : all[j]? = some o) : dstAt all j = o.dst := by simp [dstAt, h]

theorem step_D {all : Array Oper} {bs : List Nat} {K : Nat} (S : Static all bs K) {d : Nat → Dt} {s0 : St} (hg : ∀ i, i < K → GoodAt P G all bs s0 d i) {D : Nat → Bool} {i : Nat} {o : Oper} (hi : i < K) (ho : all[i]? = some o) (hDi : D i = false)
    (hdown : ∀ j, j < i → (bitAt bs i).testBit j = true → D j = true) (hup : ∀ j, i < j → j < K → D j = true → (bitAt bs j).testBit i = false) :
    ExecOk P G all o (s0.H.next + nal d i) (stD all d s0 K D) (stD all d s0 K (withI D i)) := by
  have hget : ∀ j, j < K → ∃ oj, all[j]? = some oj := fun j hj => ⟨_, Array.getElem?_eq_getElem (Nat.lt_of_lt_of_le hj S.le)⟩
  have hgi := hg i hi
  have tgtE : ∀ j r, j < K → tgt (d j) = some r → r ∈ (d j).f.eff ∧ (((d j).al = true ∧ r = s0.H.next + nal d j) ∨ ((d j).al = false ∧ r ∈ (d j).f.rs)) := by
    intro j r hj ht
    unfold tgt at ht
    cases he : (d j).e with
    | none => rw [he] at ht; cases ht
    | some kb =>
      obtain ⟨k, b⟩ := kb
      rw [he] at ht
      simp only [Option.map_some, Option.some.injEq] at ht
      subst ht
      obtain ⟨h1, h2⟩ := (hg j hj).eff k b he
      refine ⟨h1, ?_⟩
      cases hal : (d j).al with
      | true =>
        obtain ⟨b', hb'⟩ := (hg j hj).al hal
        rw [he] at hb'
        simp only [Option.some.injEq, Prod.mk.injEq] at hb'
        exact .inl ⟨rfl, hb'.1⟩
      | false => exact .inr ⟨rfl, h2 hal⟩
  have rangeK : ∀ r, r < s0.H.next + nal d i → ((resv s0.H (nal d K)).get r = s0.H.get r ∨ ∃ j, j < i ∧ (fun _ : Nat => true) j = true ∧ tgt (d j) = some r) := by
    intro r hr
    by_cases h : s0.H.next ≤ r
    · obtain ⟨j, h1, h2, h3⟩ := nal_hit (d := d) (n := i) (c := r - s0.H.next) (by omega)
      obtain ⟨b, hb⟩ := (hg j (by omega)).al h2
      refine .inr ⟨j, h1, rfl, ?_⟩
      unfold tgt
      rw [hb, h3]
      simp only [Option.map_some, Option.some.injEq]
      omega
    · left
      simp only [resv]
      rw [if_neg (by omega)]
  have henv : ∀ t, t ∈ o.looksAt all → envAt all d s0.ρ K D t = (canon all d s0 i).ρ t := by
    intro t ht
    show _ = envAt all d s0.ρ i (fun _ => true) t
    rw [← envAt_cut (all := all) (d := d) (ρ0 := s0.ρ) (m := i) (n := K) (by omega)]
    refine envAt_agree fun j hj hdj => ?_
    obtain ⟨oj, hoj⟩ := hget j hj
    rw [dst_of hoj] at hdj
    rcases Nat.lt_trichotomy j i with h | rfl | h
    · cases hb : (bitAt bs i).testBit j with
      | true => rw [hdown j h hb]; simp [h]
      | false => exact absurd ht ((apartO_spec (S.apart i j o oj hi h ho hoj hb)).1 t hdj)
    · rw [hDi]; simp
    · cases hD : D j with
      | false => symm; simp; omega
      | true => exact absurd ht ((apartO_spec (S.apart j i oj o hj h hoj ho (hup j h hj hD))).2.1 t hdj)
  have hheap : ∀ r, r ∈ (d i).f.rs → getAt d (resv s0.H (nal d K)).get K D r = (canon all d s0 i).H.get r := by
    intro r hr
    show _ = getAt d s0.H.get i (fun _ => true) r
    rw [← getAt_base (g0 := (resv s0.H (nal d K)).get) (rangeK r (hgi.lt r hr)), ← getAt_cut (m := i) (n := K) (by omega)]
    refine getAt_agree fun j hj ht => ?_
    obtain ⟨he, _⟩ := tgtE j r hj ht
    rcases Nat.lt_trichotomy j i with h | rfl | h
    · cases hb : (bitAt bs i).testBit j with
      | true => rw [hdown j h hb]; simp [h]
      | false => exact absurd hr ((hgi.apart j h hb).2 r he)
    · rw [hDi]; simp
    · cases hD : D j with
      | false => symm; simp; omega
      | true => exact absurd hr (((hg j hj).apart i h (hup j h hj hD)).1 r he)
  have hal : (d i).al = true → getAt d (resv s0.H (nal d K)).get K D (s0.H.next + nal d i) = some .rsv ∧ s0.H.next + nal d i ≠ s0.H.next + nal d K := by
    intro hal
    have hlt := nal_lt hi hal
    refine ⟨?_, by omega⟩
    obtain ⟨b, hb⟩ := hgi.al hal
    have heff := (hgi.eff _ _ hb).1
    rw [getAt_none]
    · simp only [resv]
      rw [if_pos (by omega)]
    · intro j hj hD ht
      obtain ⟨h1, h2⟩ := tgtE j _ hj ht
      rcases Nat.lt_trichotomy j i with h | rfl | h
      · rcases h2 with ⟨h2, h3⟩ | ⟨h2, h3⟩
        · have := nal_lt h h2; omega
        · have := (hg j hj).lt _ h3
          have := nal_mono (d := d) (Nat.le_of_lt h)
          omega
      · rw [hDi] at hD; cases hD
      · rcases h2 with ⟨h2, h3⟩ | ⟨h2, h3⟩
        · have := nal_lt h hal; omega
        · exact absurd h3 (((hg j hj).apart i h (hup j h hj hD)).2 _ heff)
  have := hgi.step o ho (envAt all d s0.ρ K D) ⟨getAt d (resv s0.H (nal d K)).get K D, s0.H.next + nal d K⟩ henv hheap hal (by have := nal_mono (d := d) (Nat.le_of_lt hi); simp only; omega)
  have e1 : envAt all d s0.ρ K (withI D i) = putA (envAt all d s0.ρ K D) o.dst (d i).v := by
    rw [envAt_with hDi hi, dst_of ho]
    intro j h hj hD t hti
    obtain ⟨oj, hoj⟩ := hget j hj
    rw [dst_of ho] at hti
    rw [dst_of hoj]
    exact (apartO_spec (S.apart j i oj o hj h hoj ho (hup j h hj hD))).2.2 t hti
  have e2 : getAt d (resv s0.H (nal d K)).get K (withI D i) = effGet (d i).e (getAt d (resv s0.H (nal d K)).get K D) := by
    refine getAt_with hDi hi fun j h hj hD r hti htj => ?_
    obtain ⟨a1, a2⟩ := tgtE i r hi hti
    obtain ⟨b1, b2⟩ := tgtE j r hj htj
    obtain ⟨c1, c2⟩ := (hg j hj).apart i h (hup j h hj hD)
    rcases b2 with ⟨b2, b3⟩ | ⟨b2, b3⟩
    · rcases a2 with ⟨a2, a3⟩ | ⟨a2, a3⟩
      · have := nal_lt h a2; omega
      · exact c1 r b1 a3
    · exact c2 r a1 b3
  unfold stD
  rw [e1, e2]
  exact this

theorem stD_all {all : Array Oper} {bs : List Nat} {K : Nat} {d : Nat → Dt} {s0 : St} (hg : ∀ i, i < K → GoodAt P G all bs s0 d i) {D : Nat → Bool} (hD : ∀ j, j < K → D j = true) : stD all d s0 K D = canon all d s0 K := by
  unfold stD canon canonH
  have e1 : envAt all d s0.ρ K D = envAt all d s0.ρ K fun _ => true := funext fun t => envAt_agree fun j hj _ => hD j hj
  have e2 : getAt d (resv s0.H (nal d K)).get K D = getAt d s0.H.get K fun _ => true := by
    funext r
    rw [getAt_agree (D' := fun _ => true) fun j hj _ => hD j hj]
    refine getAt_base ?_
    by_cases h : s0.H.next ≤ r ∧ r < s0.H.next + nal d K
    · obtain ⟨j, h1, h2, h3⟩ := nal_hit (d := d) (n := K) (c := r - s0.H.next) (by omega)
      obtain ⟨b, hb⟩ := (hg j h1).al h2
      refine .inr ⟨j, h1, rfl, ?_⟩
      unfold tgt
      rw [hb, h3]
      simp only [Option.map_some, Option.some.injEq]
      omega
    · left
      simp only [resv]
      rw [if_neg h]
  rw [e1, e2]

theorem stD_none {all : Array Oper} {K : Nat} {d : Nat → Dt} {s0 : St} {D : Nat → Bool} (hD : ∀ j, j < K → D j = false) : stD all d s0 K D = ⟨s0.ρ, resv s0.H (nal d K)⟩ := by
  unfold stD
  have e1 : ∀ n, n ≤ K → envAt all d s0.ρ n D = s0.ρ := by
    intro n
    induction n with
    | zero => intro _; rfl
    | succ n ih => intro h; simp only [envAt]; rw [if_neg (by simp [hD n h])]; exact ih (by omega)
  have e2 : ∀ n, n ≤ K → getAt d (resv s0.H (nal d K)).get n D = (resv s0.H (nal d K)).get := by
    intro n
    induction n with
    | zero => intro _; rfl
    | succ n ih => intro h; simp only [getAt]; rw [if_neg (by simp [hD n h])]; exact ih (by omega)
  rw [e1 K (Nat.le_refl _), e2 K (Nat.le_refl _)]
  rfl

end Go.Hx
namespace Go.Hx
variable {P : Program} {G : Nat → Option (List AVal)} {Γ Γ' : Gam} {H H' : AHeap} {w w' : World}

def cnt (listed : Array Bool) : Nat → Nat
  | 0 => 0
  | n + 1 => cnt listed n + (if listed.getD n true = false then 1 else 0)

theorem cnt_set {listed : Array Bool} {i : Nat} (hi : listed.getD i true = false) : ∀ n, cnt (listed.setIfInBounds i true) n + (if i < n then 1 else 0) = cnt listed n := by
  have hsz : i < listed.size := by
    rcases Nat.lt_or_ge i listed.size with h | h
    · exact h
    · rw [Array.getD_eq_getD_getElem?, Array.getElem?_eq_none h] at hi; cases hi
  intro n
  induction n with
  | zero => simp [cnt]
  | succ n ih =>
    simp only [cnt]
    by_cases hin : n = i
    · subst hin
      have : (listed.setIfInBounds n true).getD n true = true := by simp [hsz]
      have h2 : (if n < n then 1 else 0) = 0 := if_neg (Nat.lt_irrefl n)
      have h3 : (if n < n + 1 then 1 else 0) = 1 := if_pos (Nat.lt_succ_self n)
      rw [h2] at ih
      rw [this, h3, hi]
      simp
      omega
    · rw [getD_set_ne true (Ne.symm hin)]
      have h4 : (if i < n + 1 then 1 else 0) = (if i < n then 1 else 0) := by
        by_cases h : i < n
        · rw [if_pos h, if_pos (show i < n + 1 by omega)]
        · rw [if_neg h, if_neg (show ¬ i < n + 1 by omega)]
      rw [h4]
      generalize (if i < n then 1 else 0) = x at ih ⊢
      omega

theorem cnt_zero {listed : Array Bool} {n : Nat} (h : cnt listed n = 0) : ∀ j, j < n → listed.getD j true = true := by
  induction n with
  | zero => intro j hj; omega
  | succ n ih =>
    simp only [cnt] at h
    intro j hj
    by_cases hjn : j = n
    · subst hjn
      cases hl : listed.getD j true with
      | true => rfl
      | false => rw [hl] at h; simp at h
    · exact ih (by omega) j (by omega)

theorem cnt_full {n : Nat} : ∀ m, m ≤ n → cnt (Array.replicate n false) m = m := by
  intro m
  induction m with
  | zero => intro _; rfl
  | succ m ih =>
    intro h
    simp only [cnt]
    rw [ih (by omega), if_pos]
    rw [Array.getD_eq_getD_getElem?, Array.getElem?_replicate, if_pos (by omega)]
    rfl

theorem getD_in {listed : Array Bool} {i : Nat} (h : i < listed.size) (x y : Bool) : listed.getD i x = listed.getD i y := by
  simp [Array.getD_eq_getD_getElem?, Array.getElem?_eq_getElem h]

section
variable {n : Nat} {wb : Base} {rd rb : Option Nat} {Q : AX → St → Prop} {all : Array Oper} {bs : List Nat} {K : Nat} {id : Nat} {dr : Bool}

theorem tail_go (S : Static all bs K) (hfit : ∀ o, o ∈ all.toList → dstOk n o = true) : ∀ (r m : Nat) (listed : Array Bool) (s : St) (Γ : Gam) (a : Act) (w : World), r + m = all.size → K ≤ m → listed.size = all.size → cnt listed all.size = r →
    (∀ j, j < all.size → (listed.getD j true = true ↔ j < m)) → opsV P G rd Q all (all.toList.drop m) s → RelS P G n wb Γ s a w → RdOk Γ s.H rd rb →
    ∀ (Q' : Exit → Act → World → Prop), (∀ e a' w', WPost P G n wb rd rb (wr (.region id all dr)) Γ s.H a w Q e a' w' → Q' e a' w') → wpAnyIn (fenceOf rb) 0 P .any all Q' r listed a w := by
  intro r
  induction r with
  | zero =>
    intro m listed s Γ a w hm hKm hsz hc hl h hs hr Q' hq
    have : all.toList.drop m = [] := List.drop_eq_nil_of_le (by simp; omega)
    rw [this] at h
    refine ⟨?_, hq _ _ _ (.here (x := .normal) trivial h hs hr)⟩
    rw [List.eq_nil_iff_forall_not_mem]
    intro j hj
    obtain ⟨h1, o, ho, _⟩ := mem_ready.1 hj
    have hjs := (Array.getElem?_eq_some_iff.1 ho).1
    rw [(hl j hjs).2 (by omega)] at h1
    cases h1
  | succ r ih =>
    intro m listed s Γ a w hm hKm hsz hc hl h hs hr Q' hq
    have hms : m < all.size := by omega
    have ho : all[m]? = some all[m] := Array.getElem?_eq_getElem hms
    have hmun : listed.getD m true = false := by
      cases hx : listed.getD m true with
      | false => rfl
      | true => have := (hl m hms).1 hx; omega
    have hready : m ∈ Region.ready .any all listed := by
      refine mem_ready.2 ⟨hmun, _, ho, fun e he hb => ?_⟩
      have := S.down m _ ho e he hb
      rw [getD_in (by omega) false true]
      exact (hl e.on (by omega)).2 this
    refine ⟨fun h0 => (by rw [h0] at hready; cases hready), fun i hi => ?_⟩
    obtain ⟨hiun, oi, hoi, hall⟩ := mem_ready.1 hi
    have his := (Array.getElem?_eq_some_iff.1 hoi).1
    have him : m ≤ i := by
      rcases Nat.lt_or_ge i m with h | h
      · rw [(hl i his).2 h] at hiun; cases hiun
      · exact h
    have hL : ClosedB all fun j => listed.getD j false := by
      intro k ok hk hok e he hb
      have hks := (Array.getElem?_eq_some_iff.1 hok).1
      have h1 := S.down k ok hok e he hb
      simp only at hk ⊢
      rw [getD_in (by omega) false true] at hk ⊢
      have := (hl k hks).1 hk
      exact (hl _ (by omega)).2 (by omega)
    have hieq : i = m := by
      rcases Nat.lt_or_ge m i with h | h
      · have h1 := S.ahead hL i oi m hoi hall (by rw [if_neg (by omega)]; exact h)
        rw [getD_in (by omega) false true, hmun] at h1
        cases h1
      · omega
    subst hieq
    have hlist : all.toList.drop i = all[i] :: all.toList.drop (i + 1) := by
      rw [List.drop_eq_getElem_cons (by simpa using hms)]
      simp
    rw [hlist] at h
    simp only [opsV] at h
    have hl' : ∀ j, j < all.size → ((listed.setIfInBounds i true).getD j true = true ↔ j < i + 1) := by
      intro j hj
      by_cases hji : j = i
      · subst hji
        simp
      · rw [getD_set_ne true (Ne.symm hji), hl j hj]
        omega
    have hc' : cnt (listed.setIfInBounds i true) all.size = r := by
      have := cnt_set hmun all.size
      rw [if_pos hms] at this
      omega
    have hd := hfit all[i] (by simp)
    obtain ⟨t, ht, h⟩ := h
    unfold wpOpIn
    rw [ho]
    simp only
    rw [want_sound hs ht]
    cases t with
    | true =>
      simp only [if_true] at h ⊢
      refine opV_sound hd hs hr h ?_ ?_
      · rintro Γ' s' a' w' hk hs' E hn hr' ⟨cv, rfl⟩
        exact ih (i + 1) _ s' Γ' _ w' (by omega) (by omega) (by simpa using hsz) hc' hl' hk hs' hr' Q' fun e a'' w'' hp => hq _ _ _ (hp.step E hn (put_fr hms cv) fun _ h => h)
      · rintro Γ' s' a' w' chain hp hc hs' E hn hr' rfl
        exact hq _ _ _ ⟨.panic, s', Γ', hc, hp, hs', E, hn, hr', .refl _ _⟩
    | false =>
      simp only [Bool.false_eq_true, if_false] at h ⊢
      refine ⟨fun _ _ => trivial, ?_⟩
      have hdst : ∀ d, all[i].dst = some d → d < n := by
        intro d hd'
        unfold dstOk at hd
        rw [hd'] at hd
        simpa using hd
      have hs' := put_rel (v := .lit undef) (cv := undef) hs hdst (Evo.refl Γ s.H w) (Nat.le_refl _) hs.heap (.lit _)
      exact ih (i + 1) _ ⟨putA s.ρ all[i].dst (.lit undef), s.H⟩ Γ _ w (by omega) (by omega) (by simpa using hsz) hc' hl' h hs' hr Q' fun e a'' w'' hp => hq _ _ _ (hp.step (Evo.refl _ _ _) (Nat.le_refl _) (put_fr hms _) fun _ h => h)

theorem draw_go (S : Static all bs K) (hfit : ∀ o, o ∈ all.toList → dstOk n o = true) {d : Nat → Dt} {s0 : St} (hg : ∀ i, i < K → GoodAt P G all bs s0 d i) (htail : opsV P G rd Q all (all.toList.drop K) (canon all d s0 K)) :
    ∀ (r : Nat) (listed : Array Bool) (D : Nat → Bool) (Γ : Gam) (a : Act) (w : World), listed.size = all.size → cnt listed all.size = r → (∀ j, j < all.size → listed.getD j true = D j) → (∀ j, D j = true → j < K) → ClosedB all D →
    RelS P G n wb Γ (stD all d s0 K D) a w → RdOk Γ (stD all d s0 K D).H rd rb →
    ∀ (Q' : Exit → Act → World → Prop), (∀ e a' w', WPost P G n wb rd rb (wr (.region id all dr)) Γ (stD all d s0 K D).H a w Q e a' w' → Q' e a' w') → wpAnyIn (fenceOf rb) 0 P .any all Q' r listed a w := by
  intro r
  induction r with
  | zero =>
    intro listed D Γ a w hsz hc hl hlow hL hs hr Q' hq
    have hall : ∀ j, j < K → D j = true := fun j hj => by rw [← hl j (Nat.lt_of_lt_of_le hj S.le)]; exact cnt_zero hc j (Nat.lt_of_lt_of_le hj S.le)
    have hKs : K = all.size := by
      rcases Nat.lt_or_ge K all.size with h | h
      · have h1 := cnt_zero hc K h
        rw [hl K h] at h1
        have := hlow K h1
        omega
      · have := S.le; omega
    rw [stD_all hg hall] at hs hr hq
    exact tail_go S hfit 0 K listed _ Γ a w (by omega) (Nat.le_refl _) hsz hc (fun j hj => by rw [hl j hj]; exact ⟨hlow j, hall j⟩) htail hs hr Q' hq
  | succ r ih =>
    intro listed D Γ a w hsz hc hl hlow hL hs hr Q' hq
    by_cases hall : ∀ j, j < K → D j = true
    · rw [stD_all hg hall] at hs hr hq
      have hcount : ∀ m, m ≤ all.size → cnt listed m = m - K := by
        intro m
        induction m with
        | zero => intro _; simp [cnt]
        | succ m ihm =>
          intro hm
          simp only [cnt]
          rw [ihm (by omega), hl m (by omega)]
          by_cases hmK : m < K
          · rw [hall m hmK]; simp; omega
          · have : D m = false := by
              cases hD : D m with
              | false => rfl
              | true => exact absurd (hlow m hD) hmK
            rw [this]
            simp
            omega
      have h1 := hcount all.size (Nat.le_refl _)
      exact tail_go S hfit (r + 1) K listed _ Γ a w (by have := S.le; omega) (Nat.le_refl _) hsz hc (fun j hj => by rw [hl j hj]; exact ⟨hlow j, hall j⟩) htail hs hr Q' hq
    · have hex : ∃ j, j < K ∧ D j = false := by
        by_cases h : ∃ j, j < K ∧ D j = false
        · exact h
        · refine absurd (fun j hj => ?_) hall
          cases hD : D j with
          | true => rfl
          | false => exact absurd ⟨j, hj, hD⟩ h
      have least : ∀ k, (∃ j, j < k ∧ j < K ∧ D j = false) → ∃ j, j < K ∧ D j = false ∧ ∀ i, i < j → D i = true := by
        intro k
        induction k with
        | zero => rintro ⟨j, hj, _⟩; omega
        | succ k ihk =>
          rintro ⟨j, h1, h2, h3⟩
          by_cases h : ∃ j, j < k ∧ j < K ∧ D j = false
          · exact ihk h
          · refine ⟨j, h2, h3, fun i hi => ?_⟩
            cases hD : D i with
            | true => rfl
            | false => exact absurd ⟨i, by omega, by omega, hD⟩ h
      obtain ⟨j0, hj0K, hj0, hbelow⟩ := least K (let ⟨j, h1, h2⟩ := hex; ⟨j, h1, h1, h2⟩)
      have hj0s : j0 < all.size := Nat.lt_of_lt_of_le hj0K S.le
      have hr0 : j0 ∈ Region.ready .any all listed := by
        refine mem_ready.2 ⟨by rw [hl j0 hj0s]; exact hj0, _, Array.getElem?_eq_getElem hj0s, fun e he hb => ?_⟩
        have hlt := S.down j0 _ (Array.getElem?_eq_getElem hj0s) e he hb
        rw [getD_in (by omega) false true, hl e.on (by omega)]
        exact hbelow _ hlt
      refine ⟨fun h0 => (by rw [h0] at hr0; cases hr0), fun i hi => ?_⟩
      obtain ⟨hiun, oi, hoi, hdir⟩ := mem_ready.1 hi
      have his := (Array.getElem?_eq_some_iff.1 hoi).1
      have hdirD : ∀ e, e ∈ oi.after → Region.binds .any e = true → D e.on = true := fun e he hb => by
        have := S.down i oi hoi e he hb
        rw [← hl e.on (by omega), ← getD_in (by omega) false true]
        exact hdir e he hb
      have hahead := S.ahead hL i oi
      have hiK : i < K := by
        rcases Nat.lt_or_ge i K with h | h
        · exact h
        · have := hahead j0 hoi hdirD (by rw [if_neg (by omega)]; omega)
          rw [hj0] at this; cases this
      have hDi : D i = false := by rw [← hl i his]; exact hiun
      have hex := step_D (P := P) (G := G) S hg hiK hoi hDi (fun j hj hb => hahead j hoi hdirD (by rw [if_pos hiK]; exact hb)) (fun j h1 h2 hD => by
        cases hb : (bitAt bs j).testBit i with
        | false => rfl
        | true =>
          have hjs : j < all.size := Nat.lt_of_lt_of_le h2 S.le
          have := S.ahead hL j _ i (Array.getElem?_eq_getElem hjs) (fun e he hbe => hL j _ hD (Array.getElem?_eq_getElem hjs) e he hbe) (by rw [if_pos h2]; exact hb)
          rw [hDi] at this; cases this)
      have hoi' : oi = all[i] := by
        rw [Array.getElem?_eq_getElem his] at hoi
        exact (Option.some.inj hoi).symm
      refine execOk_sound hoi (hfit oi (by rw [hoi']; simp)) hs hr hex ?_
      rintro Γ' a' w' hs' E hn hr' ⟨cv, rfl⟩
      have hc' : cnt (listed.setIfInBounds i true) all.size = r := by
        have := cnt_set hiun all.size
        rw [if_pos his] at this
        omega
      refine ih (listed.setIfInBounds i true) (withI D i) Γ' _ w' (by simpa using hsz) hc' ?_ ?_ ?_ hs' hr' Q' fun e a'' w'' hp => hq _ _ _ (hp.step E hn (by rw [hoi']; exact put_fr his cv) fun _ h => h)
      · intro j hj
        by_cases hji : j = i
        · subst hji; simp [withI]
        · rw [getD_set_ne true (Ne.symm hji), hl j hj]; simp [withI, hji]
      · intro j hj
        by_cases hji : j = i
        · subst hji; exact hiK
        · simp only [withI, if_neg hji] at hj; exact hlow j hj
      · intro k ok hk hok e he hb
        by_cases hki : k = i
        · subst hki
          rw [hoi] at hok
          cases hok
          have := hdirD e he hb
          simp only [withI]
          split
          · rfl
          · exact this
        · simp only [withI, if_neg hki] at hk
          have := hL k ok hk hok e he hb
          simp only [withI]
          split
          · rfl
          · exact this

theorem W.draw {s : St} (K : Nat) (bs : List Nat) (hm : P.follows .mixedOrders = true) (hfit : all.toList.all (dstOk n) = true) (hst : drawOk all bs K = true)
    (h : opsD P G all (opsV P G rd Q all (all.toList.drop K)) bs 0 [] (all.toList.take K) s) : W P G n rd (.region id all true) Q s := by
  intro wb Γ a w rb hs hr
  have S := drawOk_spec hst
  have hfit' : ∀ o, o ∈ all.toList → dstOk n o = true := fun o ho => List.all_eq_true.1 hfit o ho
  have wf : WFH s.H := fun id b hb => hs.heap.next id b hb
  have hcan0 : canon all (fun _ => ⟨.lit undef, none, false, ⟨[], []⟩⟩) s 0 = s := rfl
  obtain ⟨d, hg, htail⟩ := trace (P := P) (G := G) (all := all) (bs := bs) (s0 := s) (tail := opsV P G rd Q all (all.toList.drop K)) S.len S.le K 0 (fun _ => ⟨.lit undef, none, false, ⟨[], []⟩⟩) [] (by omega)
    (fun i hi => by omega) (fun j hj => by omega) (by rw [hcan0]; exact wf) (by rw [hcan0]; exact h)
  refine wpIn_region_any hm ?_
  let w1 : World := { w with drawn := w.drawn + 1 }
  have R1 : RelH P G Γ s.H w1 := hs.heap.move rfl (drawn_evo w) (Nat.le_refl _) (fun id b hb => .inl hb) fun id b hb => hb
  have hs1 : RelS P G n wb Γ s a w1 := hs.move (drawn_evo w) (Nat.le_refl _) R1
  have hs2 : RelS P G n wb Γ ⟨s.ρ, resv s.H (nal d K)⟩ a w1 := hs1.move (resv_evo _ _) (by simp [resv]) (resv_rel R1 _)
  have hr2 : RdOk Γ (resv s.H (nal d K)) rd rb := hr.move fun id b hb => by
    simp only [resv]
    rw [if_neg]
    · exact hb
    · have := hs.heap.next id b hb; omega
  have e0 : stD all d s K (fun _ => false) = ⟨s.ρ, resv s.H (nal d K)⟩ := stD_none fun _ _ => rfl
  refine draw_go (wb := wb) (id := id) (dr := true) S hfit' hg htail all.size _ (fun _ => false) Γ a w1 (by simp) (cnt_full _ (Nat.le_refl _)) ?_ ?_ ?_ ?_ ?_ _ ?_
  · intro j hj
    rw [Array.getD_eq_getD_getElem?, Array.getElem?_replicate, if_pos hj]
    rfl
  · intro j hj; cases hj
  · intro i o hi; cases hi
  · rw [e0]; exact hs2
  · rw [e0]; exact hr2
  · rw [e0]
    intro e a' w' hp
    refine hp.step ?_ (by simp [resv]) (.refl _ _) fun _ h => h
    exact Evo.trans (drawn_evo w) (Nat.le_refl _) (resv_evo _ _)

end

end Go.Hx
