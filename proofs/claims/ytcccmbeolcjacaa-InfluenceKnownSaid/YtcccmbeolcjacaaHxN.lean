/-
  Regions, pieces of code and functions: the formula is right. Own work: no program stands in this text.
-/
import Derived.Test.YtcccmbeolcjacaaHxM
namespace Go.Hx
variable {P : Program} {G : Nat → Option (List AVal)} {Γ Γ' : Gam} {H H' : AHeap} {w w' : World}

theorem vec_rel {n : Nat} {cells : List AVal} {cx : Value} (hx : RelV P Γ H w (.vec n cells) cx) : ∃ a m c, cx = .slice a m c ∧ (decide (0 < n) = true → a.isNone = false) := by
  cases hx with
  | vec0 a cap => exact ⟨a, 0, cap, rfl, fun hk => by simp at hk⟩
  | vec => exact ⟨_, _, _, rfl, fun _ => rfl⟩

theorem nilOf_rel {op : BinOp} {x y : AVal} {k : Bool} {cx cy : Value} (h : nilOf op x y = some k) (hx : RelV P Γ H w x cx) (hy : RelV P Γ H w y cy) :
    (op = .eql ∨ op = .neq) ∧ cy = .slice none 0 0 ∧ ∃ a n c, cx = .slice a n c ∧ (k = true → a.isNone = false) := by
  unfold nilOf at h
  split at h
  · cases hy
    split at h
    · simp only [Option.some.injEq] at h
      rw [← h]
      exact ⟨.inl rfl, rfl, vec_rel hx⟩
    · cases h
  · cases hy
    split at h
    · simp only [Option.some.injEq] at h
      rw [← h]
      exact ⟨.inr rfl, rfl, vec_rel hx⟩
    · cases h
  · cases h

theorem run_equal_nil {t : TypeId} (ht : sliceT (P.underlying t) = true) (a : Option Addr) (n c : Nat) : (Op.equal t (.slice a n c) (.slice none 0 0)).run P w = .ok a.isNone w := by
  unfold sliceT at ht
  split at ht
  · rename_i e he
    show (Op.equalIn (9999 + 1) t (.slice a n c) (.slice none 0 0)).run P w = _
    unfold Op.equalIn
    rw [run_bind_ok (run_und he)]
    cases a <;> rfl
  · cases ht

section
variable {n wb : Nat} {rd rb : Option Nat} {Q : AX → St → Prop}

/-- One operation. -/
theorem opV_sound {o : Oper} {K : St → Prop} {s : St} {a : Act} {next : Act → World → Prop} {Q' : Exit → Act → World → Prop} (hd : dstOk n o = true) (hs : RelS P G n wb Γ s a w) (hr : RdOk Γ s.H rd rb) (h : opV P G rd Q o K s)
    (hnext : ∀ Γ' s' a' w', K s' → RelS P G n wb Γ' s' a' w' → Evo Γ s.H w Γ' s'.H w' → s.H.next ≤ s'.H.next → RdOk Γ' s'.H rd rb → (∃ cv, a' = a.put o.dst cv) → next a' w')
    (hq : ∀ Γ' s' a' w' chain, Q .panic s' → ChainOk chain → RelS P G n wb Γ' s' a' w' → Evo Γ s.H w Γ' s'.H w' → s.H.next ≤ s'.H.next → RdOk Γ' s'.H rd rb → a' = a → Q' (.panic chain) a' w') :
    o.wpIn (fenceOf rb) 0 P a w next Q' := by
  have hdst : ∀ d, o.dst = some d → d < n := by
    intro d hd'
    unfold dstOk at hd
    rw [hd'] at hd
    simpa using hd
  have plain : ∀ vH : AVal × AHeap, opA P G s.ρ s.H s.H.next o.op = some vH → K ⟨putA s.ρ o.dst vH.1, vH.2⟩ → o.wpIn (fenceOf rb) 0 P a w next Q' := by
    rintro ⟨v, H'⟩ hop hk
    refine ⟨fun _ _ => trivial, ?_⟩
    rw [Oper.semAt_eq _ _ _ (fun c hc => by rw [hc] at hop; simp [opA] at hop)]
    obtain ⟨nx, cv, Γ', w', hrun, hnx, E, hn, R, hv⟩ := opA_sound hs.heap (eval_rel hs) hop
    rw [hrun]
    have hri := rdIn_of_live hr (opA_loops hs.heap hop)
    have hs' := put_rel hs hdst E hn R hv
    have hr' := hr.evo E hn hs.heap hri
    rcases hnx with rfl | ⟨rfl, rfl⟩
    · exact hnext Γ' _ _ w' hk hs' E hn hr' ⟨_, rfl⟩
    · exact hnext Γ' _ _ w' hk hs' E hn hr' ⟨_, rfl⟩
  unfold opV at h
  split at h
  · rename_i fv args ats hop
    refine ⟨fun _ _ => trivial, ?_⟩
    rw [Oper.semAt_eq _ _ _ (fun c hc => by rw [hc] at hop; cases hop)]
    obtain ⟨d, h1, h2⟩ := h Γ w (a.eval fv) (args.map a.eval) hs.heap (eval_rel hs fv) ⟨by simp, fun i h1 h2 => by simp only [List.getElem_map, Array.getElem_map, Array.getElem_toList]; exact eval_rel hs _⟩
    have hex : (execOp a.eval o).run P w = (invoke d.target d.args).run P w := by
      unfold execOp
      simp only [hop]
      unfold resolve
      simp only
      rw [run_bind_ok h1]
    have cont : ∀ e w', CPost P G Γ s.H w (fun r H' => RdIn H' rd ∧ match r with
        | .ret v => K ⟨putA s.ρ o.dst v, H'⟩
        | .panic => Q .panic ⟨s.ρ, H'⟩) e w' → (match e with
          | .returned v => next (a.put o.dst v) w'
          | .panicked chain => Q' (.panic chain) a w'
          | .outgrown => LetsOut Q') := by
      rintro e w' ⟨r, H', Γ', hend, ⟨hri, hk⟩, R, E, hn⟩
      have hr' := hr.evo E hn hs.heap hri
      cases e with
      | returned cv =>
        cases r with
        | ret v => exact hnext Γ' _ _ w' hk (put_rel hs hdst E hn R hend) E hn hr' ⟨_, rfl⟩
        | panic => exact hend.elim
      | panicked chain =>
        cases r with
        | ret v => exact hend.elim
        | panic =>
          exact hq Γ' ⟨s.ρ, H'⟩ a w' chain hk hend ⟨hs.size, fun t => (hs.env t).evo E hn, R, fun d h => let ⟨r, h1, h2, h3⟩ := hs.defers d h; ⟨r, h1, h2, h3.evo E⟩, hs.nodup, Nat.le_trans hs.low E.size⟩ E hn hr' rfl
      | outgrown => cases r <;> exact hend.elim
    rw [hex]
    rcases h2 with ⟨f, as, h3, h4⟩ | ⟨l, f, tm, asg, body, h3, h4⟩
    · rw [h3]
      refine ⟨fun hc => by simp [Fence.wide] at hc, ?_⟩
      have h4' : CallsIn (fenceOf rb) 0 P f as w _ := h4
      refine h4'.mono ?_
      intro e w' hp
      have := cont e w' hp
      cases e <;> exact this
    · rw [h3]
      refine ⟨fun hc => by simp [Fence.wide] at hc, ?_⟩
      have h4' : RoundIn (fenceOf rb) 0 P l f tm asg body w _ := h4
      refine h4'.mono ?_
      intro e w' hp
      have := cont e w' hp
      cases e <;> exact this
  · rename_i x hop
    obtain ⟨⟨t, v, hx⟩, hk⟩ := h
    refine ⟨fun _ _ => trivial, ?_⟩
    rw [Oper.semAt_eq _ _ _ (fun c hc => by rw [hc] at hop; cases hop)]
    have he := eval_rel hs x
    rw [hx] at he
    have hev : a.eval x = .iface t v := by
      generalize a.eval x = y at he
      cases he
      rfl
    have hex : (execOp a.eval o).run P w = .halt (.panic (.iface t v)) w := by
      unfold execOp
      simp only [hop, hev]
      rfl
    rw [hex]
    exact hq Γ s a w _ hk ⟨t, v, rfl⟩ hs (Evo.refl _ _ _) (Nat.le_refl _) hr rfl
  · rename_i op t x y u hop
    unfold nilK at h
    split at h
    · rename_i k hk
      obtain ⟨ht, hall⟩ := h
      obtain ⟨hor, hcy, sa, sn, sc, hcx, hsome⟩ := nilOf_rel hk (eval_rel hs x) (eval_rel hs y)
      refine ⟨fun _ _ => trivial, ?_⟩
      rw [Oper.semAt_eq _ _ _ (fun c hc => by rw [hc] at hop; cases hop)]
      have hex : (execOp a.eval o).run P w = .ok (.value (.bool (if op == .neq then !sa.isNone else sa.isNone))) w := by
        unfold execOp
        simp only [hop, hcx, hcy]
        rcases hor with rfl | rfl
        · have h1 : (eqGuard .eql t x y (.slice sa sn sc) (.slice none 0 0)).run P w = .ok () w := rfl
          have h2 : (binOp .eql t (.slice sa sn sc) (.slice none 0 0)).run P w = .ok (.bool sa.isNone) w := by
            show ((Op.equal t (.slice sa sn sc) (.slice none 0 0)) >>= fun b => pure (Value.bool b)).run P w = _
            rw [run_bind_ok (run_equal_nil ht sa sn sc)]
            rfl
          have h3 : (do eqGuard .eql t x y (.slice sa sn sc) (.slice none 0 0); binOp .eql t (.slice sa sn sc) (.slice none 0 0)).run P w = .ok (.bool sa.isNone) w := by rw [run_bind_ok h1]; exact h2
          rw [run_bind_ok h3]
          rfl
        · have h1 : (eqGuard .neq t x y (.slice sa sn sc) (.slice none 0 0)).run P w = .ok () w := rfl
          have h2 : (binOp .neq t (.slice sa sn sc) (.slice none 0 0)).run P w = .ok (.bool (!sa.isNone)) w := by
            show ((Op.equal t (.slice sa sn sc) (.slice none 0 0)) >>= fun b => pure (Value.bool !b)).run P w = _
            rw [run_bind_ok (run_equal_nil ht sa sn sc)]
            rfl
          have h3 : (do eqGuard .neq t x y (.slice sa sn sc) (.slice none 0 0); binOp .neq t (.slice sa sn sc) (.slice none 0 0)).run P w = .ok (.bool (!sa.isNone)) w := by rw [run_bind_ok h1]; exact h2
          rw [run_bind_ok h3]
          rfl
      rw [hex]
      exact hnext Γ _ _ w (hall sa.isNone hsome) (put_rel hs hdst (Evo.refl _ _ _) (Nat.le_refl _) hs.heap (.lit _)) (Evo.refl _ _ _) (Nat.le_refl _) hr ⟨_, rfl⟩
    · obtain ⟨vH, hop', hk⟩ := h
      exact plain vH (by rw [hop]; exact hop') hk
  · obtain ⟨vH, hop, hk⟩ := h
    exact plain vH hop hk

theorem put_fr {a : Act} {all : Array Oper} {i : Nat} (hi : i < all.size) (cv : Value) : Fr (fun t => all.toList.any fun o => o.dst == some t) a (a.put all[i].dst cv) := by
  intro t ht
  simp only [List.any_eq_false] at ht
  have := ht all[i] (by simp)
  cases hd : all[i].dst with
  | none => rfl
  | some d =>
    simp only [Act.put]
    rw [Array.getElem?_setIfInBounds, if_neg]
    intro hdt
    rw [hd, hdt] at this
    simp at this

theorem opsV_sound {id : Nat} {dr : Bool} {all : Array Oper} (hfit : ∀ o, o ∈ all.toList → dstOk n o = true) : ∀ (is : List Nat) (s : St) (Γ : Gam) (a : Act) (w : World), (∀ i, i ∈ is → i < all.size) →
    opsV P G rd Q all (is.filterMap fun i => all[i]?) s → RelS P G n wb Γ s a w → RdOk Γ s.H rd rb →
    ∀ (Q' : Exit → Act → World → Prop), (∀ e a' w', WPost P G n wb rd rb (wr (.region id all dr)) Γ s.H a w Q e a' w' → Q' e a' w') → wpOpsIn (fenceOf rb) 0 P all Q' is a w := by
  intro is
  induction is with
  | nil =>
    intro s Γ a w _ h hs hr Q' hq
    exact hq _ _ _ (.here (x := .normal) trivial h hs hr)
  | cons i is ih =>
    intro s Γ a w hi h hs hr Q' hq
    have hlt := hi i (by simp)
    have ho : all[i]? = some all[i] := Array.getElem?_eq_getElem hlt
    simp only [List.filterMap_cons, ho] at h
    unfold wpOpsIn
    rw [ho]
    simp only
    obtain ⟨t, ht, h⟩ := h
    rw [want_sound hs ht]
    have hd := hfit all[i] (by simp)
    cases t with
    | true =>
      simp only [if_true] at h ⊢
      refine opV_sound hd hs hr h ?_ ?_
      · rintro Γ' s' a' w' hk hs' E hn hr' ⟨cv, rfl⟩
        exact ih s' Γ' _ w' (fun j hj => hi j (by simp [hj])) hk hs' hr' Q' fun e a'' w'' hp => hq _ _ _ (hp.step E hn (put_fr hlt cv) fun _ h => h)
      · rintro Γ' s' a' w' chain hp hc hs' E hn hr' rfl
        exact hq _ _ _ ⟨.panic, s', Γ', hc, hp, hs', E, hn, hr', .refl _ _⟩
    | false =>
      simp only [Bool.false_eq_true, if_false] at h ⊢
      refine ⟨fun _ _ => trivial, ?_⟩
      have hdst : ∀ d, all[i].dst = some d → d < n := by
        intro d hd'
        unfold dstOk at hd
        rw [hd'] at hd
        simpa using hd
      have hs' := put_rel (v := .lit undef) (cv := undef) hs hdst (Evo.refl Γ s.H w) (Nat.le_refl _) hs.heap (.lit _)
      exact ih ⟨putA s.ρ all[i].dst (.lit undef), s.H⟩ Γ _ w (fun j hj => hi j (by simp [hj])) h hs' hr Q' fun e a'' w'' hp => hq _ _ _ (hp.step (Evo.refl _ _ _) (Nat.le_refl _) (put_fr hlt _) fun _ h => h)

theorem filterMap_range {α : Type} (l : List α) : (List.range l.length).filterMap (fun i => l[i]?) = l := by
  induction l with
  | nil => rfl
  | cons x xs ih =>
    rw [List.length_cons, List.range_succ_eq_map, List.filterMap_cons]
    simp only [List.getElem?_cons_zero]
    rw [List.filterMap_map]
    congr 1

theorem W.region {id : Nat} {ops : Array Oper} {s : St} (hfit : ops.toList.all (dstOk n) = true) (h : opsV P G rd Q ops ops.toList s) : W P G n rd (.region id ops false) Q s := by
  intro wb Γ a w rb hs hr
  refine wpIn_region (opsV_sound (id := id) (dr := false) (fun o ho => List.all_eq_true.1 hfit o ho) _ s Γ a w (fun i hi => List.mem_range.1 hi) ?_ hs hr _ fun _ _ _ hp => hp)
  have : (List.range ops.size).filterMap (fun i => ops[i]?) = ops.toList := by
    have := filterMap_range ops.toList
    simpa using this
  rw [this]
  exact h

theorem stepR_scope {b : Frame} {a : Act} {k : List Item} {cs : List Frame} {c : Code} :
    step P (lone (b.atR a (.code (.scope c) :: k)) cs w) = .next (lone (b.atR a (.code c :: .inScope c :: k)) cs w) :=
  step_lone_go (by simp [stepG, stepG.exec, Frame.atR])

theorem stepR_inScope {b : Frame} {a : Act} {k : List Item} {cs : List Frame} {c : Code} :
    step P (lone (b.atR a (.inScope c :: k)) cs w) = .next (lone (b.atR a k) cs w) :=
  step_lone_go (by simp [stepG, stepG.exec, Frame.atR])

/-- A scope that nothing jumps into or out of by goto. -/
def noGoto (Q : AX → St → Prop) : AX → St → Prop
  | .goto _, _ => False
  | x, s => Q x s

theorem W.scope {c : Code} {s : St} (h : W P G n rd c (noGoto Q) s) : W P G n rd (.scope c) Q s := by
  intro wb Γ a w rb hs hr b k cs hro hb hrm
  have h0 : (lone (b.atR a (.code (.scope c) :: k)) cs w).fenced P (fenceOf rb) := fenced_calm hb hrm rfl
  obtain ⟨e, a', w', hp, harr⟩ := h wb Γ a w rb hs hr b (.inScope c :: k) cs hro hb hrm
  obtain ⟨x, s', Γ', hx, hq, hrest⟩ := hp
  cases e with
  | normal =>
    cases x with
    | normal => exact ⟨.normal, a', w', ⟨.normal, s', Γ', hx, hq, hrest⟩, .head h0 stepR_scope (StepsIn.trans harr (.one (fenced_calm hb hrm rfl) stepR_inScope))⟩
    | _ => exact hx.elim
  | exit i =>
    cases x with
    | exit j =>
      have hk : exitTo i (.inScope c :: k) = exitTo i k := by simp [exitTo]
      exact ⟨.exit i, a', w', ⟨.exit j, s', Γ', hx, hq, hrest⟩, fun k' hk' => .head h0 stepR_scope (harr.1 k' (by rw [hk]; exact hk')),
        fun hr' hk' => let ⟨k₁, h1, h2⟩ := harr.2 hr' (by rw [hk]; exact hk'); ⟨k₁, h1, .head h0 stepR_scope h2⟩⟩
    | _ => exact hx.elim
  | goto i => cases x with
    | goto j => exact hq.elim
    | _ => exact hx.elim
  | ret => cases x with
    | ret => exact ⟨.ret, a', w', ⟨.ret, s', Γ', hx, hq, hrest⟩, .of_steps (.one h0 stepR_scope) harr⟩
    | _ => exact hx.elim
  | panic ch => cases x with
    | panic => exact ⟨.panic ch, a', w', ⟨.panic, s', Γ', hx, hq, hrest⟩, .of_steps (.one h0 stepR_scope) harr⟩
    | _ => exact hx.elim
  | outgrown => cases x <;> exact hx.elim

end

def Branch (t : Bool) (p q : Prop) : Prop := (t = true → p) ∧ (t = false → q)

/-- The formula: what is to be shown of a piece of code. Loops, ranges over functions and regions that draw are left as they are. -/
def vc (P : Program) (G : Nat → Option (List AVal)) (n : Nat) (rd : Option Nat) : Code → (AX → St → Prop) → St → Prop
  | .skip, Q, s => Q .normal s
  | .label _, Q, s => Q .normal s
  | .region _ ops false, Q, s => opsV P G rd Q ops ops.toList s
  | .region id ops true, Q, s => W P G n rd (.region id ops true) Q s
  | .seq a b, Q, s => vc P G n rd a (thenA (vc P G n rd b Q) Q) s
  | .cond c a b, Q, s => wpo (match evA G s.ρ c with | .lit (.bool t) => some t | _ => none) fun t => Branch t (vc P G n rd a Q s) (vc P G n rd b Q s)
  | .block id c, Q, s => vc P G n rd c (blockA id Q) s
  | .loop c, Q, s => W P G n rd (.loop c) Q s
  | .rangeFunc f ps asg body, Q, s => W P G n rd (.rangeFunc f ps asg body) Q s
  | .exit id, Q, s => Q (.exit id) s
  | .scope c, Q, s => vc P G n rd c (noGoto Q) s
  | .goto l, Q, s => Q (.goto l) s
  | .ret, Q, s => Q .ret s
  | .refuse _, _, _ => False

def fits (n : Nat) : Code → Bool
  | .region _ ops _ => ops.toList.all (dstOk n)
  | .seq a b | .cond _ a b | .rangeFunc _ _ a b => fits n a && fits n b
  | .block _ c | .loop c | .scope c => fits n c
  | _ => true

theorem vc_sound {n : Nat} {rd : Option Nat} : ∀ (c : Code) (Q : AX → St → Prop) (s : St), fits n c = true → vc P G n rd c Q s → W P G n rd c Q s := by
  intro c
  induction c with
  | skip => exact fun Q s _ h => .skip h
  | label l => exact fun Q s _ h => .label h
  | region id ops d =>
    intro Q s hf h
    cases d with
    | false => exact .region hf h
    | true => exact h
  | seq a b iha ihb =>
    intro Q s hf h
    simp only [fits, Bool.and_eq_true] at hf
    refine W.seq ((iha _ s hf.1 h).mono fun x s' hx => ?_)
    cases x with
    | normal => exact ihb Q s' hf.2 hx
    | _ => exact hx
  | cond c a b iha ihb =>
    intro Q s hf h
    simp only [fits, Bool.and_eq_true] at hf
    obtain ⟨t, ht, h1, h2⟩ := h
    split at ht
    · rename_i t' hc
      simp only [Option.some.injEq] at ht
      subst ht
      refine W.cond hc ?_
      cases t' with
      | true => exact iha Q s hf.1 (h1 rfl)
      | false => exact ihb Q s hf.2 (h2 rfl)
    · cases ht
  | block id c ih => exact fun Q s hf h => .block (ih _ s hf h)
  | loop c _ => exact fun Q s _ h => h
  | rangeFunc => exact fun Q s _ h => h
  | exit id => exact fun Q s _ h => .exit h
  | scope c ih => exact fun Q s hf h => .scope (ih _ s hf h)
  | goto l => exact fun Q s _ h => .goto h
  | ret => exact fun Q s _ h => .ret h
  | refuse why => exact fun Q s _ h => h.elim

end Go.Hx
