/-
  Regions that draw their order: every order does what the order of the text does. Own work: no program stands in this text.
-/
import Derived.Test.YtcccmbeolcjacaaHxP
import Derived.OrdersIn
namespace Go.Hx
variable {P : Program} {G : Nat → Option (List AVal)} {Γ Γ' : Gam} {H H' : AHeap} {w w' : World}

/-! ### the formula -/

def PCall (P : Program) (G : Nat → Option (List AVal)) (fv : AVal) (args : List AVal) (H : AHeap) (v : AVal) (rs : List Nat) : Prop :=
  (∀ r, r ∈ rs → r < H.next) ∧ ∀ H2 : AHeap, (∀ r, r ∈ rs → H2.get r = H.get r) → H.next ≤ H2.next → AApply P G fv args H2 fun r H3 => r = .ret v ∧ H3 = H2

def opD (P : Program) (G : Nat → Option (List AVal)) (o : Oper) (K : FP → St → Prop) (s : St) : Prop :=
  match o.op with
  | .call { callee := .value fv, args, .. } => ∃ v rs, PCall P G (evA G s.ρ fv) (args.toList.map (evA G s.ρ)) s.H v rs ∧ K ⟨[], rs⟩ ⟨putA s.ρ o.dst v, s.H⟩
  | op => wpo (opA P G s.ρ s.H s.H.next op) fun vH => K (fpO P G s.ρ s.H.next op) ⟨putA s.ρ o.dst vH.1, vH.2⟩

def addF (i : Nat) (f : FP) (acc : List (Nat × FP)) : List (Nat × FP) :=
  match f with
  | ⟨[], []⟩ => acc
  | f => (i, f) :: acc

def ApartA (b : Nat) (f : FP) (acc : List (Nat × FP)) : Prop :=
  ∀ p, p ∈ acc → b.testBit p.1 = false → (∀ r, r ∈ f.eff → r ∉ p.2.rs) ∧ (∀ r, r ∈ p.2.eff → r ∉ f.rs)

def opsD (P : Program) (G : Nat → Option (List AVal)) (all : Array Oper) (tail : St → Prop) : List Nat → Nat → List (Nat × FP) → List Oper → St → Prop
  | b :: bs, i, acc, o :: rest, s => wpo (wantA all s.ρ o) fun t => if t = true then opD P G o (fun f s' => ApartA b f acc ∧ opsD P G all tail bs (i + 1) (addF i f acc) rest s') s
      else opsD P G all tail bs (i + 1) acc rest ⟨putA s.ρ o.dst (.lit undef), s.H⟩
  | _, _, _, [], s => tail s
  | [], _, _, _ :: _, _ => False

/-! ### the static side -/

def binding (o : Oper) : List Nat := (o.after.toList.filter fun e => Region.binds .any e).map (·.on)

def noDst (x : Option Tmp) (l : List Tmp) : Bool := match x with | some d => !l.contains d | none => true

def apartO (all : Array Oper) (x y : Oper) : Bool :=
  noDst x.dst (y.looksAt all) && noDst y.dst (x.looksAt all) && (match x.dst with | some d => y.dst != some d | none => true)

def bitAt (bs : List Nat) (i : Nat) : Nat := (bs[i]?).getD 0

def checkOne (bs : List Nat) (i : Nat) (o : Oper) : Bool :=
  let es := binding o
  let b := bitAt bs i
  es.all (fun e => decide (e < i)) && decide (b < 2 ^ i) &&
  (List.range i).all (fun j => !b.testBit j || es.any fun e => e == j || (bitAt bs e).testBit j)

def drawOk (all : Array Oper) (bs : List Nat) (K : Nat) : Bool :=
  decide (bs.length = K) && decide (K ≤ all.size) &&
  (List.range all.size).all (fun i => match all[i]? with | some o => checkOne (bs ++ (List.range' K (all.size - K)).map fun m => 2 ^ m - 1) i o | none => false) &&
  (List.range K).all fun i => match all[i]? with
    | some o => (List.range i).all fun j => (bitAt bs i).testBit j || (match all[j]? with | some o' => apartO all o' o | none => false)
    | none => false

/-! ### what has been done, in whatever order -/

structure Dt where
  v : AVal
  e : Option (Nat × Blk)
  al : Bool
  f : FP

def dstAt (all : Array Oper) (i : Nat) : Option Tmp := (all[i]?).bind (·.dst)

def envAt (all : Array Oper) (d : Nat → Dt) (ρ0 : Env) : Nat → (Nat → Bool) → Env
  | 0, _ => ρ0
  | n + 1, D => if D n then putA (envAt all d ρ0 n D) (dstAt all n) (d n).v else envAt all d ρ0 n D

def getAt (d : Nat → Dt) (g0 : Nat → Option Blk) : Nat → (Nat → Bool) → Nat → Option Blk
  | 0, _ => g0
  | n + 1, D => if D n then effGet (d n).e (getAt d g0 n D) else getAt d g0 n D

def nal (d : Nat → Dt) : Nat → Nat
  | 0 => 0
  | n + 1 => nal d n + (if (d n).al then 1 else 0)

def tgt (x : Dt) : Option Nat := x.e.map (·.1)

theorem effGet_ne {e : Option (Nat × Blk)} {g : Nat → Option Blk} {r : Nat} (h : e.map (·.1) ≠ some r) : effGet e g r = g r := by
  cases e with
  | none => rfl
  | some kb =>
    simp only [effGet]
    rw [if_neg]
    rintro rfl
    exact h rfl

theorem putA_ne {ρ : Env} {x : Option Tmp} {v : AVal} {t : Tmp} (h : x ≠ some t) : putA ρ x v t = ρ t := by
  cases x with
  | none => rfl
  | some d =>
    simp only [putA]
    rw [if_neg]
    rintro rfl
    exact h rfl

theorem putA_congr {ρ ρ' : Env} {x : Option Tmp} {v : AVal} {t : Tmp} (h : ρ t = ρ' t) : putA ρ x v t = putA ρ' x v t := by
  cases x with
  | none => exact h
  | some d => simp only [putA, h]

theorem effGet_congr {e : Option (Nat × Blk)} {g g' : Nat → Option Blk} {r : Nat} (h : g r = g' r) : effGet e g r = effGet e g' r := by
  cases e with
  | none => exact h
  | some kb => simp only [effGet, h]

theorem putA_comm {ρ : Env} {x y : Option Tmp} {v u : AVal} (h : ∀ d, x = some d → y ≠ some d) : putA (putA ρ x v) y u = putA (putA ρ y u) x v := by
  funext t
  by_cases hx : x = some t
  · rw [putA_ne (h t hx)]
    exact putA_congr (putA_ne (h t hx)).symm
  · rw [putA_ne (ρ := putA ρ y u) hx]
    exact putA_congr (putA_ne hx)

theorem effGet_comm {e e' : Option (Nat × Blk)} {g : Nat → Option Blk} (h : ∀ r, e.map (·.1) = some r → e'.map (·.1) ≠ some r) : effGet e' (effGet e g) = effGet e (effGet e' g) := by
  funext r
  by_cases hx : e.map (·.1) = some r
  · rw [effGet_ne (h r hx)]
    exact effGet_congr (effGet_ne (h r hx)).symm
  · rw [effGet_ne (g := effGet e' g) hx]
    exact effGet_congr (effGet_ne hx)

section
variable {all : Array Oper} {d d' : Nat → Dt} {ρ0 : Env} {g0 g0' : Nat → Option Blk} {D D' : Nat → Bool}

theorem envAt_agree {t : Tmp} : ∀ {n : Nat}, (∀ j, j < n → dstAt all j = some t → D j = D' j) → envAt all d ρ0 n D t = envAt all d ρ0 n D' t := by
  intro n
  induction n with
  | zero => intro _; rfl
  | succ n ih =>
    intro h
    have h0 := ih fun j hj => h j (by omega)
    simp only [envAt]
    by_cases hd : dstAt all n = some t
    · rw [h n (by omega) hd]
      split
      · exact putA_congr h0
      · exact h0
    · have : ∀ (b : Bool) (ρ : Env), (if b = true then putA ρ (dstAt all n) (d n).v else ρ) t = ρ t := by
        intro b ρ
        split
        · exact putA_ne hd
        · rfl
      rw [this, this]
      exact h0

theorem envAt_cut {m : Nat} : ∀ {n : Nat}, m ≤ n → envAt all d ρ0 n (fun j => decide (j < m)) = envAt all d ρ0 m fun _ => true := by
  have low : ∀ k, k ≤ m → envAt all d ρ0 k (fun j => decide (j < m)) = envAt all d ρ0 k fun _ => true := by
    intro k
    induction k with
    | zero => intro _; rfl
    | succ k ih =>
      intro hk
      simp only [envAt]
      rw [ih (by omega), if_pos (by simp; omega)]
      simp
  intro n
  induction n with
  | zero =>
    intro hm
    obtain rfl : m = 0 := by omega
    exact low 0 (by omega)
  | succ n ih =>
    intro hm
    by_cases h : m = n + 1
    · subst h; exact low (n + 1) (by omega)
    · simp only [envAt]
      rw [if_neg (by simp; omega)]
      exact ih (by omega)

theorem getAt_agree {r : Nat} : ∀ {n : Nat}, (∀ j, j < n → tgt (d j) = some r → D j = D' j) → getAt d g0 n D r = getAt d g0 n D' r := by
  intro n
  induction n with
  | zero => intro _; rfl
  | succ n ih =>
    intro h
    have h0 := ih fun j hj => h j (by omega)
    simp only [getAt]
    by_cases hd : tgt (d n) = some r
    · rw [h n (by omega) hd]
      split
      · exact effGet_congr h0
      · exact h0
    · have : ∀ (b : Bool) (g : Nat → Option Blk), (if b = true then effGet (d n).e g else g) r = g r := by
        intro b g
        split
        · exact effGet_ne hd
        · rfl
      rw [this, this]
      exact h0

theorem getAt_cut {m : Nat} : ∀ {n : Nat}, m ≤ n → getAt d g0 n (fun j => decide (j < m)) = getAt d g0 m fun _ => true := by
  have low : ∀ k, k ≤ m → getAt d g0 k (fun j => decide (j < m)) = getAt d g0 k fun _ => true := by
    intro k
    induction k with
    | zero => intro _; rfl
    | succ k ih =>
      intro hk
      simp only [getAt]
      rw [ih (by omega), if_pos (by simp; omega)]
      simp
  intro n
  induction n with
  | zero =>
    intro hm
    obtain rfl : m = 0 := by omega
    exact low 0 (by omega)
  | succ n ih =>
    intro hm
    by_cases h : m = n + 1
    · subst h; exact low (n + 1) (by omega)
    · simp only [getAt]
      rw [if_neg (by simp; omega)]
      exact ih (by omega)

theorem getAt_base {r : Nat} : ∀ {n : Nat}, (g0 r = g0' r ∨ ∃ j, j < n ∧ D j = true ∧ tgt (d j) = some r) → getAt d g0 n D r = getAt d g0' n D r := by
  intro n
  induction n with
  | zero =>
    rintro (h | ⟨j, hj, _⟩)
    · exact h
    · omega
  | succ n ih =>
    intro h
    simp only [getAt]
    by_cases hD : D n = true
    · rw [if_pos hD, if_pos hD]
      by_cases ht : tgt (d n) = some r
      · cases he : (d n).e with
        | none => simp [tgt, he] at ht
        | some kb =>
          simp only [tgt, he, Option.map_some, Option.some.injEq] at ht
          simp only [effGet]
          rw [if_pos ht.symm, if_pos ht.symm]
      · refine effGet_congr (ih ?_)
        rcases h with h | ⟨j, hj, h1, h2⟩
        · exact .inl h
        · by_cases hjn : j = n
          · subst hjn; exact absurd h2 ht
          · exact .inr ⟨j, by omega, h1, h2⟩
    · rw [if_neg hD, if_neg hD]
      refine ih ?_
      rcases h with h | ⟨j, hj, h1, h2⟩
      · exact .inl h
      · by_cases hjn : j = n
        · subst hjn; exact absurd h1 hD
        · exact .inr ⟨j, by omega, h1, h2⟩

theorem getAt_none {r : Nat} : ∀ {n : Nat}, (∀ j, j < n → D j = true → tgt (d j) ≠ some r) → getAt d g0 n D r = g0 r := by
  intro n
  induction n with
  | zero => intro _; rfl
  | succ n ih =>
    intro h
    simp only [getAt]
    split
    · rename_i hD
      rw [effGet_ne (h n (by omega) hD)]
      exact ih fun j hj => h j (by omega)
    · exact ih fun j hj => h j (by omega)

def withI (D : Nat → Bool) (i : Nat) : Nat → Bool := fun j => if j = i then true else D j

theorem envAt_with {i : Nat} (hD : D i = false) : ∀ {n : Nat}, i < n → (∀ j, i < j → j < n → D j = true → ∀ t, dstAt all i = some t → dstAt all j ≠ some t) →
    envAt all d ρ0 n (withI D i) = putA (envAt all d ρ0 n D) (dstAt all i) (d i).v := by
  intro n
  induction n with
  | zero => intro h; omega
  | succ n ih =>
    intro hi h
    by_cases hin : i = n
    · subst hin
      have h0 : envAt all d ρ0 i (withI D i) = envAt all d ρ0 i D := funext fun t => envAt_agree fun j hj _ => by simp [withI, Nat.ne_of_lt hj]
      simp only [envAt]
      rw [if_pos (by simp [withI]), if_neg (by simp [hD]), h0]
    · have hw : withI D i n = D n := by simp [withI, Ne.symm hin]
      have h0 := ih (by omega) fun j h1 h2 => h j h1 (by omega)
      simp only [envAt, hw]
      split
      · rename_i hDn
        rw [h0]
        exact putA_comm (h n (by omega) (by omega) hDn)
      · exact h0

theorem getAt_with {i : Nat} (hD : D i = false) : ∀ {n : Nat}, i < n → (∀ j, i < j → j < n → D j = true → ∀ t, tgt (d i) = some t → tgt (d j) ≠ some t) →
    getAt d g0 n (withI D i) = effGet (d i).e (getAt d g0 n D) := by
  intro n
  induction n with
  | zero => intro h; omega
  | succ n ih =>
    intro hi h
    by_cases hin : i = n
    · subst hin
      have h0 : getAt d g0 i (withI D i) = getAt d g0 i D := funext fun t => getAt_agree fun j hj _ => by simp [withI, Nat.ne_of_lt hj]
      simp only [getAt]
      rw [if_pos (by simp [withI]), if_neg (by simp [hD]), h0]
    · have hw : withI D i n = D n := by simp [withI, Ne.symm hin]
      have h0 := ih (by omega) fun j h1 h2 => h j h1 (by omega)
      simp only [getAt, hw]
      split
      · rename_i hDn
        rw [h0]
        exact effGet_comm (h n (by omega) (by omega) hDn)
      · exact h0

theorem nal_mono {m n : Nat} (h : m ≤ n) : nal d m ≤ nal d n := by
  induction n with
  | zero =>
    have : m = 0 := by omega
    subst this; exact Nat.le_refl _
  | succ n ih =>
    by_cases hm : m = n + 1
    · subst hm; exact Nat.le_refl _
    · exact Nat.le_trans (ih (by omega)) (by simp [nal])

theorem nal_hit {n c : Nat} (h : c < nal d n) : ∃ j, j < n ∧ (d j).al = true ∧ nal d j = c := by
  induction n with
  | zero => simp [nal] at h
  | succ n ih =>
    by_cases hc : c < nal d n
    · obtain ⟨j, h1, h2⟩ := ih hc
      exact ⟨j, by omega, h2⟩
    · simp only [nal] at h
      cases hal : (d n).al with
      | false => simp [hal] at h; omega
      | true =>
        simp only [hal, if_true] at h
        exact ⟨n, by omega, hal, by omega⟩

theorem nal_lt {i n : Nat} (h : i < n) (hal : (d i).al = true) : nal d i < nal d n := by
  have := nal_mono (d := d) (m := i + 1) (n := n) h
  simp only [nal, hal, if_true] at this
  omega

theorem envAt_below {n : Nat} (h : ∀ j, j < n → d j = d' j) : envAt all d ρ0 n D = envAt all d' ρ0 n D := by
  induction n with
  | zero => rfl
  | succ n ih => simp only [envAt]; rw [ih fun j hj => h j (by omega), h n (by omega)]
theorem getAt_below {n : Nat} (h : ∀ j, j < n → d j = d' j) : getAt d g0 n D = getAt d' g0 n D := by
  induction n with
  | zero => rfl
  | succ n ih => simp only [getAt]; rw [ih fun j hj => h j (by omega), h n (by omega)]
theorem nal_below {n : Nat} (h : ∀ j, j < n → d j = d' j) : nal d n = nal d' n := by
  induction n with
  | zero => rfl
  | succ n ih => simp only [nal]; rw [ih fun j hj => h j (by omega), h n (by omega)]

end


/-! ### one operation, with a place laid by for its block -/

def ExecOk (P : Program) (G : Nat → Option (List AVal)) (all : Array Oper) (o : Oper) (id : Nat) (s s' : St) : Prop :=
  (wantA all s.ρ o = some false ∧ s' = ⟨putA s.ρ o.dst (.lit undef), s.H⟩) ∨
  (wantA all s.ρ o = some true ∧ ∃ v, s'.ρ = putA s.ρ o.dst v ∧
    (opA P G s.ρ s.H id o.op = some (v, s'.H) ∨
     ∃ fv args ats, o.op = .call ⟨.value fv, args, ats⟩ ∧ s'.H = s.H ∧ AApply P G (evA G s.ρ fv) (args.toList.map (evA G s.ρ)) s.H fun r H3 => r = .ret v ∧ H3 = s.H))

theorem execOk_sound {n wb : Nat} {rd rb : Option Nat} {all : Array Oper} {o : Oper} {id i : Nat} {s s' : St} {a : Act} {next : Act → World → Prop} {Q' : Exit → Act → World → Prop} (ho : all[i]? = some o) (hd : dstOk n o = true)
    (hs : RelS P G n wb Γ s a w) (hr : RdOk Γ s.H rd rb) (h : ExecOk P G all o id s s')
    (hnext : ∀ Γ' a' w', RelS P G n wb Γ' s' a' w' → Evo Γ s.H w Γ' s'.H w' → s.H.next ≤ s'.H.next → RdOk Γ' s'.H rd rb → (∃ cv, a' = a.put o.dst cv) → next a' w') :
    wpOpIn (fenceOf rb) 0 P all Q' i next a w := by
  have hdst : ∀ d, o.dst = some d → d < n := by
    intro d hd'
    unfold dstOk at hd
    rw [hd'] at hd
    simpa using hd
  unfold wpOpIn
  rw [ho]
  simp only
  rcases h with ⟨hw, rfl⟩ | ⟨hw, v, hρ, h⟩
  · rw [want_sound hs hw]
    simp only [Bool.false_eq_true, if_false]
    refine ⟨fun _ _ => trivial, ?_⟩
    have hs' := put_rel (v := .lit undef) (cv := undef) hs hdst (Evo.refl Γ s.H w) (Nat.le_refl _) hs.heap (.lit _)
    exact hnext Γ _ w hs' (Evo.refl _ _ _) (Nat.le_refl _) hr ⟨_, rfl⟩
  · rw [want_sound hs hw]
    simp only [if_true]
    obtain ⟨ρ', H'⟩ := s'
    simp only at hρ
    subst hρ
    refine ⟨fun _ _ => trivial, ?_⟩
    rcases h with hop | ⟨fv, args, ats, hop, hH, hap⟩
    · simp only at hop
      rw [Oper.semAt_eq _ _ _ (fun c hc => by rw [hc] at hop; simp [opA] at hop)]
      obtain ⟨nx, cv, Γ', w', hrun, hnx, E, hn, R, hv⟩ := opA_sound hs.heap (eval_rel hs) hop
      rw [hrun]
      have hri := rdIn_of_live hr (opA_loops hs.heap hop)
      have hs' := put_rel hs hdst E hn R hv
      have hr' := hr.evo E hn hs.heap hri
      rcases hnx with rfl | ⟨rfl, rfl⟩
      · exact hnext Γ' _ w' hs' E hn hr' ⟨_, rfl⟩
      · exact hnext Γ' _ w' hs' E hn hr' ⟨_, rfl⟩
    · simp only at hH
      subst hH
      rw [Oper.semAt_eq _ _ _ (fun c hc => by rw [hc] at hop; cases hop)]
      obtain ⟨d, h1, h2⟩ := hap Γ w (a.eval fv) (args.map a.eval) hs.heap (eval_rel hs fv) ⟨by simp, fun i h1 h2 => by simp only [List.getElem_map, Array.getElem_map, Array.getElem_toList]; exact eval_rel hs _⟩
      have hex : (execOp a.eval o).run P w = (invoke d.target d.args).run P w := by
        unfold execOp
        simp only [hop]
        unfold resolve
        simp only
        rw [run_bind_ok h1]
      have hri : RdIn s.H rd := by
        cases rd with
        | none => trivial
        | some id =>
          obtain ⟨b, st, pend, n, env, ps, asg, body, _, _, h3⟩ := hr
          exact ⟨_, _, _, _, _, _, _, h3⟩
      have cont : ∀ e w', CPost P G Γ s.H w (fun r H3 => r = .ret v ∧ H3 = s.H) e w' → (match e with
          | .returned v => next (a.put o.dst v) w'
          | .panicked chain => Q' (.panic chain) a w'
          | .outgrown => LetsOut Q') := by
        rintro e w' ⟨r, H', Γ', hend, ⟨rfl, rfl⟩, R, E, hn⟩
        have hr' := hr.evo E hn hs.heap hri
        cases e with
        | returned cv => exact hnext Γ' _ w' (put_rel hs hdst E hn R hend) E hn hr' ⟨_, rfl⟩
        | panicked chain => exact hend.elim
        | outgrown => exact hend.elim
      rw [hex]
      rcases h2 with ⟨f, as, h3, h4⟩ | ⟨l, f, tm, asg, body, h3, h4⟩
      · rw [h3]
        refine ⟨fun hc => by simp [Fence.wide] at hc, ?_⟩
        have h4' : CallsIn (fenceOf rb) 0 P f as w _ := h4
        refine h4'.mono ?_
        intro e w' hp
        have := cont e w' hp
        cases e <;> exact this
      · rw [h3]
        refine ⟨fun hc => by simp [Fence.wide] at hc, ?_⟩
        have h4' : RoundIn (fenceOf rb) 0 P l f tm asg body w _ := h4
        refine h4'.mono ?_
        intro e w' hp
        have := cont e w' hp
        cases e <;> exact this

/-! ### the trace of the order of the text -/

def canonH (d : Nat → Dt) (H0 : AHeap) (m : Nat) : AHeap := ⟨getAt d H0.get m fun _ => true, H0.next + nal d m⟩
def canon (all : Array Oper) (d : Nat → Dt) (s0 : St) (m : Nat) : St := ⟨envAt all d s0.ρ m fun _ => true, canonH d s0.H m⟩

structure GoodAt (P : Program) (G : Nat → Option (List AVal)) (all : Array Oper) (bs : List Nat) (s0 : St) (d : Nat → Dt) (i : Nat) : Prop where
  step : ∀ o, all[i]? = some o → ∀ ρ2 H2, (∀ t, t ∈ o.looksAt all → ρ2 t = (canon all d s0 i).ρ t) → (∀ r, r ∈ (d i).f.rs → H2.get r = (canon all d s0 i).H.get r) →
    ((d i).al = true → H2.get (s0.H.next + nal d i) = some .rsv ∧ s0.H.next + nal d i ≠ H2.next) → s0.H.next + nal d i ≤ H2.next →
    ExecOk P G all o (s0.H.next + nal d i) ⟨ρ2, H2⟩ ⟨putA ρ2 o.dst (d i).v, ⟨effGet (d i).e H2.get, H2.next⟩⟩
  eff : ∀ k b, (d i).e = some (k, b) → k ∈ (d i).f.eff ∧ ((d i).al = false → k ∈ (d i).f.rs)
  al : (d i).al = true → ∃ b, (d i).e = some (s0.H.next + nal d i, b)
  lt : ∀ r, r ∈ (d i).f.rs → r < s0.H.next + nal d i
  apart : ∀ j, j < i → (bitAt bs i).testBit j = false → (∀ r, r ∈ (d i).f.eff → r ∉ (d j).f.rs) ∧ (∀ r, r ∈ (d j).f.eff → r ∉ (d i).f.rs)

theorem wantA_env {all : Array Oper} {o : Oper} {ρ ρ' : Env} (h : ∀ t, t ∈ o.looksAt all → ρ' t = ρ t) : wantA all ρ' o = wantA all ρ o := by
  unfold wantA
  cases hg : o.guard with
  | none => rfl
  | some gw =>
    obtain ⟨j, want⟩ := gw
    simp only
    cases hd : (all[j]?).bind (·.dst) with
    | none => rfl
    | some d =>
      simp only
      rw [h d (by simp [Oper.looksAt, hg, hd])]

theorem evA_env {all : Array Oper} {o : Oper} {ρ ρ' : Env} (h : ∀ t, t ∈ o.looksAt all → ρ' t = ρ t) : ∀ x, x ∈ o.op.operands → evA G ρ' x = evA G ρ x := by
  intro x hx
  cases x with
  | tmp t => exact h t (List.mem_append_left _ (List.mem_filterMap.2 ⟨.tmp t, by simpa using hx, rfl⟩))
  | _ => rfl

def upD (d : Nat → Dt) (m : Nat) (x : Dt) : Nat → Dt := fun j => if j = m then x else d j

theorem upD_lt {d : Nat → Dt} {m : Nat} {x : Dt} {i : Nat} (h : i < m) : d i = upD d m x i := by simp [upD, Nat.ne_of_lt h]
theorem upD_self {d : Nat → Dt} {m : Nat} {x : Dt} : upD d m x m = x := by simp [upD]

theorem canon_below {all : Array Oper} {d d' : Nat → Dt} {s0 : St} {m : Nat} (h : ∀ j, j < m → d j = d' j) : canon all d s0 m = canon all d' s0 m := by
  unfold canon canonH
  rw [envAt_below h, getAt_below h, nal_below h]

theorem GoodAt.below {all : Array Oper} {bs : List Nat} {s0 : St} {d d' : Nat → Dt} {i : Nat} (g : GoodAt P G all bs s0 d i) (h : ∀ j, j ≤ i → d j = d' j) : GoodAt P G all bs s0 d' i := by
  have hi := h i (Nat.le_refl _)
  have hn : nal d i = nal d' i := nal_below fun j hj => h j (by omega)
  have hc : canon all d s0 i = canon all d' s0 i := canon_below fun j hj => h j (by omega)
  obtain ⟨a, b, c, e, f⟩ := g
  refine ⟨?_, ?_, ?_, ?_, ?_⟩
  · rw [← hi, ← hn, ← hc]; exact a
  · rw [← hi]; exact b
  · rw [← hi, ← hn]; exact c
  · rw [← hi, ← hn]; exact e
  · intro j hj hb
    rw [← hi, ← h j (by omega)]
    exact f j hj hb

def Covers (d : Nat → Dt) (m : Nat) (acc : List (Nat × FP)) : Prop := ∀ j, j < m → (d j).f = ⟨[], []⟩ ∨ (j, (d j).f) ∈ acc

theorem Covers.add {d : Nat → Dt} {m : Nat} {acc : List (Nat × FP)} (h : Covers d m acc) (x : Dt) : Covers (upD d m x) (m + 1) (addF m x.f acc) := by
  intro j hj
  have key : ∀ p, p ∈ acc → p ∈ addF m x.f acc := by
    intro p hp
    unfold addF
    split
    · exact hp
    · exact List.mem_cons_of_mem _ hp
  by_cases hjm : j = m
  · subst hjm
    rw [upD_self]
    by_cases hf : x.f = ⟨[], []⟩
    · exact .inl hf
    · refine .inr ?_
      unfold addF
      split
      · rename_i h0; exact absurd h0 hf
      · exact List.mem_cons_self
  · rw [← upD_lt (x := x) (by omega)]
    exact (h j (by omega)).imp id (key _)

theorem apart_of {d : Nat → Dt} {m : Nat} {acc : List (Nat × FP)} {b : Nat} {f : FP} (hc : Covers d m acc) (h : ApartA b f acc) : ∀ j, j < m → b.testBit j = false → (∀ r, r ∈ f.eff → r ∉ (d j).f.rs) ∧ (∀ r, r ∈ (d j).f.eff → r ∉ f.rs) := by
  intro j hj hb
  rcases hc j hj with h0 | h1
  · rw [h0]
    exact ⟨fun r _ h => (by cases h), fun r h => (by cases h)⟩
  · exact h _ h1 hb

theorem canon_succ {all : Array Oper} {d : Nat → Dt} {s0 : St} {m : Nat} {x : Dt} {o : Oper} (ho : all[m]? = some o) :
    canon all (upD d m x) s0 (m + 1) = ⟨putA (canon all d s0 m).ρ o.dst x.v, ⟨effGet x.e (canon all d s0 m).H.get, (canon all d s0 m).H.next + (if x.al then 1 else 0)⟩⟩ := by
  have hb : ∀ j, j < m → d j = upD d m x j := fun j hj => upD_lt hj
  unfold canon canonH
  simp only [envAt, getAt, nal, if_true, upD_self]
  rw [← envAt_below hb, ← getAt_below hb, ← nal_below hb]
  simp only [dstAt, ho, Option.bind_some, Nat.add_assoc]


theorem trace_add {all : Array Oper} {bs : List Nat} {s0 : St} {d : Nat → Dt} {m : Nat} {x : Dt} (hg : ∀ i, i < m → GoodAt P G all bs s0 d i) (hx : GoodAt P G all bs s0 (upD d m x) m) :
    ∀ i, i < m + 1 → GoodAt P G all bs s0 (upD d m x) i := by
  intro i hi
  by_cases him : i = m
  · subst him; exact hx
  · exact (hg i (by omega)).below fun j hj => upD_lt (by omega)

theorem trace {all : Array Oper} {bs : List Nat} {s0 : St} {tail : St → Prop} {K : Nat} (hbs : bs.length = K) (hK : K ≤ all.size) : ∀ (k m : Nat) (d : Nat → Dt) (acc : List (Nat × FP)), k + m = K →
    (∀ i, i < m → GoodAt P G all bs s0 d i) → Covers d m acc → WFH (canon all d s0 m).H → opsD P G all tail (bs.drop m) m acc ((all.toList.take K).drop m) (canon all d s0 m) →
    ∃ d', (∀ i, i < K → GoodAt P G all bs s0 d' i) ∧ tail (canon all d' s0 K) := by
  intro k
  induction k with
  | zero =>
    intro m d acc hm hg hc wf h
    obtain rfl : m = K := by omega
    refine ⟨d, hg, ?_⟩
    have : (all.toList.take m).drop m = [] := by
      apply List.drop_eq_nil_of_le
      simp only [List.length_take]
      omega
    rw [this] at h
    cases hb : bs.drop m with
    | nil => rw [hb] at h; simpa only [opsD] using h
    | cons b bs' => rw [hb] at h; simpa only [opsD] using h
  | succ k ih =>
    intro m d acc hm hg hc wf h
    have hmK : m < K := by omega
    have hms : m < all.size := by omega
    have ho : all[m]? = some all[m] := Array.getElem?_eq_getElem hms
    have hbm : bs.drop m = bitAt bs m :: bs.drop (m + 1) := by
      rw [List.drop_eq_getElem_cons (by omega)]
      congr 1
      simp [bitAt, List.getElem?_eq_getElem (show m < bs.length by omega)]
    have hom : (all.toList.take K).drop m = all[m] :: (all.toList.take K).drop (m + 1) := by
      rw [List.drop_eq_getElem_cons (by simp only [List.length_take, Array.length_toList]; omega)]
      congr 1
      simp
    rw [hbm, hom] at h
    simp only [opsD] at h
    obtain ⟨t, ht, h⟩ := h
    have hnext : (canon all d s0 m).H.next = s0.H.next + nal d m := rfl
    cases t with
    | false =>
      simp only [Bool.false_eq_true, if_false] at h
      let x : Dt := ⟨.lit undef, none, false, ⟨[], []⟩⟩
      have hb : ∀ j, j < m → d j = upD d m x j := fun j hj => upD_lt hj
      have hcan : canon all (upD d m x) s0 (m + 1) = ⟨putA (canon all d s0 m).ρ all[m].dst (.lit undef), (canon all d s0 m).H⟩ := canon_succ ho
      have hgx : GoodAt P G all bs s0 (upD d m x) m := by
        refine ⟨?_, ?_, ?_, ?_, ?_⟩
        · rw [upD_self, ← canon_below hb]
          intro o ho' ρ2 H2 h1 h2 h3 _
          rw [ho] at ho'
          cases ho'
          refine .inl ⟨?_, rfl⟩
          simp only
          rw [wantA_env h1, ht]
        · rw [upD_self]; intro k b he; cases he
        · rw [upD_self]; intro he; cases he
        · rw [upD_self]; intro r hr; cases hr
        · rw [upD_self]
          intro j hj hbit
          exact ⟨fun r hr => (by cases hr), fun r hr hr' => (by cases hr')⟩
      refine ih (m + 1) (upD d m x) acc (by omega) (trace_add hg hgx) (hc.add x) ?_ ?_
      · rw [hcan]; exact wf
      · rw [hcan]; exact h
    | true =>
      simp only [if_true] at h
      unfold opD at h
      split at h
      · rename_i fv args ats hop
        obtain ⟨v, rs, ⟨hlt, hcall⟩, hap, h⟩ := h
        let x : Dt := ⟨v, none, false, ⟨[], rs⟩⟩
        have hb : ∀ j, j < m → d j = upD d m x j := fun j hj => upD_lt hj
        have hcan : canon all (upD d m x) s0 (m + 1) = ⟨putA (canon all d s0 m).ρ all[m].dst v, (canon all d s0 m).H⟩ := canon_succ ho
        have hgx : GoodAt P G all bs s0 (upD d m x) m := by
          refine ⟨?_, ?_, ?_, ?_, ?_⟩
          · rw [upD_self, ← canon_below hb]
            intro o ho' ρ2 H2 h1 h2 h3 h4
            rw [ho] at ho'
            cases ho'
            refine .inr ⟨?_, v, rfl, .inr ⟨fv, args, ats, hop, rfl, ?_⟩⟩
            · simp only
              rw [wantA_env h1, ht]
            · have hev := evA_env (G := G) h1
              have e1 : evA G ρ2 fv = evA G (canon all d s0 m).ρ fv := hev fv (by simp [hop, Op.operands, Call.operands])
              have e2 : args.toList.map (evA G ρ2) = args.toList.map (evA G (canon all d s0 m).ρ) :=
                List.map_congr_left fun y hy => hev y (by simp only [hop, Op.operands, Call.operands]; simp; exact .inr (by simpa using hy))
              simp only
              rw [e1, e2]
              exact hcall H2 h2 (by rw [hnext, nal_below hb]; exact h4)
          · rw [upD_self]; intro k b he; cases he
          · rw [upD_self]; intro he; cases he
          · rw [upD_self, ← nal_below hb]; exact hlt
          · rw [upD_self]
            intro j hj hbit
            rw [← upD_lt hj]
            exact apart_of hc hap j hj hbit
        refine ih (m + 1) (upD d m x) _ (by omega) (trace_add hg hgx) (hc.add x) ?_ ?_
        · rw [hcan]; exact wf
        · rw [hcan]; exact h
      · obtain ⟨⟨v, H'⟩, hop, hap, h⟩ := h
        obtain ⟨e, al, hget, hnx, heff, hal, hlt, hloc⟩ := opA_local wf hop
        let x : Dt := ⟨v, e, al, fpO P G (canon all d s0 m).ρ (canon all d s0 m).H.next all[m].op⟩
        have hb : ∀ j, j < m → d j = upD d m x j := fun j hj => upD_lt hj
        have hcan : canon all (upD d m x) s0 (m + 1) = ⟨putA (canon all d s0 m).ρ all[m].dst v, H'⟩ := by
          rw [canon_succ ho]
          congr 1
          cases H'
          simp only at hget hnx
          simp only [AHeap.mk.injEq]
          refine ⟨hget.symm, ?_⟩
          rw [hnx]
          simp only [x]
          cases al <;> simp
        have hgx : GoodAt P G all bs s0 (upD d m x) m := by
          refine ⟨?_, ?_, ?_, ?_, ?_⟩
          · rw [upD_self, ← canon_below hb, ← nal_below hb]
            intro o ho' ρ2 H2 h1 h2 h3 h4
            rw [ho] at ho'
            cases ho'
            refine .inr ⟨?_, v, rfl, .inl ?_⟩
            · simp only
              rw [wantA_env h1, ht]
            · simp only
              rw [opA_env (ρ' := (canon all d s0 m).ρ) (evA_env h1)]
              exact hloc H2 h2 h3
          · rw [upD_self]; exact heff
          · rw [upD_self, ← nal_below hb]; exact hal
          · rw [upD_self, ← nal_below hb]; exact hlt
          · rw [upD_self]
            intro j hj hbit
            rw [← upD_lt hj]
            exact apart_of hc hap j hj hbit
        have wf' : WFH H' := by
          intro id b hid
          rw [hget] at hid
          rw [hnx]
          cases e with
          | none =>
            have := wf id b hid
            split <;> omega
          | some kb =>
            obtain ⟨k0, b0⟩ := kb
            simp only [effGet] at hid
            split at hid
            · rename_i hk
              subst hk
              cases al with
              | true =>
                obtain ⟨b1, hb1⟩ := hal rfl
                simp only [Option.some.injEq, Prod.mk.injEq] at hb1
                simp only [if_true]
                omega
              | false =>
                have := hlt _ ((heff id b0 rfl).2 rfl)
                simpa using this
            · have := wf id b hid
              split <;> omega
        refine ih (m + 1) (upD d m x) _ (by omega) (trace_add hg hgx) (hc.add x) ?_ ?_
        · rw [hcan]; exact wf'
        · rw [hcan]; exact h

end Go.Hx
