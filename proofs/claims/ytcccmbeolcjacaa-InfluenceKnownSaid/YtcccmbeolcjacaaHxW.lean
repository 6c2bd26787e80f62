/-
  Forgetting: blocks that never turn again become plain contents, and fall out of the heap. Own work: no program stands in this text.
-/
import Derived.Test.YtcccmbeolcjacaaHxY
namespace Go.Hx
variable {P : Program} {G : Nat → Option (List AVal)} {Γ Γ' : Gam} {H H' : AHeap} {w w' : World}

/-- All handles lie below a number. -/
inductive Below (n : Nat) : AVal → Prop
  | lit (v : Value) : Below n (.lit v)
  | vec {len : Nat} {cells : List AVal} (h : ∀ i (h : i < cells.length), Below n cells[i]) : Below n (.vec len cells)
  | vptr {off : Nat} {cells : List AVal} (h : ∀ i (h : i < cells.length), Below n cells[i]) : Below n (.vptr cells off)
  | agg {cells : List AVal} (h : ∀ i (h : i < cells.length), Below n cells[i]) : Below n (.agg cells)
  | tup {cells : List AVal} (h : ∀ i (h : i < cells.length), Below n cells[i]) : Below n (.tup cells)
  | clo {f : FuncId} {a b : List AVal} (h1 : ∀ i (h : i < a.length), Below n a[i]) (h2 : ∀ i (h : i < b.length), Below n b[i]) : Below n (.clo f a b)
  | own {id g o l z : Nat} (h : id < n) : Below n (.own id g o l z)
  | ptr {id g o : Nat} (h : id < n) : Below n (.ptr id g o)
  | yld {id : Nat} (h : id < n) : Below n (.yld id)

theorem RelV.belowN {v : AVal} {cv : Value} (h : RelV P Γ H w v cv) : Below H.next v := by
  induction h with
  | lit v => exact .lit v
  | vec0 a cap => exact .vec fun i h => absurd h (Nat.not_lt_zero _)
  | vec hb hlt hlen hcs hcell hrel ih => exact .vec fun i h => ih i h (by omega)
  | own h => exact .own h.1
  | ptr h => exact .ptr h.1
  | vptr hb hlt hcs hcell hrel ih => exact .vptr fun i h => ih i h (by omega)
  | agg hcs hrel ih => exact .agg fun i h => ih i h (by omega)
  | tup hcs hrel ih => exact .tup fun i h => ih i h (by omega)
  | clo hfs hcs hf hc ih1 ih2 => exact .clo (fun i h => ih1 i h (by omega)) fun i h => ih2 i h (by omega)
  | yld h => exact .yld h.1

def BelowB (n : Nat) : Blk → Prop
  | .arr _ _ cells => ∀ i (h : i < cells.length), Below n cells[i]
  | .loop _ _ m env _ _ _ => ∀ t, t < m → Below n (env t)
  | .rsv => True

/-- A heap whose blocks hold no handles beyond it. -/
structure Clo (H : AHeap) : Prop where
  lt : ∀ id b, H.get id = some b → id < H.next
  below : ∀ id b, H.get id = some b → BelowB H.next b

theorem RelH.clo (R : RelH P G Γ H w) : Clo H := by
  refine ⟨fun id b h => R.next id b h, fun id b h => ?_⟩
  cases b with
  | rsv => trivial
  | arr g e cells =>
    intro i hi
    have h1 := R.arr id g e cells h
    split at h1
    · obtain ⟨c, _, _, _, h5⟩ := h1
      obtain ⟨cv, _, h6⟩ := h5 i hi
      exact h6.belowN
    · subst h1
      exact absurd hi (Nat.not_lt_zero _)
  | loop st pend n env ps asg body =>
    intro t ht
    obtain ⟨b, r, _, _, _, _, _, _, _, h8, h9⟩ := R.loop id st pend n env ps asg body h
    exact (h9 t (by omega)).belowN

/-- Freezing: handles to the blocks in S become contents; all other handles stay, below nx. -/
inductive Fz (S : Nat → Prop) (H : AHeap) (nx : Nat) : AVal → AVal → Prop
  | lit (v : Value) : Fz S H nx (.lit v) (.lit v)
  | vec {len : Nat} {c c' : List AVal} (hl : c'.length = c.length) (h : ∀ i (h : i < c.length) (h' : i < c'.length), Fz S H nx c[i] c'[i]) : Fz S H nx (.vec len c) (.vec len c')
  | vptr {off : Nat} {c c' : List AVal} (hl : c'.length = c.length) (h : ∀ i (h : i < c.length) (h' : i < c'.length), Fz S H nx c[i] c'[i]) : Fz S H nx (.vptr c off) (.vptr c' off)
  | agg {c c' : List AVal} (hl : c'.length = c.length) (h : ∀ i (h : i < c.length) (h' : i < c'.length), Fz S H nx c[i] c'[i]) : Fz S H nx (.agg c) (.agg c')
  | tup {c c' : List AVal} (hl : c'.length = c.length) (h : ∀ i (h : i < c.length) (h' : i < c'.length), Fz S H nx c[i] c'[i]) : Fz S H nx (.tup c) (.tup c')
  | clo {f : FuncId} {a a' b b' : List AVal} (ha : a'.length = a.length) (hb : b'.length = b.length) (h1 : ∀ i (h : i < a.length) (h' : i < a'.length), Fz S H nx a[i] a'[i]) (h2 : ∀ i (h : i < b.length) (h' : i < b'.length), Fz S H nx b[i] b'[i]) : Fz S H nx (.clo f a b) (.clo f a' b')
  | own {id g o l z : Nat} (h : id < nx) (hs : ¬ S id) : Fz S H nx (.own id g o l z) (.own id g o l z)
  | ptr {id g o : Nat} (h : id < nx) (hs : ¬ S id) : Fz S H nx (.ptr id g o) (.ptr id g o)
  | yld {id : Nat} (h : id < nx) (hs : ¬ S id) : Fz S H nx (.yld id) (.yld id)
  | nil : Fz S H nx (.lit (.slice none 0 0)) (.vec 0 [])
  | frz {id g o l z : Nat} {e : TypeId} {cells c' : List AVal} (hs : S id) (hg : H.get id = some (.arr g e cells)) (hl : c'.length = l * z)
      (h : ∀ i (h : i < l * z) (h2 : o + i < cells.length) (h' : i < c'.length), Fz S H nx cells[o + i] c'[i]) : Fz S H nx (.own id g o l z) (.vec l c')
  | pfrz {id g o : Nat} {e : TypeId} {cells c' : List AVal} (hs : S id) (hg : H.get id = some (.arr g e cells)) (hne : cells ≠ []) (hl : c'.length = cells.length)
      (h : ∀ i (h : i < cells.length) (h' : i < c'.length), Fz S H nx cells[i] c'[i]) : Fz S H nx (.ptr id g o) (.vptr c' o)

theorem Fz.refl {S : Nat → Prop} {H : AHeap} {nx : Nat} {v : AVal} (h : Below nx v) (hs : ∀ id, id < nx → ¬ S id) : Fz S H nx v v := by
  induction h with
  | lit v => exact .lit v
  | vec _ ih => exact .vec rfl fun i h _ => ih i h
  | vptr _ ih => exact .vptr rfl fun i h _ => ih i h
  | agg _ ih => exact .agg rfl fun i h _ => ih i h
  | tup _ ih => exact .tup rfl fun i h _ => ih i h
  | clo _ _ ih1 ih2 => exact .clo rfl rfl (fun i h _ => ih1 i h) fun i h _ => ih2 i h
  | own h => exact .own h (hs _ h)
  | ptr h => exact .ptr h (hs _ h)
  | yld h => exact .yld h (hs _ h)

def FzB (S : Nat → Prop) (H : AHeap) (nx : Nat) : Blk → Blk → Prop
  | .arr g e c, .arr g' e' c' => g' = g ∧ e' = e ∧ c'.length = c.length ∧ ∀ i (_ : i < c.length) (_ : i < c'.length), Fz S H nx c[i] c'[i]
  | .loop st pend n env ps asg body, .loop st' pend' n' env' ps' asg' body' => st' = st ∧ pend' = pend ∧ n' = n ∧ env' = env ∧ ps' = ps ∧ asg' = asg ∧ body' = body ∧ ∀ t, t < n → Fz S H nx (env t) (env t)
  | .rsv, .rsv => True
  | _, _ => False

structure FzH (S : Nat → Prop) (H H' : AHeap) : Prop where
  gone : ∀ id, S id → H'.get id = none
  kept : ∀ id b, ¬ S id → H.get id = some b → id < H'.next ∧ ∃ b', H'.get id = some b' ∧ FzB S H H'.next b b'
  none : ∀ id, ¬ S id → H.get id = none → H'.get id = none

open Classical in
noncomputable def gamF (S : Nat → Prop) (Γ : Gam) : Gam := fun id => if S id then none else Γ id

theorem gamF_out {S : Nat → Prop} {id : Nat} (h : ¬ S id) : gamF S Γ id = Γ id := by simp [gamF, h]
theorem gamF_some {S : Nat → Prop} {id : Nat} {x : Nat × Nat × Nat} (h : gamF S Γ id = some x) : ¬ S id ∧ Γ id = some x := by
  unfold gamF at h
  split at h
  · cases h
  · exact ⟨by assumption, h⟩
theorem gamF_owns {S : Nat → Prop} {b : Nat} (h : (gamF S Γ).owns b) : Γ.owns b := by
  obtain ⟨id, base, n, h⟩ := h
  exact ⟨id, base, n, (gamF_some h).2⟩

theorem FzH.back {S : Nat → Prop} (F : FzH S H H') {id : Nat} {b' : Blk} (h : H'.get id = some b') : ¬ S id ∧ ∃ b, H.get id = some b ∧ FzB S H H'.next b b' ∧ id < H'.next := by
  have hs : ¬ S id := fun hs => by rw [F.gone id hs] at h; cases h
  refine ⟨hs, ?_⟩
  cases hg : H.get id with
  | none => rw [F.none id hs hg] at h; cases h
  | some b =>
    obtain ⟨h1, b1, h2, h3⟩ := F.kept id b hs hg
    rw [h] at h2
    cases h2
    exact ⟨b, rfl, h3, h1⟩

theorem Fz.sound {S : Nat → Prop} (R : RelH P G Γ H w) (F : FzH S H H') {v v' : AVal} (hf : Fz S H H'.next v v') : ∀ {cv : Value}, RelV P Γ H w v cv → RelV P (gamF S Γ) H' w v' cv := by
  induction hf with
  | lit v => intro cv h; cases h; exact .lit _
  | nil => intro cv h; cases h; exact .vec0 none 0
  | vec hl hc ih =>
    intro cv h
    cases h with
    | vec0 a cap =>
      rename_i c' 
      have : c' = [] := List.eq_nil_of_length_eq_zero hl
      subst this
      exact .vec0 a cap
    | vec hb hlt hlen hcs hcell hrel => exact .vec (fun h => hb (gamF_owns h)) hlt hlen (by omega) hcell fun i h1 h2 => ih i (by omega) h1 (hrel i (by omega) h2)
  | vptr hl hc ih =>
    intro cv h
    cases h with
    | vptr hb hlt hcs hcell hrel => exact .vptr (fun h => hb (gamF_owns h)) hlt (by omega) hcell fun i h1 h2 => ih i (by omega) h1 (hrel i (by omega) h2)
  | agg hl hc ih =>
    intro cv h
    cases h with
    | agg hcs hrel => exact .agg (by omega) fun i h1 h2 => ih i (by omega) h1 (hrel i (by omega) h2)
  | tup hl hc ih =>
    intro cv h
    cases h with
    | tup hcs hrel => exact .tup (by omega) fun i h1 h2 => ih i (by omega) h1 (hrel i (by omega) h2)
  | clo ha hb h1 h2 ih1 ih2 =>
    intro cv h
    cases h with
    | clo hfs hcs hf hc => exact .clo (by omega) (by omega) (fun i a b => ih1 i (by omega) a (hf i (by omega) b)) fun i a b => ih2 i (by omega) a (hc i (by omega) b)
  | own hlt hs =>
    intro cv h
    cases h with
    | own h =>
      obtain ⟨h1, h2, h0, h3⟩ := h
      refine .own ⟨hlt, h2, fun hr => ?_, fun g' e' cells' hg' => ?_⟩
      · obtain ⟨_, b, hb, hfb, _⟩ := F.back hr
        cases b with
        | rsv => exact h0 hb
        | _ => exact hfb.elim
      · obtain ⟨_, b, hb, hfb, _⟩ := F.back hg'
        cases b with
        | arr g e cells =>
          obtain ⟨rfl, rfl, hlen, _⟩ := hfb
          have := h3 _ _ _ hb
          rw [gamF_out hs, hlen]
          exact this
        | _ => exact hfb.elim
  | ptr hlt hs =>
    intro cv h
    cases h with
    | ptr h =>
      obtain ⟨h1, h2, h0, h3⟩ := h
      refine .ptr ⟨hlt, h2, fun hr => ?_, fun g' e' cells' hg' => ?_⟩
      · obtain ⟨_, b, hb, hfb, _⟩ := F.back hr
        cases b with
        | rsv => exact h0 hb
        | _ => exact hfb.elim
      · obtain ⟨_, b, hb, hfb, _⟩ := F.back hg'
        cases b with
        | arr g e cells =>
          obtain ⟨rfl, rfl, hlen, _⟩ := hfb
          have := h3 _ _ _ hb
          rw [gamF_out hs]
          exact this
        | _ => exact hfb.elim
  | yld hlt hs =>
    intro cv h
    cases h with
    | yld h =>
      obtain ⟨h1, h2, h0, h3⟩ := h
      refine .yld ⟨hlt, h2, fun hr => ?_, fun st pend n env ps asg body hg' => ?_⟩
      · obtain ⟨_, b, hb, hfb, _⟩ := F.back hr
        cases b with
        | rsv => exact h0 hb
        | _ => exact hfb.elim
      · obtain ⟨_, b, hb, hfb, _⟩ := F.back hg'
        cases b with
        | loop st0 pend0 n0 env0 ps0 asg0 body0 =>
          have := h3 _ _ _ _ _ _ _ hb
          rw [gamF_out hs]
          exact this
        | _ => exact hfb.elim
  | @frz id g o l z e cells c' hs hg hl hc ih =>
    intro cv h
    cases h with
    | own h =>
      obtain ⟨h1, h2, h0, h3⟩ := h
      have h4 := (h3 _ _ _ hg).2 rfl
      have harr := R.arr id g e cells hg
      cases hΓ : Γ id with
      | none =>
        rw [hΓ] at h4
        obtain ⟨rfl, rfl, rfl⟩ := h4
        have : c' = [] := List.eq_nil_of_length_eq_zero (by simpa using hl)
        subst this
        exact .vec0 _ _
      | some y =>
        obtain ⟨b, base, n⟩ := y
        rw [hΓ] at h4 harr
        obtain ⟨a, cap, rfl, hcap, hoff, hor⟩ := h4
        obtain ⟨c, a1, a2, a3, a4⟩ := harr
        rcases hor with ⟨rfl, hn⟩ | ⟨rfl, rfl⟩
        · have hcell : ∀ i, i < l * z → ∃ cv, c[base + (o + i)]? = some cv ∧ ∀ (h : o + i < cells.length), RelV P Γ H w cells[o + i] cv := fun i hi => by
            obtain ⟨cv, b1, b2⟩ := a4 (o + i) (by omega)
            exact ⟨cv, b1, fun _ => b2⟩
          let cs : List Value := (List.range (l * z)).map fun i => (c[base + (o + i)]?).getD undef
          have hcs : cs.length = c'.length := by simp [cs, hl]
          refine .vec (cs := cs) (fun ho => ?_) (R.lt _ _ _ _ hΓ) hcap hcs (fun i hi => ?_) fun i hi hi' => ?_
          · obtain ⟨id', base', n', h'⟩ := ho
            obtain ⟨hns, h''⟩ := gamF_some h'
            have := R.inj _ _ _ _ _ _ _ h'' hΓ
            subst this
            exact hns hs
          · have hi2 : i < l * z := by rw [hcs, hl] at hi; exact hi
            obtain ⟨cv, b1, _⟩ := hcell i hi2
            have : cs[i] = cv := by simp [cs, b1]
            rw [this]
            have he : base + o + i = base + (o + i) := by omega
            simp only [World.cell?, a1, he]
            exact b1
          · have hi2 : i < l * z := by rw [hl] at hi; exact hi
            obtain ⟨cv, b1, b2⟩ := hcell i hi2
            have : cs[i] = cv := by simp [cs, b1]
            rw [this]
            exact ih i hi2 (by omega) hi (b2 (by omega))
        · have : c' = [] := List.eq_nil_of_length_eq_zero (by simpa using hl)
          subst this
          exact .vec0 _ _
  | @pfrz id g o e cells c' hs hg hne hl hc ih =>
    intro cv h
    cases h with
    | ptr h =>
      obtain ⟨h1, h2, h0, h3⟩ := h
      obtain ⟨b, base, n, hΓ, rfl⟩ := (h3 _ _ _ hg).2 rfl
      have harr := R.arr id g e cells hg
      rw [hΓ] at harr
      obtain ⟨c, a1, a2, a3, a4⟩ := harr
      let cs : List Value := (List.range cells.length).map fun i => (c[base + i]?).getD undef
      have hcs : cs.length = c'.length := by simp [cs, hl]
      have hcell : ∀ i (hi : i < cells.length) (hi' : i < cs.length), c[base + i]? = some cs[i] ∧ RelV P Γ H w cells[i] cs[i] := fun i hi hi' => by
        obtain ⟨cv, b1, b2⟩ := a4 i hi
        have : cs[i] = cv := by simp [cs, b1]
        rw [this]
        exact ⟨b1, b2⟩
      refine .vptr (cs := cs) (fun ho => ?_) (R.lt _ _ _ _ hΓ) hcs (fun i hi => ?_) fun i hi hi' => ?_
      · obtain ⟨id', base', n', h'⟩ := ho
        obtain ⟨hns, h''⟩ := gamF_some h'
        have := R.inj _ _ _ _ _ _ _ h'' hΓ
        subst this
        exact hns hs
      · simp only [World.cell?, a1]
        exact (hcell i (by omega) hi).1
      · exact ih i (by omega) hi (hcell i (by omega) hi').2

theorem Fz.plain {S : Nat → Prop} {H : AHeap} {nx : Nat} {v : AVal} (h : Below 0 v) : Fz S H nx v v := by
  induction h with
  | lit v => exact .lit v
  | vec _ ih => exact .vec rfl fun i h _ => ih i h
  | vptr _ ih => exact .vptr rfl fun i h _ => ih i h
  | agg _ ih => exact .agg rfl fun i h _ => ih i h
  | tup _ ih => exact .tup rfl fun i h _ => ih i h
  | clo _ _ ih1 ih2 => exact .clo rfl rfl (fun i h _ => ih1 i h) fun i h _ => ih2 i h
  | own h => exact absurd h (Nat.not_lt_zero _)
  | ptr h => exact absurd h (Nat.not_lt_zero _)
  | yld h => exact absurd h (Nat.not_lt_zero _)

theorem Fz.ints {S : Nat → Prop} {H : AHeap} {nx id g o : Nat} {e : TypeId} {cells : List AVal} {x : List Int} {n : Nat} (hs : S id) (hg : H.get id = some (.arr g e cells)) (hn : n = x.length) (hx : ∀ i (h : i < x.length), cells[o + i]? = some (lin x[i])) :
    Fz S H nx (.own id g o n 1) (vecI x) := by
  subst hn
  refine .frz hs hg (by simp [Go.Hx.ints]) fun i hi h2 h' => ?_
  have h1 := hx i (by omega)
  rw [List.getElem?_eq_getElem h2] at h1
  rw [Option.some.inj h1]
  have : (Go.Hx.ints x)[i] = lin x[i] := by simp [Go.Hx.ints]
  rw [this]
  exact .lit _

theorem Fz.ints_nil {S : Nat → Prop} {H : AHeap} {nx : Nat} : Fz S H nx (.lit (.slice none 0 0)) (vecI []) := .nil
theorem Fz.keepInts {S : Nat → Prop} {H : AHeap} {nx : Nat} (x : List Int) : Fz S H nx (vecI x) (vecI x) :=
  .plain (.vec fun i h => by simp only [Go.Hx.ints, List.getElem_map]; exact .lit _)
theorem all_one_ints (x : List Int) : (Go.Hx.ints x).all AVal.one = true := by simp [Go.Hx.ints, lin, AVal.one, Value.oneCell]

/-- The contents of globals hold no handles. -/
def GOk (G : Nat → Option (List AVal)) : Prop := ∀ g cells, G g = some cells → Below 0 (.vptr cells 0)

theorem FzH.evo {S : Nat → Prop} (F : FzH S H H') : Evo Γ H w (gamF S Γ) H' w where
  os := rfl
  tape := rfl
  output := rfl
  size := Nat.le_refl _
  keep := fun _ _ h => ⟨rfl, fun h' => h (gamF_owns h')⟩
  live := fun id _ _ x' hx => by
    obtain ⟨hs, b, hb, hfb, _⟩ := F.back hx
    refine ⟨b, hb, ?_⟩
    cases b <;> cases x' <;> first | exact hfb.elim | skip
    · obtain ⟨rfl, rfl, hl, _⟩ := hfb
      exact ⟨Nat.le_refl _, fun _ => ⟨gamF_out hs, rfl, hl⟩⟩
    · obtain ⟨rfl, rfl, rfl, rfl, rfl, rfl, rfl, _⟩ := hfb
      exact ⟨gamF_out hs, rfl, rfl, rfl, rfl, rfl⟩
    · trivial
  frz := fun _ => rfl

theorem FzH.rel {S : Nat → Prop} (hG : GOk G) (R : RelH P G Γ H w) (F : FzH S H H') : RelH P G (gamF S Γ) H' w where
  arr id g e cells hg := by
    obtain ⟨hs, b, hb, hfb, _⟩ := F.back hg
    cases b with
    | arr g0 e0 c0 =>
      obtain ⟨rfl, rfl, hl, hc⟩ := hfb
      have h1 := R.arr _ _ _ _ hb
      rw [gamF_out hs]
      cases hΓ : Γ id with
      | none =>
        rw [hΓ] at h1
        simp only at h1 ⊢
        subst h1
        exact List.eq_nil_of_length_eq_zero hl
      | some y =>
        obtain ⟨b, base, n⟩ := y
        rw [hΓ] at h1
        obtain ⟨c, a1, a2, a3, a4⟩ := h1
        refine ⟨c, a1, a2, by omega, fun i hi => ?_⟩
        obtain ⟨cv, b1, b2⟩ := a4 i (by omega)
        exact ⟨cv, b1, (hc i (by omega) hi).sound R F b2⟩
    | _ => exact hfb.elim
  loop id st pend n env ps asg body hg := by
    obtain ⟨hs, b, hb, hfb, _⟩ := F.back hg
    cases b with
    | loop =>
      obtain ⟨rfl, rfl, rfl, rfl, rfl, rfl, rfl, hf⟩ := hfb
      obtain ⟨b, rr, a1, a2, a3, a4, a5, a6, a7, a8, a9⟩ := R.loop _ _ _ _ _ _ _ _ hb
      exact ⟨b, rr, by rw [gamF_out hs]; exact a1, a2, a3, a4, a5, a6, a7, a8, fun t ht => (hf t (by omega)).sound R F (a9 t ht)⟩
    | _ => exact hfb.elim
  rsv id hg := by
    obtain ⟨hs, b, hb, hfb, _⟩ := F.back hg
    cases b with
    | rsv => rw [gamF_out hs]; exact R.rsv id hb
    | _ => exact hfb.elim
  inj id id' b base n base' n' h h' := R.inj id id' b base n base' n' (gamF_some h).2 (gamF_some h').2
  dom id x h := by
    obtain ⟨hs, h⟩ := gamF_some h
    obtain ⟨y, hy⟩ := R.dom id x h
    obtain ⟨_, b', hb', _⟩ := F.kept id y hs hy
    exact ⟨b', hb'⟩
  lt id b base n h := R.lt id b base n (gamF_some h).2
  next id y h := by
    obtain ⟨_, _, _, _, h⟩ := F.back h
    exact h
  glob g cells h := (Fz.plain (hG g cells h)).sound R F (R.glob g cells h)

theorem WeakV.freeze {S : Nat → Prop} (hG : GOk G) {v v' : AVal} (F : FzH S H H') (hv : Fz S H H'.next v v') : WeakV P G H v H' v' :=
  fun Γ _ R => ⟨gamF S Γ, F.rel hG R, F.evo, fun _ h => hv.sound R F h⟩

theorem WeakS.freeze {S : Nat → Prop} (hG : GOk G) {s s' : St} (F : FzH S s.H s'.H) (hv : ∀ t, Fz S s.H s'.H.next (s.ρ t) (s'.ρ t)) : WeakS P G s s' := by
  intro n wb Γ a w hs
  have E : Evo Γ s.H w (gamF S Γ) s'.H w := F.evo
  refine ⟨gamF S Γ, ⟨hs.size, fun t => (hv t).sound hs.heap F (hs.env t), F.rel hG hs.heap, fun d h => let ⟨r, h1, h2, h3⟩ := hs.defers d h; ⟨r, h1, h2, h3.evo E⟩, hs.nodup, hs.low⟩, E, fun rd rb hr hri => ?_⟩
  cases rd with
  | none => exact hr
  | some id =>
    obtain ⟨b, st, pend, n, env, ps, asg, body, h1, h2, h3⟩ := hr
    obtain ⟨st', pend', n', env', ps', asg', body', h4⟩ := hri
    obtain ⟨hns, _⟩ := F.back h4
    exact ⟨b, _, _, _, _, _, _, _, h1, by rw [gamF_out hns]; exact h2, h4⟩

/-- The heap of a call, all of the call's own blocks let go. -/
theorem fzH_ext (hc : Clo H) (L : List Blk) : FzH (fun id => H.next ≤ id) (ext H L) H where
  gone id hs := by
    cases h : H.get id with
    | none => rfl
    | some b => have := hc.lt id b h; omega
  kept id b hs hb := by
    have hlt : id < H.next := Nat.lt_of_not_le hs
    rw [get_ext_old H L id hlt] at hb
    have hbb := hc.below id b hb
    refine ⟨hlt, b, hb, ?_⟩
    have hno : ∀ i, i < H.next → ¬ H.next ≤ i := fun i h => Nat.not_le_of_lt h
    cases b with
    | rsv => trivial
    | arr g e cells => exact ⟨rfl, rfl, rfl, fun i h _ => .refl (hbb i h) hno⟩
    | loop st pend n env ps asg body => exact ⟨rfl, rfl, rfl, rfl, rfl, rfl, rfl, fun t ht => .refl (hbb t ht) hno⟩
  none id hs hb := by
    rw [get_ext_old H L id (Nat.lt_of_not_le hs)] at hb
    exact hb

/-- The end of a function that leaves the heap of its caller as it was. -/
theorem FinV.drop (hG : GOk G) (hc : Clo H) {L : List Blk} {K : ARes → AHeap → Prop} {v v' : AVal} (hv : Fz (fun id => H.next ≤ id) (ext H L) H.next v v') (hk : K (.ret v') H) : FinV P G H K v (ext H L) :=
  ⟨v', H, .freeze hG (fzH_ext hc L) hv, Nat.le_refl _, hk⟩

theorem FinV.drop0 (hG : GOk G) (hc : Clo H) {K : ARes → AHeap → Prop} {v v' : AVal} (hv : Fz (fun id => H.next ≤ id) (ext H []) H.next v v') (hk : K (.ret v') H) : FinV P G H K v H := by
  have := FinV.drop (P := P) hG hc hv hk
  rw [ext_nil] at this
  exact this

/-- A contract, the heap's closedness at hand. -/
theorem ACall.clo {f : FuncId} {args : List AVal} {K : ARes → AHeap → Prop} (hf : ∃ fn, P.funcs[f]? = some fn ∧ fn.body.isNone = false ∧ (fn.name == "runtime.NumGoroutine") = false) (h : Clo H → ACall P G f args H K) : ACall P G f args H K :=
  ⟨hf, fun Γ w cargs R hr => (h R.clo).2 Γ w cargs R hr⟩

theorem ACall.argsBelow {f : FuncId} {args : List AVal} {K : ARes → AHeap → Prop} (hf : ∃ fn, P.funcs[f]? = some fn ∧ fn.body.isNone = false ∧ (fn.name == "runtime.NumGoroutine") = false) (h : Clo H → (∀ v, v ∈ args → Below H.next v) → ACall P G f args H K) : ACall P G f args H K :=
  ⟨hf, fun Γ w cargs R hr => (h R.clo (fun v hv => by
    obtain ⟨i, hi, rfl⟩ := List.mem_iff_getElem.1 hv
    exact (hr.2 i hi (by have := hr.1; omega)).belowN)).2 Γ w cargs R hr⟩

end Go.Hx
