/-
  How blocks are laid, written, grown and let go, with the relation kept. Own work: no program stands in this text.
-/
import Derived.Test.YtcccmbeolcjacaaHxB
namespace Go.Hx
variable {P : Program} {G : Nat → Option (List AVal)} {Γ Γ' : Gam} {H H' : AHeap} {w w' : World}

theorem cells_one {cv : Value} (h : cv.oneCell = true) : cv.cells = #[cv] := by
  cases cv <;> simp_all [Value.oneCell, Value.cells]

theorem RelV.cells {v : AVal} {cv : Value} (h : RelV P Γ H w v cv) : cv.cells.toList.length = v.cells.length ∧
    ∀ i (_ : i < v.cells.length) (_ : i < cv.cells.toList.length), RelV P Γ H w v.cells[i] cv.cells.toList[i] := by
  have one : ∀ {v : AVal} {cv : Value}, RelV P Γ H w v cv → v.cells = [v] → cv.cells = #[cv] → cv.cells.toList.length = v.cells.length ∧
      ∀ i (_ : i < v.cells.length) (_ : i < cv.cells.toList.length), RelV P Γ H w v.cells[i] cv.cells.toList[i] := by
    intro v cv h hv hc
    simp only [hv, hc]
    refine ⟨rfl, fun i h1 h2 => ?_⟩
    simp only [List.length_cons, List.length_nil] at h1
    have : i = 0 := by omega
    subst this
    exact h
  cases h with
  | lit v =>
    simp only [AVal.cells]
    refine ⟨by simp, fun i h1 h2 => ?_⟩
    simp only [List.getElem_map]
    exact .lit _
  | vec0 a cap => exact one (.vec0 a cap) rfl rfl
  | vec hb hlt hlen hcs hcell hrel => exact one (.vec hb hlt hlen hcs hcell hrel) rfl rfl
  | own h => exact one (.own h) rfl (cells_one h.2.1)
  | ptr h => exact one (.ptr h) rfl (cells_one h.2.1)
  | vptr hb hlt hcs hcell hrel => exact one (.vptr hb hlt hcs hcell hrel) rfl rfl
  | agg hcs hrel => exact ⟨by simpa [AVal.cells, Value.cells] using hcs, fun i h1 h2 => hrel i h1 h2⟩
  | tup hcs hrel => exact one (.tup hcs hrel) rfl rfl
  | clo hfs hcs hf hc => exact one (.clo hfs hcs hf hc) rfl rfl
  | yld h => exact one (.yld h) rfl (cells_one h.2.1)

theorem RelV.one {v : AVal} {cv : Value} (h : RelV P Γ H w v cv) (hv : v.one = true) : cv.oneCell = true := by
  cases h with
  | lit v => exact hv
  | own h => exact h.2.1
  | ptr h => exact h.2.1
  | yld h => exact h.2.1
  | agg => simp [AVal.one] at hv
  | tup => simp [AVal.one] at hv
  | _ => rfl

theorem allLit_rel : ∀ {cells : List AVal} {cs vs : List Value}, allLit cells = some vs → cs.length = cells.length →
    (∀ i (_ : i < cells.length) (_ : i < cs.length), RelV P Γ H w cells[i] cs[i]) → cs = vs := by
  intro cells
  induction cells with
  | nil => intro cs vs h hl _; simp only [allLit, Option.some.injEq] at h; subst h; simpa using hl
  | cons c cells ih =>
    intro cs vs h hl hr
    cases c with
    | lit v =>
      simp only [allLit, Option.map_eq_some_iff] at h
      obtain ⟨vs', h1, rfl⟩ := h
      cases cs with
      | nil => simp at hl
      | cons x cs =>
        have h0 := hr 0 (by simp) (by simp)
        simp only [List.getElem_cons_zero] at h0
        cases h0
        have := ih h1 (by simpa using hl) (fun i a b => hr (i + 1) (by simpa using a) (by simpa using b))
        rw [this]
    | _ => simp [allLit] at h

theorem RelV.toVal {v : AVal} {cv x : Value} (h : RelV P Γ H w v cv) (hx : v.toVal = some x) : cv = x := by
  cases h with
  | lit v => simpa [AVal.toVal] using hx
  | agg hcs hrel =>
    simp only [AVal.toVal, Option.map_eq_some_iff] at hx
    obtain ⟨l, h1, rfl⟩ := hx
    rw [allLit_rel h1 hcs hrel]
  | _ => simp [AVal.toVal] at hx

theorem Blk.le_same {id : Nat} (h : Γ' id = Γ id) (x : Blk) : Blk.le Γ Γ' id x x := by
  cases x <;> simp [Blk.le, h]

theorem owns_iff_of {b : Nat} (h : ∀ j, Γ' j = Γ j) : Γ'.owns b ↔ Γ.owns b := by
  simp only [Gam.owns, h]

/-- The relation where one block has changed. -/
theorem RelH.of_one {id : Nat} (R : RelH P G Γ H w) (E : Evo Γ H w Γ' H' w') (hn : H.next ≤ H'.next) (hget : ∀ j, j ≠ id → H'.get j = H.get j)
    (hΓ : ∀ j, j ≠ id → Γ' j = Γ j) (hheap : ∀ j b base n, j ≠ id → Γ j = some (b, base, n) → w'.heap[b]? = w.heap[b]?)
    (harr : ∀ g e cells, H'.get id = some (.arr g e cells) →
      match Γ' id with
      | some (b, base, n) => ∃ c, w'.heap[b]? = some (.cells c e (0, 0)) ∧ c.size = n ∧ base + cells.length ≤ n ∧
          ∀ i (_ : i < cells.length), ∃ cv, c[base + i]? = some cv ∧ RelV P Γ' H' w' cells[i] cv
      | none => cells = [])
    (hloop : ∀ st pend n env ps asg body, H'.get id = some (.loop st pend n env ps asg body) →
      ∃ b r, Γ' id = some (b, 0, 0) ∧ w'.heap[b]? = some (.loop r) ∧ r.state = st ∧ r.pending = pend ∧ r.params = ps ∧ r.assign = asg ∧ r.body = body ∧
        r.tmps.size = n ∧ (∀ t (_ : t < r.tmps.size), RelV P Γ' H' w' (env t) r.tmps[t]))
    (hrsv : H'.get id = some .rsv → Γ' id = none)
    (hinj : ∀ j b base n base' n', j ≠ id → Γ' id = some (b, base, n) → Γ j = some (b, base', n') → False)
    (hdom : ∀ x, Γ' id = some x → ∃ y, H'.get id = some y) (hlt : ∀ b base n, Γ' id = some (b, base, n) → b < w'.heap.size)
    (hnext : ∀ y, H'.get id = some y → id < H'.next) : RelH P G Γ' H' w' where
  arr j g e cells hj := by
    by_cases h : j = id
    · subst h; exact harr g e cells hj
    · rw [hget j h] at hj
      have h1 := R.arr j g e cells hj
      rw [hΓ j h]
      cases hg : Γ j with
      | none => rw [hg] at h1; exact h1
      | some x =>
        obtain ⟨b, base, n⟩ := x
        rw [hg] at h1
        obtain ⟨c, a1, a2, a3, a4⟩ := h1
        exact ⟨c, (hheap j b base n h hg).trans a1, a2, a3, fun i hi => let ⟨cv, b1, b2⟩ := a4 i hi; ⟨cv, b1, b2.evo E hn⟩⟩
  loop j st pend n env ps asg body hj := by
    by_cases h : j = id
    · subst h; exact hloop st pend n env ps asg body hj
    · rw [hget j h] at hj
      obtain ⟨b, r, a1, a2, a3, a4, a5, a6, a7, a8, a9⟩ := R.loop j st pend n env ps asg body hj
      exact ⟨b, r, (hΓ j h).trans a1, (hheap j b 0 0 h a1).trans a2, a3, a4, a5, a6, a7, a8, fun t ht => (a9 t ht).evo E hn⟩
  rsv j hj := by
    by_cases h : j = id
    · subst h; exact hrsv hj
    · rw [hget j h] at hj; rw [hΓ j h]; exact R.rsv j hj
  inj i j b base n base' n' h1 h2 := by
    by_cases hi : i = id
    · by_cases hj : j = id
      · rw [hi, hj]
      · rw [hi] at h1; rw [hΓ j hj] at h2; exact (hinj j b base n base' n' hj h1 h2).elim
    · by_cases hj : j = id
      · rw [hj] at h2; rw [hΓ i hi] at h1; exact (hinj i b base' n' base n hi h2 h1).elim
      · rw [hΓ i hi] at h1; rw [hΓ j hj] at h2; exact R.inj i j b base n base' n' h1 h2
  dom j x hx := by
    by_cases h : j = id
    · subst h; exact hdom x hx
    · rw [hΓ j h] at hx; rw [hget j h]; exact R.dom j x hx
  lt j b base n hx := by
    by_cases h : j = id
    · subst h; exact hlt b base n hx
    · rw [hΓ j h] at hx; exact Nat.lt_of_lt_of_le (R.lt j b base n hx) E.size
  next j y hy := by
    by_cases h : j = id
    · subst h; exact hnext y hy
    · rw [hget j h] at hy; exact Nat.lt_of_lt_of_le (R.next j y hy) hn
  glob g cells hg := (R.glob g cells hg).evo E hn

def Gam.upd (Γ : Gam) (id : Nat) (x : Option (Nat × Nat × Nat)) : Gam := fun j => if j = id then x else Γ j

theorem Gam.upd_same (Γ : Gam) (id : Nat) (x : Option (Nat × Nat × Nat)) : Γ.upd id x id = x := by simp [Gam.upd]
theorem Gam.upd_other (Γ : Gam) (id : Nat) (x : Option (Nat × Nat × Nat)) {j : Nat} (h : j ≠ id) : Γ.upd id x j = Γ j := by simp [Gam.upd, h]

theorem heap_alloc (w : World) (o : Obj) (b : Nat) : (w.alloc o).heap[b]? = if b = w.heap.size then some o else w.heap[b]? := by
  show (w.heap.push o)[b]? = _
  rw [Array.getElem?_push]

theorem heap_alloc_lt {w : World} {o : Obj} {b : Nat} (h : b < w.heap.size) : (w.alloc o).heap[b]? = w.heap[b]? := by
  rw [heap_alloc, if_neg (by omega)]

/-- What a lay does to an abstract heap. -/
theorem lay_some {id : Nat} {b : Blk} (h : H.lay id b = some H') :
    (∀ j, H'.get j = if j = id then some b else H.get j) ∧ ((id = H.next ∧ H'.next = H.next + 1) ∨ (H.get id = some .rsv ∧ H'.next = H.next)) := by
  unfold AHeap.lay at h
  split at h
  · rename_i hid
    simp only [Option.some.injEq] at h
    subst h
    exact ⟨fun j => rfl, .inl ⟨hid, rfl⟩⟩
  · split at h
    · rename_i hr
      simp only [Option.some.injEq] at h
      subst h
      exact ⟨fun j => rfl, .inr ⟨hr, rfl⟩⟩
    · cases h

theorem lay_fresh (R : RelH P G Γ H w) {id : Nat} {b : Blk} (h : H.lay id b = some H') : Γ id = none ∧ (H.get id = none ∨ H.get id = some .rsv) ∧ H.next ≤ H'.next ∧ id < H'.next := by
  obtain ⟨_, h2 | h2⟩ := lay_some h
  · have hn : H.get id = none := by
      cases hg : H.get id with
      | none => rfl
      | some y => have := R.next id y hg; omega
    have hΓ : Γ id = none := by
      cases hg : Γ id with
      | none => rfl
      | some x => obtain ⟨y, hy⟩ := R.dom id x hg; rw [hn] at hy; cases hy
    exact ⟨hΓ, .inl hn, by omega, by omega⟩
  · have := R.next id _ h2.1
    exact ⟨R.rsv id h2.1, .inr h2.1, by omega, by omega⟩

/-- A new block of cells. -/
theorem lay_sound {id : Nat} {e : TypeId} {cells : List AVal} {c : Array Value} (R : RelH P G Γ H w) (h : H.lay id (.arr 0 e cells) = some H')
    (hlen : cells.length ≤ c.size) (hrel : ∀ i (_ : i < cells.length), ∃ cv, c[i]? = some cv ∧ RelV P Γ H w cells[i] cv) :
    Evo Γ H w (Γ.upd id (some (w.heap.size, 0, c.size))) H' (w.alloc (.cells c e)) ∧ H.next ≤ H'.next ∧
      RelH P G (Γ.upd id (some (w.heap.size, 0, c.size))) H' (w.alloc (.cells c e)) := by
  obtain ⟨f1, f2, f3, f4⟩ := lay_fresh R h
  obtain ⟨hget, _⟩ := lay_some h
  have E : Evo Γ H w (Γ.upd id (some (w.heap.size, 0, c.size))) H' (w.alloc (.cells c e)) := by
    refine ⟨rfl, rfl, rfl, by simp, fun b hb ho => ⟨heap_alloc_lt hb, ?_⟩, fun j hj hj' x' hx' => ?_, ?_⟩
    · rintro ⟨j, base, n, hj⟩
      by_cases hji : j = id
      · rw [hji, Gam.upd_same] at hj; simp only [Option.some.injEq, Prod.mk.injEq] at hj; omega
      · rw [Gam.upd_other _ _ _ hji] at hj; exact ho ⟨j, base, n, hj⟩
    · rw [hget] at hx'
      by_cases hji : j = id
      · subst hji
        rcases f2 with f2 | f2
        · obtain ⟨_, h2 | h2⟩ := lay_some h
          · omega
          · rw [f2] at h2; cases h2.1
        · exact ⟨.rsv, f2, trivial⟩
      · rw [if_neg hji] at hx'
        exact ⟨x', hx', Blk.le_same (Gam.upd_other _ _ _ hji) _⟩
    · exact frozen_push rfl (fun _ _ _ h => by cases h; rfl)
  refine ⟨E, f3, R.of_one (id := id) E f3 (fun j hj => by rw [hget, if_neg hj]) (fun j hj => Gam.upd_other _ _ _ hj)
    (fun j b base n hj hg => heap_alloc_lt (R.lt j b base n hg)) ?_ ?_ ?_ ?_ ?_ ?_ ?_⟩
  · intro g e' cells' hg
    rw [hget, if_pos rfl] at hg
    simp only [Option.some.injEq, Blk.arr.injEq] at hg
    obtain ⟨_, rfl, rfl⟩ := hg
    rw [Gam.upd_same]
    refine ⟨c, by rw [heap_alloc, if_pos rfl], rfl, by omega, fun i hi => ?_⟩
    obtain ⟨cv, h1, h2⟩ := hrel i hi
    exact ⟨cv, by rw [Nat.zero_add]; exact h1, h2.evo E f3⟩
  · intro st pend n env ps asg body hg
    rw [hget, if_pos rfl] at hg
    cases hg
  · intro hg
    rw [hget, if_pos rfl] at hg
    cases hg
  · intro j b base n base' n' hj h1 h2
    rw [Gam.upd_same] at h1
    simp only [Option.some.injEq, Prod.mk.injEq] at h1
    have := R.lt j b base' n' h2
    omega
  · exact fun x _ => ⟨_, by rw [hget, if_pos rfl]⟩
  · intro b base n h1
    rw [Gam.upd_same] at h1
    simp only [Option.some.injEq, Prod.mk.injEq] at h1
    simp; omega
  · exact fun _ _ => f4

theorem upd_get (H : AHeap) (id : Nat) (b : Blk) (j : Nat) : (H.upd id b).get j = if j = id then some b else H.get j := rfl

/-- A block written: the same generation. -/
theorem write_sound {id g : Nat} {e : TypeId} {cells cells' : List AVal} {b base n : Nat} {c' : Array Value} (R : RelH P G Γ H w)
    (hg : H.get id = some (.arr g e cells)) (hΓ : Γ id = some (b, base, n)) (hlen : cells'.length = cells.length) (hsz : c'.size = n)
    (hrel : ∀ i (_ : i < cells'.length), ∃ cv, c'[base + i]? = some cv ∧ RelV P Γ H w cells'[i] cv) :
    Evo Γ H w Γ (H.upd id (.arr g e cells')) (setBlk w b (.cells c' e (0, 0))) ∧ RelH P G Γ (H.upd id (.arr g e cells')) (setBlk w b (.cells c' e (0, 0))) := by
  have hblk := R.lt id b base n hΓ
  have E : Evo Γ H w Γ (H.upd id (.arr g e cells')) (setBlk w b (.cells c' e (0, 0))) := by
    refine ⟨rfl, rfl, rfl, by rw [size_setBlk]; exact Nat.le_refl _, fun b' hb ho => ⟨?_, ho⟩, fun j hj hj' x' hx' => ?_, ?_⟩
    · rw [heap_setBlk, if_neg]
      rintro ⟨rfl, _⟩
      exact ho ⟨id, base, n, hΓ⟩
    · rw [upd_get] at hx'
      by_cases hji : j = id
      · subst hji
        rw [if_pos rfl] at hx'
        cases hx'
        exact ⟨_, hg, Nat.le_refl _, fun _ => ⟨rfl, rfl, hlen⟩⟩
      · rw [if_neg hji] at hx'
        exact ⟨x', hx', Blk.le_refl _ _ _⟩
    · have h0 := R.arr id g e cells hg
      rw [hΓ] at h0
      obtain ⟨c, a1, _⟩ := h0
      exact frozen_setBlk a1 (fun _ _ _ h => by cases h; rfl) (fun _ _ _ h => by cases h; rfl)
  have h0 := R.arr id g e cells hg
  rw [hΓ] at h0
  obtain ⟨c, a1, a2, a3, a4⟩ := h0
  refine ⟨E, R.of_one (id := id) E (Nat.le_refl _) (fun j hj => by rw [upd_get, if_neg hj]) (fun j hj => rfl)
    (fun j b' base' n' hj hg' => ?_) ?_ ?_ ?_ ?_ ?_ ?_ ?_⟩
  · rw [heap_setBlk, if_neg]
    rintro ⟨rfl, _⟩
    exact hj (R.inj j id b' base' n' base n hg' hΓ)
  · intro g' e' cells'' hg'
    rw [upd_get, if_pos rfl] at hg'
    simp only [Option.some.injEq, Blk.arr.injEq] at hg'
    obtain ⟨rfl, rfl, rfl⟩ := hg'
    rw [hΓ]
    refine ⟨c', by rw [heap_setBlk, if_pos ⟨rfl, hblk⟩], hsz, by omega, fun i hi => ?_⟩
    obtain ⟨cv, h1, h2⟩ := hrel i hi
    exact ⟨cv, h1, h2.evo E (Nat.le_refl _)⟩
  · intro st pend n env ps asg body hg'
    rw [upd_get, if_pos rfl] at hg'
    cases hg'
  · intro hg'
    rw [upd_get, if_pos rfl] at hg'
    cases hg'
  · intro j b' base' n' base'' n'' hj h1 h2
    rw [hΓ] at h1
    simp only [Option.some.injEq, Prod.mk.injEq] at h1
    obtain ⟨rfl, rfl, rfl⟩ := h1
    exact hj (R.inj j id _ _ _ _ _ h2 hΓ)
  · exact fun x _ => ⟨_, by rw [upd_get, if_pos rfl]⟩
  · intro b' base' n' h1
    rw [size_setBlk]
    exact R.lt id b' base' n' h1
  · exact fun _ _ => R.next id _ hg

/-- A block grown in place: a later generation. -/
theorem grow_sound {id g : Nat} {e : TypeId} {cells cells' : List AVal} {b base n base' : Nat} {c' : Array Value} (R : RelH P G Γ H w)
    (hg : H.get id = some (.arr g e cells)) (hΓ : Γ id = some (b, base, n)) (hsz : c'.size = n) (hle : base' + cells'.length ≤ n)
    (hrel : ∀ i (_ : i < cells'.length), ∃ cv, c'[base' + i]? = some cv ∧ RelV P Γ H w cells'[i] cv) :
    Evo Γ H w (Γ.upd id (some (b, base', n))) (H.upd id (.arr (g + 1) e cells')) (setBlk w b (.cells c' e (0, 0))) ∧
      RelH P G (Γ.upd id (some (b, base', n))) (H.upd id (.arr (g + 1) e cells')) (setBlk w b (.cells c' e (0, 0))) := by
  have hblk := R.lt id b base n hΓ
  have E : Evo Γ H w (Γ.upd id (some (b, base', n))) (H.upd id (.arr (g + 1) e cells')) (setBlk w b (.cells c' e (0, 0))) := by
    refine ⟨rfl, rfl, rfl, by rw [size_setBlk]; exact Nat.le_refl _, fun b' hb ho => ⟨?_, ?_⟩, fun j hj hj' x' hx' => ?_, ?_⟩
    · rw [heap_setBlk, if_neg]
      rintro ⟨rfl, _⟩
      exact ho ⟨id, base, n, hΓ⟩
    · rintro ⟨j, base'', n'', hj⟩
      by_cases hji : j = id
      · rw [hji, Gam.upd_same] at hj
        simp only [Option.some.injEq, Prod.mk.injEq] at hj
        exact ho ⟨id, base, n, by rw [hΓ, hj.1]⟩
      · rw [Gam.upd_other _ _ _ hji] at hj; exact ho ⟨j, base'', n'', hj⟩
    · rw [upd_get] at hx'
      by_cases hji : j = id
      · subst hji
        rw [if_pos rfl] at hx'
        cases hx'
        exact ⟨_, hg, Nat.le_succ _, fun h => by omega⟩
      · rw [if_neg hji] at hx'
        exact ⟨x', hx', Blk.le_same (Gam.upd_other _ _ _ hji) _⟩
    · have h0 := R.arr id g e cells hg
      rw [hΓ] at h0
      obtain ⟨c, a1, _⟩ := h0
      exact frozen_setBlk a1 (fun _ _ _ h => by cases h; rfl) (fun _ _ _ h => by cases h; rfl)
  refine ⟨E, R.of_one (id := id) E (Nat.le_refl _) (fun j hj => by rw [upd_get, if_neg hj]) (fun j hj => Gam.upd_other _ _ _ hj)
    (fun j b' base' n' hj hg' => ?_) ?_ ?_ ?_ ?_ ?_ ?_ ?_⟩
  · rw [heap_setBlk, if_neg]
    rintro ⟨rfl, _⟩
    exact hj (R.inj j id b' base' n' base n hg' hΓ)
  · intro g' e' cells'' hg'
    rw [upd_get, if_pos rfl] at hg'
    simp only [Option.some.injEq, Blk.arr.injEq] at hg'
    obtain ⟨rfl, rfl, rfl⟩ := hg'
    rw [Gam.upd_same]
    refine ⟨c', by rw [heap_setBlk, if_pos ⟨rfl, hblk⟩], hsz, hle, fun i hi => ?_⟩
    obtain ⟨cv, h1, h2⟩ := hrel i hi
    exact ⟨cv, h1, h2.evo E (Nat.le_refl _)⟩
  · intro st pend n env ps asg body hg'
    rw [upd_get, if_pos rfl] at hg'
    cases hg'
  · intro hg'
    rw [upd_get, if_pos rfl] at hg'
    cases hg'
  · intro j b' base' n' base'' n'' hj h1 h2
    rw [Gam.upd_same] at h1
    simp only [Option.some.injEq, Prod.mk.injEq] at h1
    obtain ⟨rfl, rfl, rfl⟩ := h1
    exact hj (R.inj j id _ _ _ _ _ h2 hΓ)
  · exact fun x _ => ⟨_, by rw [upd_get, if_pos rfl]⟩
  · intro b' base'' n' h1
    rw [Gam.upd_same] at h1
    simp only [Option.some.injEq, Prod.mk.injEq] at h1
    rw [size_setBlk]
    omega
  · exact fun _ _ => R.next id _ hg

/-- A block moved to a new one: a later generation. -/
theorem move_sound {id g : Nat} {e : TypeId} {cells cells' : List AVal} {c' : Array Value} (R : RelH P G Γ H w)
    (hg : H.get id = some (.arr g e cells)) (hle : cells'.length ≤ c'.size)
    (hrel : ∀ i (_ : i < cells'.length), ∃ cv, c'[i]? = some cv ∧ RelV P Γ H w cells'[i] cv) :
    Evo Γ H w (Γ.upd id (some (w.heap.size, 0, c'.size))) (H.upd id (.arr (g + 1) e cells')) (w.alloc (.cells c' e)) ∧
      RelH P G (Γ.upd id (some (w.heap.size, 0, c'.size))) (H.upd id (.arr (g + 1) e cells')) (w.alloc (.cells c' e)) := by
  have E : Evo Γ H w (Γ.upd id (some (w.heap.size, 0, c'.size))) (H.upd id (.arr (g + 1) e cells')) (w.alloc (.cells c' e)) := by
    refine ⟨rfl, rfl, rfl, by simp, fun b' hb ho => ⟨heap_alloc_lt hb, ?_⟩, fun j hj hj' x' hx' => ?_, ?_⟩
    · rintro ⟨j, base'', n'', hj⟩
      by_cases hji : j = id
      · rw [hji, Gam.upd_same] at hj
        simp only [Option.some.injEq, Prod.mk.injEq] at hj
        omega
      · rw [Gam.upd_other _ _ _ hji] at hj; exact ho ⟨j, base'', n'', hj⟩
    · rw [upd_get] at hx'
      by_cases hji : j = id
      · subst hji
        rw [if_pos rfl] at hx'
        cases hx'
        exact ⟨_, hg, Nat.le_succ _, fun h => by omega⟩
      · rw [if_neg hji] at hx'
        exact ⟨x', hx', Blk.le_same (Gam.upd_other _ _ _ hji) _⟩
    · exact frozen_push rfl (fun _ _ _ h => by cases h; rfl)
  refine ⟨E, R.of_one (id := id) E (Nat.le_refl _) (fun j hj => by rw [upd_get, if_neg hj]) (fun j hj => Gam.upd_other _ _ _ hj)
    (fun j b' base' n' hj hg' => heap_alloc_lt (R.lt j b' base' n' hg')) ?_ ?_ ?_ ?_ ?_ ?_ ?_⟩
  · intro g' e' cells'' hg'
    rw [upd_get, if_pos rfl] at hg'
    simp only [Option.some.injEq, Blk.arr.injEq] at hg'
    obtain ⟨rfl, rfl, rfl⟩ := hg'
    rw [Gam.upd_same]
    refine ⟨c', by rw [heap_alloc, if_pos rfl], rfl, by omega, fun i hi => ?_⟩
    obtain ⟨cv, h1, h2⟩ := hrel i hi
    exact ⟨cv, by rw [Nat.zero_add]; exact h1, h2.evo E (Nat.le_refl _)⟩
  · intro st pend n env ps asg body hg'
    rw [upd_get, if_pos rfl] at hg'
    cases hg'
  · intro hg'
    rw [upd_get, if_pos rfl] at hg'
    cases hg'
  · intro j b' base' n' base'' n'' hj h1 h2
    rw [Gam.upd_same] at h1
    simp only [Option.some.injEq, Prod.mk.injEq] at h1
    have := R.lt j _ _ _ h2
    omega
  · exact fun x _ => ⟨_, by rw [upd_get, if_pos rfl]⟩
  · intro b' base'' n' h1
    rw [Gam.upd_same] at h1
    simp only [Option.some.injEq, Prod.mk.injEq] at h1
    simp; omega
  · exact fun _ _ => R.next id _ hg

/-- A draw. -/
theorem drew_evo (Γ : Gam) (H : AHeap) (w : World) (n : Nat) : Evo Γ H w Γ H { w with drawn := n } :=
  ⟨rfl, rfl, rfl, Nat.le_refl _, fun _ _ h => ⟨rfl, h⟩, fun _ _ _ x' h => ⟨x', h, Blk.le_refl _ _ _⟩, fun _ => rfl⟩

theorem RelH.drew (R : RelH P G Γ H w) (n : Nat) : RelH P G Γ H { w with drawn := n } :=
  R.of_one (id := H.next) (drew_evo Γ H w n) (Nat.le_refl _) (fun _ _ => rfl) (fun _ _ => rfl) (fun _ _ _ _ _ _ => rfl)
    (fun g e cells h => absurd (R.next _ _ h) (Nat.lt_irrefl _)) (fun st pend n env ps asg body h => absurd (R.next _ _ h) (Nat.lt_irrefl _))
    (fun h => absurd (R.next _ _ h) (Nat.lt_irrefl _))
    (fun j b base n base' n' hj h1 h2 => by obtain ⟨y, hy⟩ := R.dom _ _ h1; exact absurd (R.next _ _ hy) (Nat.lt_irrefl _))
    (fun x hx => R.dom _ x hx) (fun b base n hx => R.lt _ b base n hx) (fun y hy => R.next _ y hy)

end Go.Hx
