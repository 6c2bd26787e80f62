/-
  The operations on abstract values are what the model's do. Own work: no program stands in this text.
-/
import Derived.Test.YtcccmbeolcjacaaHxD
namespace Go.Hx
variable {P : Program} {G : Nat → Option (List AVal)} {Γ Γ' : Gam} {H H' : AHeap} {w w' : World}

theorem live_some {id gen : Nat} {e : TypeId} {cells : List AVal} (h : H.live id gen = some (e, cells)) : H.get id = some (.arr gen e cells) := by
  unfold AHeap.live at h
  split at h
  · rename_i g e' cells' hg
    split at h
    · rename_i hgg
      simp only [Option.some.injEq, Prod.mk.injEq] at h
      rw [hg, hgg, h.1, h.2]
    · cases h
  · cases h

/-- A row of cells as it lies from some cell of a block on. -/
def RowAt (P : Program) (Γ : Gam) (H : AHeap) (w : World) (b o : Nat) (cells : List AVal) : Prop :=
  ∃ cs : List Value, cs.length = cells.length ∧ (∀ i (h : i < cs.length), w.cell? ⟨b, o + i, none⟩ = some cs[i]) ∧
    ∀ i (_ : i < cells.length) (_ : i < cs.length), RelV P Γ H w cells[i] cs[i]

theorem rowAt_of_arr {b base : Nat} {c : Array Value} {e : TypeId} {f : Nat × Nat} {cells : List AVal} (hb : w.heap[b]? = some (.cells c e f)) (hle : base + cells.length ≤ c.size)
    (hrel : ∀ i (_ : i < cells.length), ∃ cv, c[base + i]? = some cv ∧ RelV P Γ H w cells[i] cv) : RowAt P Γ H w b base cells := by
  refine ⟨(c.toList.drop base).take cells.length, by simp; omega, fun i hi => ?_, fun i h1 h2 => ?_⟩
  · rw [cell_blk hb]
    simp only [List.length_take, List.length_drop, Array.length_toList] at hi
    simp only [List.getElem_take, List.getElem_drop, Array.getElem_toList]
    rw [Array.getElem?_eq_getElem (by omega)]
  · obtain ⟨cv, a1, a2⟩ := hrel i h1
    simp only [List.getElem_take, List.getElem_drop, Array.getElem_toList]
    rw [Array.getElem?_eq_getElem (by omega)] at a1
    simp only [Option.some.injEq] at a1
    rw [a1]
    exact a2

theorem RowAt.drop {b o : Nat} {cells : List AVal} (h : RowAt P Γ H w b o cells) (k n : Nat) (hk : k + n ≤ cells.length) : RowAt P Γ H w b (o + k) ((cells.drop k).take n) := by
  obtain ⟨cs, h1, h2, h3⟩ := h
  refine ⟨(cs.drop k).take n, by simp [h1], fun i hi => ?_, fun i a1 a2 => ?_⟩
  · simp only [List.length_take, List.length_drop] at hi
    have := h2 (k + i) (by omega)
    simp only [List.getElem_take, List.getElem_drop]
    rw [← this]
    congr 2
    omega
  · simp only [List.getElem_take, List.getElem_drop]
    simp only [List.length_take, List.length_drop] at a1 a2
    exact h3 (k + i) (by omega) (by omega)

theorem partA_load {t : TypeId} {cells : List AVal} {off b o : Nat} {v : AVal} (hp : partA P t cells off = some v) (hr : RowAt P Γ H w b o cells) :
    ∃ cv, (loadVar t ⟨b, o + off, none⟩).run P w = .ok cv w ∧ RelV P Γ H w v cv := by
  unfold partA at hp
  split at hp
  · cases hp
  · rename_i d hd
    split at hp
    · rename_i ha
      split at hp
      · rename_i hle
        simp only [Option.some.injEq] at hp
        subst hp
        obtain ⟨cs, h1, h2, h3⟩ := hr.drop off (P.cellsOf t) hle
        refine ⟨.agg cs.toArray, run_loadVar_agg hd ha ?_ h2, .agg h1 h3⟩
        rw [h1]; simp; omega
      · cases hp
    · rename_i ha
      obtain ⟨cs, h1, h2, h3⟩ := hr
      obtain ⟨hlt, hv⟩ := List.getElem?_eq_some_iff.1 hp
      subst hv
      exact ⟨cs[off]'(by omega), run_loadVar_one hd (by simpa using ha) (h2 off (by omega)), h3 off hlt (by omega)⟩

theorem ptr_live {id gen off : Nat} {e : TypeId} {cells : List AVal} {cv : Value} (h : RelV P Γ H w (.ptr id gen off) cv) (hl : H.live id gen = some (e, cells)) :
    ∃ b base n, Γ id = some (b, base, n) ∧ cv = .pointer (some ⟨b, base + off, none⟩) := by
  cases h with
  | ptr h => exact (h.2.2.2 gen e cells (live_some hl)).2 rfl

theorem own_live {id gen off len sz : Nat} {e : TypeId} {cells : List AVal} {cv : Value} (h : RelV P Γ H w (.own id gen off len sz) cv) (hl : H.live id gen = some (e, cells)) :
    (∃ b base n a cap, Γ id = some (b, base, n) ∧ cv = .slice (some a) len cap ∧ len ≤ cap ∧ off + len * sz ≤ cells.length ∧
      ((a = ⟨b, base + off, none⟩ ∧ base + off + cap * sz ≤ n) ∨ (len = 0 ∧ cap = 0))) ∨
    (Γ id = none ∧ off = 0 ∧ len = 0 ∧ cv = .slice none 0 0) := by
  cases h with
  | own h =>
    have := (h.2.2.2 gen e cells (live_some hl)).2 rfl
    cases hg : Γ id with
    | none => rw [hg] at this; exact .inr ⟨rfl, this⟩
    | some x =>
      obtain ⟨b, base, n⟩ := x
      rw [hg] at this
      obtain ⟨a, cap, h1, h2, h3, h4⟩ := this
      exact .inl ⟨b, base, n, a, cap, rfl, h1, h2, h3, h4⟩

theorem blk_live (R : RelH P G Γ H w) {id gen : Nat} {e : TypeId} {cells : List AVal} {b base n : Nat} (hl : H.live id gen = some (e, cells)) (hΓ : Γ id = some (b, base, n)) :
    ∃ c, w.heap[b]? = some (.cells c e (0, 0)) ∧ c.size = n ∧ base + cells.length ≤ n ∧ ∀ i (_ : i < cells.length), ∃ cv, c[base + i]? = some cv ∧ RelV P Γ H w cells[i] cv := by
  have := R.arr id gen e cells (live_some hl)
  rw [hΓ] at this
  exact this

theorem row_live (R : RelH P G Γ H w) {id gen : Nat} {e : TypeId} {cells : List AVal} {b base n : Nat} (hl : H.live id gen = some (e, cells)) (hΓ : Γ id = some (b, base, n)) :
    RowAt P Γ H w b base cells := by
  obtain ⟨c, h1, h2, h3, h4⟩ := blk_live R hl hΓ
  exact rowAt_of_arr h1 (by omega) h4

theorem loadA_sound {t : TypeId} {a v : AVal} {ca : Value} (R : RelH P G Γ H w) (h : loadA P H t a = some v) (ha : RelV P Γ H w a ca) :
    ∃ cv, (Instr.loadAt t ca).run P w = .ok cv w ∧ RelV P Γ H w v cv := by
  unfold loadA at h
  split at h
  · rename_i id gen off
    split at h
    · rename_i g e cells hg
      split at h
      · rename_i hgg
        have hl : H.live id gen = some (e, cells) := by simp [AHeap.live, hg, hgg]
        obtain ⟨b, base, n, hΓ, rfl⟩ := ptr_live ha hl
        obtain ⟨cv, h1, h2⟩ := partA_load h (row_live R hl hΓ)
        refine ⟨cv, ?_, h2⟩
        unfold Instr.loadAt Instr.sureAddr
        exact h1
      · cases h
    · cases h
  · rename_i cells off
    cases ha with
    | vptr hb hlt hcs hcell hrel =>
      obtain ⟨cv, h1, h2⟩ := partA_load h ⟨_, hcs, hcell, hrel⟩
      exact ⟨cv, h1, h2⟩
  · cases h

theorem all_one {cells : List AVal} {cs : List Value} (h : cells.all AVal.one = true) (hl : cs.length = cells.length)
    (hr : ∀ i (_ : i < cells.length) (_ : i < cs.length), RelV P Γ H w cells[i] cs[i]) : ∀ v, v ∈ cs → v.oneCell = true := by
  intro v hv
  obtain ⟨i, hi, rfl⟩ := List.getElem_of_mem hv
  exact (hr i (by omega) hi).one (List.all_eq_true.1 h _ (List.getElem_mem (by omega)))

/-- What a write does to a row. -/
theorem setAt_rel {c : Array Value} {base off : Nat} {cells vs : List AVal} {cvs : List Value} (hle : off + vs.length ≤ cells.length) (hc : base + cells.length ≤ c.size)
    (hl : cvs.length = vs.length) (hrel : ∀ i (_ : i < cells.length), ∃ cv, c[base + i]? = some cv ∧ RelV P Γ H w cells[i] cv)
    (hv : ∀ i (_ : i < vs.length) (_ : i < cvs.length), RelV P Γ H w vs[i] cvs[i]) :
    ∀ i (_ : i < (setAt cells off vs).length), ∃ cv, (setRow c (base + off) cvs)[base + i]? = some cv ∧ RelV P Γ H w (setAt cells off vs)[i] cv := by
  intro i hi
  have hi' := hi
  rw [length_setAt hle] at hi'
  rw [get_setRow _ _ _ (by omega)]
  have hg : (setAt cells off vs)[i]? = some (setAt cells off vs)[i] := List.getElem?_eq_getElem hi
  rw [get_setAt hle] at hg
  by_cases h1 : off ≤ i ∧ i < off + vs.length
  · rw [if_pos h1] at hg
    rw [if_pos (by omega)]
    have h2 : i - off < vs.length := by omega
    rw [List.getElem?_eq_getElem h2] at hg
    simp only [Option.some.injEq] at hg
    rw [← hg]
    refine ⟨cvs[i - off]'(by omega), ?_, hv _ h2 (by omega)⟩
    rw [show base + i - (base + off) = i - off from by omega, List.getElem?_eq_getElem (by omega)]
  · rw [if_neg h1, List.getElem?_eq_getElem hi'] at hg
    rw [if_neg (by omega)]
    simp only [Option.some.injEq] at hg
    rw [← hg]
    exact hrel i hi'

theorem storeA_sound {t : TypeId} {a v : AVal} {ca cv : Value} (R : RelH P G Γ H w) (h : storeA P H t a v = some H') (ht : ∃ i, P.info? t = some i) (ha : RelV P Γ H w a ca) (hv : RelV P Γ H w v cv) :
    ∃ w', (Instr.storeAt t ca cv).run P w = .ok () w' ∧ Evo Γ H w Γ H' w' ∧ H.next ≤ H'.next ∧ RelH P G Γ H' w' := by
  unfold storeA at h
  split at h
  · rename_i id gen off
    split at h
    · rename_i g e cells hg
      split at h
      · rename_i hgg
        obtain ⟨hgg, h1, h2, h3⟩ := hgg
        simp only [Option.some.injEq] at h
        subst h
        have hl : H.live id gen = some (e, cells) := by simp [AHeap.live, hg, hgg]
        obtain ⟨b, base, n, hΓ, rfl⟩ := ptr_live ha hl
        obtain ⟨c, c1, c2, c3, c4⟩ := blk_live R hl hΓ
        obtain ⟨v1, v2⟩ := hv.cells
        obtain ⟨i, hi⟩ := ht
        have hrun : (Instr.storeAt t (.pointer (some ⟨b, base + off, none⟩)) cv).run P w = .ok () (setBlk w b (.cells (setRow c (base + off) cv.cells.toList) e (0, 0))) := by
          unfold Instr.storeAt Instr.sureAddr
          rw [run_bind_ok (Sem.run_pure P w _)]
          unfold storeVar
          rw [run_bind_ok (run_sizeOf hi)]
          have : ¬ (cv.cells.size ≠ P.cellsOf t) := by rw [← h1, ← v1]; simp
          rw [if_neg this]
          have hrun := run_storeCells (P := P) cv.cells.toList c (base + off) 0 w c1 (by omega) (all_one h2 v1 v2)
          exact hrun
        obtain ⟨E, R'⟩ := write_sound (cells' := setAt cells off v.cells) (c' := setRow c (base + off) cv.cells.toList) R hg hΓ (length_setAt h3) (by rw [size_setRow, c2])
          (setAt_rel h3 (by omega) v1 c4 v2)
        exact ⟨_, hrun, E, Nat.le_refl _, R'⟩
      · cases h
    · cases h
  · cases h

end Go.Hx
