/-
  The operations on abstract values, and the laws on cells and blocks by which they stand to the model's. Own work: no program stands in this text.
-/
import Derived.Test.YtcccmbeolcjacaaHxA
import Derived.Laws.Cells
import Derived.Laws.Entries
namespace Go.Hx

def AVal.cells : AVal → List AVal
  | .lit v => v.cells.toList.map .lit
  | .agg cs => cs
  | .vec l c => [.vec l c]
  | .own a b c d e => [.own a b c d e]
  | .ptr a b c => [.ptr a b c]
  | .vptr a b => [.vptr a b]
  | .tup vs => [.tup vs]
  | .clo f a b => [.clo f a b]
  | .yld i => [.yld i]

def AVal.one : AVal → Bool
  | .lit v => v.oneCell
  | .agg _ | .tup _ => false
  | _ => true

def allLit : List AVal → Option (List Value)
  | [] => some []
  | .lit v :: r => (allLit r).map (v :: ·)
  | _ :: _ => none

def AVal.toVal : AVal → Option Value
  | .lit v => some v
  | .agg cs => (allLit cs).map fun l => .agg l.toArray
  | _ => none

/-- What a computation gives that touches no memory, draws nothing and asks nothing of the world. -/
def pureRun {α : Type} (P : Program) : Sem α → Option α
  | .pure a => some a
  | .program k => pureRun P (k P)
  | .mark _ k => pureRun P k
  | _ => none

theorem pureRun_run {α : Type} {P : Program} {s : Sem α} {a : α} (h : pureRun P s = some a) (w : World) : s.run P w = .ok a w := by
  induction s <;> simp_all [pureRun, Sem.run]

/-! ### runs -/
section
variable {P : Program} {w w' : World}

theorem run_bind_ok {α β : Type} {s : Sem α} {f : α → Sem β} {a : α} (h : s.run P w = .ok a w') : (s >>= f).run P w = (f a).run P w' := by
  rw [Sem.run_bind, h]; rfl

theorem run_und {t : TypeId} {d : TypeDesc} (h : P.underlying t = some d) : (underlying t).run P w = .ok d w := run_underlying h w

theorem info_of_und {t : TypeId} {d : TypeDesc} (h : P.underlying t = some d) : ∃ i, P.info? t = some i := by
  unfold Program.underlying at h
  cases hi : P.info? t with
  | none => simp [hi] at h
  | some i => exact ⟨i, rfl⟩

theorem run_typeInfo {t : TypeId} {i : TypeInfo} (h : P.info? t = some i) : (typeInfo t).run P w = .ok i w := by
  unfold typeInfo
  rw [run_bind_ok (run_program P w)]
  simp [h]

theorem run_sizeOf {t : TypeId} {i : TypeInfo} (h : P.info? t = some i) : (sizeOf t).run P w = .ok (P.cellsOf t) w := by
  unfold sizeOf
  rw [run_bind_ok (run_typeInfo h)]
  simp [Program.cellsOf, h]

theorem run_size_und {t : TypeId} {d : TypeDesc} (h : P.underlying t = some d) : (sizeOf t).run P w = .ok (P.cellsOf t) w := by
  obtain ⟨i, hi⟩ := info_of_und h
  exact run_sizeOf hi

def aggT (d : TypeDesc) : Bool := match d with | .struct _ | .array _ _ => true | _ => false

theorem run_isAgg {t : TypeId} {d : TypeDesc} (h : P.underlying t = some d) : (isAgg t).run P w = .ok (aggT d) w := by
  unfold isAgg
  rw [run_bind_ok (run_und h)]
  cases d <;> rfl

theorem run_load_at {a : Addr} {v : Value} (h : w.cell? a = some v) : (load a).run P w = .ok v w := by
  simp [run_load, h]

theorem add_none (b o i : Nat) : (Addr.add ⟨b, o, none⟩ i) = ⟨b, o + i, none⟩ := by
  unfold Addr.add
  by_cases h : i = 0
  · simp [h]
  · simp [h]

theorem run_loadCells_at {b o : Nat} {cs : List Value} (h : ∀ i (hi : i < cs.length), w.cell? ⟨b, o + i, none⟩ = some cs[i]) :
    (loadCells ⟨b, o, none⟩ cs.length).run P w = .ok cs.toArray w := by
  refine run_loadCells_list w ⟨b, o, none⟩ cs fun j v hj => ?_
  rw [add_none]
  obtain ⟨hlt, hv⟩ := List.getElem?_eq_some_iff.1 hj
  rw [← hv]
  exact h j hlt

theorem run_loadVar_agg {t : TypeId} {d : TypeDesc} {b o : Nat} {cs : List Value} (hd : P.underlying t = some d) (ha : aggT d = true) (hl : cs.length = P.cellsOf t)
    (h : ∀ i (hi : i < cs.length), w.cell? ⟨b, o + i, none⟩ = some cs[i]) : (loadVar t ⟨b, o, none⟩).run P w = .ok (.agg cs.toArray) w := by
  unfold loadVar
  rw [run_bind_ok (run_isAgg hd), ha]
  simp only [if_true]
  rw [run_bind_ok (run_size_und hd), ← hl, run_bind_ok (run_loadCells_at h)]
  rfl

theorem run_loadVar_one {t : TypeId} {d : TypeDesc} {a : Addr} {v : Value} (hd : P.underlying t = some d) (ha : aggT d = false)
    (h : w.cell? a = some v) : (loadVar t a).run P w = .ok v w := by
  unfold loadVar
  rw [run_bind_ok (run_isAgg hd), ha]
  simp only [Bool.false_eq_true, if_false]
  exact run_load_at h

/-- A row with some cells written. -/
def setRow (c : Array Value) (o : Nat) : List Value → Array Value
  | [] => c
  | v :: vs => setRow (c.setIfInBounds o v) (o + 1) vs

theorem size_setRow (c : Array Value) (o : Nat) (vs : List Value) : (setRow c o vs).size = c.size := by
  induction vs generalizing c o with
  | nil => rfl
  | cons v vs ih => simp [setRow, ih]

theorem get_setRow (c : Array Value) (o : Nat) (vs : List Value) (h : o + vs.length ≤ c.size) (i : Nat) :
    (setRow c o vs)[i]? = if o ≤ i ∧ i < o + vs.length then vs[i - o]? else c[i]? := by
  induction vs generalizing c o with
  | nil => simp only [setRow, List.length_nil]; rw [if_neg (by omega)]
  | cons v vs ih =>
    simp only [List.length_cons] at h
    rw [setRow, ih _ _ (by simp; omega)]
    simp only [List.length_cons]
    by_cases h1 : o + 1 ≤ i ∧ i < o + 1 + vs.length
    · rw [if_pos h1, if_pos (by omega)]
      have : i - o = (i - (o + 1)) + 1 := by omega
      rw [this, List.getElem?_cons_succ]
    · rw [if_neg h1]
      by_cases h2 : i = o
      · subst h2
        rw [if_pos (by omega)]
        simp [Array.getElem?_setIfInBounds]
        omega
      · rw [if_neg (by omega)]
        rw [Array.getElem?_setIfInBounds, if_neg (by omega)]

/-- The world with one block's object laid anew. -/
def setBlk (w : World) (b : Nat) (o : Obj) : World := { w with heap := w.heap.setIfInBounds b o }

theorem frozen_setBlk {w : World} {b : Nat} {o o' : Obj} (h : w.heap[b]? = some o) (h1 : ∀ c e f, o = .cells c e f → f = (0, 0)) (h2 : ∀ c e f, o' = .cells c e f → f = (0, 0)) (a : Addr) : (setBlk w b o').frozen? a = w.frozen? a := by
  have hlt : b < w.heap.size := by
    rcases Nat.lt_or_ge b w.heap.size with h' | h'
    · exact h'
    · rw [Array.getElem?_eq_none h'] at h; cases h
  unfold World.frozen? setBlk
  simp only [Array.getElem?_setIfInBounds]
  by_cases hb : b = a.block
  · subst hb
    rw [if_pos rfl, if_pos hlt, h]
    cases o with
    | cells c e f =>
      obtain rfl := h1 c e f rfl
      cases o' with
      | cells c' e' f' =>
        obtain rfl := h2 c' e' f' rfl
        simp
      | _ => simp
    | _ =>
      cases o' with
      | cells c' e' f' =>
        obtain rfl := h2 c' e' f' rfl
        simp
      | _ => rfl
  · rw [if_neg hb]

theorem frozen_push {w w' : World} {o : Obj} (hw : w'.heap = w.heap.push o) (ho : ∀ c e f, o = .cells c e f → f = (0, 0)) (a : Addr) : w'.frozen? a = w.frozen? a := by
  unfold World.frozen?
  rw [hw, Array.getElem?_push]
  by_cases h : a.block = w.heap.size
  · rw [if_pos h, h, Array.getElem?_eq_none (Nat.le_refl _)]
    cases o with
    | cells c e f =>
      obtain rfl := ho c e f rfl
      simp
    | _ => rfl
  · rw [if_neg h]

theorem setCell_blk {b o : Nat} {c : Array Value} {e : TypeId} {v : Value} (h : w.heap[b]? = some (.cells c e (0, 0))) :
    w.setCell ⟨b, o, none⟩ v = setBlk w b (.cells (c.setIfInBounds o v) e (0, 0)) := by
  unfold World.setCell setBlk
  congr 1
  apply Array.ext_getElem?
  intro i
  rw [Array.getElem?_modify, Array.getElem?_setIfInBounds]
  by_cases hi : b = i
  · subst hi
    have hlt : b < w.heap.size := by
      rcases Nat.lt_or_ge b w.heap.size with h' | h'
      · exact h'
      · rw [Array.getElem?_eq_none h'] at h; cases h
    have hb : w.heap[b] = .cells c e (0, 0) := by simpa [Array.getElem?_eq_getElem hlt] using h
    simp [hlt, hb]
  · simp [hi]

theorem heap_lt {b : Nat} {o : Obj} (h : w.heap[b]? = some o) : b < w.heap.size := by
  rcases Nat.lt_or_ge b w.heap.size with h' | h'
  · exact h'
  · rw [Array.getElem?_eq_none h'] at h; cases h

theorem heap_setBlk (b : Nat) (o : Obj) (i : Nat) : (setBlk w b o).heap[i]? = if i = b ∧ b < w.heap.size then some o else w.heap[i]? := by
  unfold setBlk
  simp only [Array.getElem?_setIfInBounds]
  by_cases h : b = i
  · subst h
    by_cases h' : b < w.heap.size
    · simp [h']
    · simp [h']
  · rw [if_neg h, if_neg (by omega)]

theorem size_setBlk (b : Nat) (o : Obj) : (setBlk w b o).heap.size = w.heap.size := by simp [setBlk]

theorem setBlk_setBlk (b : Nat) (o o' : Obj) : setBlk (setBlk w b o) b o' = setBlk w b o' := by
  unfold setBlk
  simp

theorem cell_blk {b i : Nat} {c : Array Value} {e : TypeId} {f : Nat × Nat} (h : w.heap[b]? = some (.cells c e f)) : w.cell? ⟨b, i, none⟩ = c[i]? := by
  simp [World.cell?, h]

theorem run_storeCells {b : Nat} {e : TypeId} : ∀ (vs : List Value) (c : Array Value) (o i : Nat) (w : World), w.heap[b]? = some (.cells c e (0, 0)) →
    o + i + vs.length ≤ c.size → (∀ v, v ∈ vs → v.oneCell = true) →
    (storeCells ⟨b, o, none⟩ vs i).run P w = .ok () (setBlk w b (.cells (setRow c (o + i) vs) e (0, 0))) := by
  intro vs
  induction vs with
  | nil =>
    intro c o i w h _ _
    have : setBlk w b (.cells (setRow c (o + i) []) e (0, 0)) = w := by
      unfold setBlk setRow
      have hlt := heap_lt h
      have : w.heap.setIfInBounds b (.cells c e (0, 0)) = w.heap := by
        apply Array.ext_getElem?
        intro j
        rw [Array.getElem?_setIfInBounds]
        by_cases hj : b = j
        · subst hj
          have hb : w.heap[b] = .cells c e (0, 0) := by simpa [Array.getElem?_eq_getElem hlt] using h
          simp [hlt, hb]
        · simp [hj]
      rw [this]
    rw [this]
    rfl
  | cons v vs ih =>
    intro c o i w h hle hone
    simp only [List.length_cons] at hle
    have hv : v.oneCell = true := hone v (by simp)
    have hlt := heap_lt h
    have hst : (store (Addr.add ⟨b, o, none⟩ i) v).run P w = .ok () (setBlk w b (.cells (c.setIfInBounds (o + i) v) e (0, 0))) := by
      rw [add_none]
      have hc : w.cell? ⟨b, o + i, none⟩ = some (c[o + i]'(by omega)) := by rw [cell_blk h]; simp
      have hf : w.frozen? ⟨b, o + i, none⟩ = false := by simp [World.frozen?, h]
      rw [← setCell_blk h]
      cases v <;> simp_all [store, Sem.run, Value.oneCell]
    rw [storeCells, run_bind_ok hst]
    rw [ih (c.setIfInBounds (o + i) v) o (i + 1) _ (by rw [heap_setBlk, if_pos ⟨rfl, hlt⟩]) (by simp; omega) (fun x hx => hone x (by simp [hx]))]
    rw [setBlk_setBlk]
    rfl

theorem run_newRow (e : TypeId) (cs : Array Value) : (newRow e cs).run P w = .ok ⟨w.heap.size, 0, none⟩ (w.alloc (.cells cs e)) := rfl

end

/-! ### abstract parts -/

def setAt (cells : List AVal) (off : Nat) (vs : List AVal) : List AVal := cells.take off ++ vs ++ cells.drop (off + vs.length)

theorem length_setAt {cells : List AVal} {off : Nat} {vs : List AVal} (h : off + vs.length ≤ cells.length) : (setAt cells off vs).length = cells.length := by
  simp [setAt]; omega

theorem get_setAt {cells : List AVal} {off : Nat} {vs : List AVal} (h : off + vs.length ≤ cells.length) (i : Nat) :
    (setAt cells off vs)[i]? = if off ≤ i ∧ i < off + vs.length then vs[i - off]? else cells[i]? := by
  unfold setAt
  by_cases h1 : i < off
  · rw [if_neg (by omega), List.append_assoc, List.getElem?_append_left (by simp; omega), List.getElem?_take, if_pos h1]
  · by_cases h2 : i < off + vs.length
    · rw [if_pos (by omega), List.getElem?_append_left (by simp; omega), List.getElem?_append_right (by simp; omega)]
      congr 1
      simp; omega
    · rw [if_neg (by omega), List.getElem?_append_right (by simp; omega), List.getElem?_drop]
      congr 1
      simp; omega

def partA (P : Program) (t : TypeId) (cells : List AVal) (off : Nat) : Option AVal :=
  match P.underlying t with
  | none => none
  | some d =>
    if aggT d then (if off + P.cellsOf t ≤ cells.length then some (.agg ((cells.drop off).take (P.cellsOf t))) else none)
    else cells[off]?

def AHeap.upd (H : AHeap) (id : Nat) (b : Blk) : AHeap := { get := fun j => if j = id then some b else H.get j, next := H.next }

/-- A new block under the next number, or under one that has been reserved. -/
def AHeap.lay (H : AHeap) (id : Nat) (b : Blk) : Option AHeap :=
  if id = H.next then some { get := fun j => if j = id then some b else H.get j, next := H.next + 1 }
  else match H.get id with
    | some .rsv => some (H.upd id b)
    | _ => none

def loadA (P : Program) (H : AHeap) (t : TypeId) : AVal → Option AVal
  | .ptr id gen off =>
    match H.get id with
    | some (.arr g _ cells) => if g = gen then partA P t cells off else none
    | _ => none
  | .vptr cells off => partA P t cells off
  | _ => none

def storeA (P : Program) (H : AHeap) (t : TypeId) (a v : AVal) : Option AHeap :=
  match a with
  | .ptr id gen off =>
    match H.get id with
    | some (.arr g e cells) =>
      if g = gen ∧ v.cells.length = P.cellsOf t ∧ v.cells.all AVal.one = true ∧ off + v.cells.length ≤ cells.length then some (H.upd id (.arr g e (setAt cells off v.cells))) else none
    | _ => none
  | _ => none

def fillA (place : Nat → Option (Nat × Nat)) (cells : List AVal) : List (Nat × AVal) → Option (List AVal)
  | [] => some cells
  | (i, v) :: rest =>
    match place i with
    | none => none
    | some (off, size) => if v.cells.length = size ∧ off + v.cells.length ≤ cells.length then fillA place (setAt cells off v.cells) rest else none

end Go.Hx
