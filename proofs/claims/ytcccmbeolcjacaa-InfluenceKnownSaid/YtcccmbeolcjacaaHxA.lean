/-
  Abstract values, abstract heaps, and how they stand to the model's values and worlds. Own work: no program stands in this text.
-/
import Derived.RangeFuncLeaves
import Derived.KernelRfl
import Derived.Wp
namespace Go.Hx

/-- An abstract value: a plain value, a slice whose contents are known and never turn (vec), a handle to a block that the call owns (own, ptr), a pointer into known contents (vptr), a struct or array, several results, a closure, a yield function. -/
inductive AVal where
  | lit (v : Value)
  | vec (len : Nat) (cells : List AVal)
  | own (id gen off len sz : Nat)
  | ptr (id gen off : Nat)
  | vptr (cells : List AVal) (off : Nat)
  | agg (cells : List AVal)
  | tup (vs : List AVal)
  | clo (f : FuncId) (first cap : List AVal)
  | yld (id : Nat)

instance : Inhabited AVal := ⟨.lit undef⟩

abbrev Env := Nat → AVal

inductive Blk where
  | arr (gen : Nat) (elem : TypeId) (cells : List AVal)
  | loop (st : LoopState) (pend : Option Code) (n : Nat) (env : Env) (ps : Array Tmp) (asg body : Code)
  | rsv

structure AHeap where
  get : Nat → Option Blk
  next : Nat

/-- Where an owned block lies: block, first cell, number of cells of the block. -/
abbrev Gam := Nat → Option (Nat × Nat × Nat)

def Gam.owns (Γ : Gam) (b : Nat) : Prop := ∃ id base n, Γ id = some (b, base, n)

def OwnOk (Γ : Gam) (H : AHeap) (id gen off len sz : Nat) (cv : Value) : Prop :=
  id < H.next ∧ cv.oneCell = true ∧ H.get id ≠ some .rsv ∧ ∀ g e cells, H.get id = some (.arr g e cells) → gen ≤ g ∧ (gen = g →
    match Γ id with
    | some (b, base, n) => ∃ a cap, cv = .slice (some a) len cap ∧ len ≤ cap ∧ off + len * sz ≤ cells.length ∧
        ((a = ⟨b, base + off, none⟩ ∧ base + off + cap * sz ≤ n) ∨ (len = 0 ∧ cap = 0))
    | none => off = 0 ∧ len = 0 ∧ cv = .slice none 0 0)

def PtrOk (Γ : Gam) (H : AHeap) (id gen off : Nat) (cv : Value) : Prop :=
  id < H.next ∧ cv.oneCell = true ∧ H.get id ≠ some .rsv ∧ ∀ g e cells, H.get id = some (.arr g e cells) → gen ≤ g ∧ (gen = g →
    ∃ b base n, Γ id = some (b, base, n) ∧ cv = .pointer (some ⟨b, base + off, none⟩))

def YldOk (Γ : Gam) (H : AHeap) (id : Nat) (cv : Value) : Prop :=
  id < H.next ∧ cv.oneCell = true ∧ H.get id ≠ some .rsv ∧ ∀ st pend n env ps asg body, H.get id = some (.loop st pend n env ps asg body) →
    ∃ b, Γ id = some (b, 0, 0) ∧ cv = .func (.yield b) #[] #[]

inductive RelV (P : Program) (Γ : Gam) (H : AHeap) (w : World) : AVal → Value → Prop
  | lit (v : Value) : RelV P Γ H w (.lit v) v
  | vec0 (a : Option Addr) (cap : Nat) : RelV P Γ H w (.vec 0 []) (.slice a 0 cap)
  | vec {len : Nat} {cells : List AVal} {b off cap : Nat} {cs : List Value} (hb : ¬ Γ.owns b) (hlt : b < w.heap.size) (hlen : len ≤ cap)
      (hcs : cs.length = cells.length)
      (hcell : ∀ i (h : i < cs.length), w.cell? ⟨b, off + i, none⟩ = some cs[i])
      (hrel : ∀ i (h : i < cells.length) (h' : i < cs.length), RelV P Γ H w cells[i] cs[i]) :
      RelV P Γ H w (.vec len cells) (.slice (some ⟨b, off, none⟩) len cap)
  | own {id gen off len sz : Nat} {cv : Value} (h : OwnOk Γ H id gen off len sz cv) : RelV P Γ H w (.own id gen off len sz) cv
  | ptr {id gen off : Nat} {cv : Value} (h : PtrOk Γ H id gen off cv) : RelV P Γ H w (.ptr id gen off) cv
  | vptr {cells : List AVal} {off b o : Nat} {cs : List Value} (hb : ¬ Γ.owns b) (hlt : b < w.heap.size)
      (hcs : cs.length = cells.length)
      (hcell : ∀ i (h : i < cs.length), w.cell? ⟨b, o + i, none⟩ = some cs[i])
      (hrel : ∀ i (h : i < cells.length) (h' : i < cs.length), RelV P Γ H w cells[i] cs[i]) :
      RelV P Γ H w (.vptr cells off) (.pointer (some ⟨b, o + off, none⟩))
  | agg {cells : List AVal} {cs : List Value} (hcs : cs.length = cells.length)
      (hrel : ∀ i (h : i < cells.length) (h' : i < cs.length), RelV P Γ H w cells[i] cs[i]) : RelV P Γ H w (.agg cells) (.agg cs.toArray)
  | tup {cells : List AVal} {cs : List Value} (hcs : cs.length = cells.length)
      (hrel : ∀ i (h : i < cells.length) (h' : i < cs.length), RelV P Γ H w cells[i] cs[i]) : RelV P Γ H w (.tup cells) (.tuple cs.toArray)
  | clo {f : FuncId} {first cap : List AVal} {fs cs : List Value} (hfs : fs.length = first.length) (hcs : cs.length = cap.length)
      (hf : ∀ i (h : i < first.length) (h' : i < fs.length), RelV P Γ H w first[i] fs[i])
      (hc : ∀ i (h : i < cap.length) (h' : i < cs.length), RelV P Γ H w cap[i] cs[i]) :
      RelV P Γ H w (.clo f first cap) (.func (.func f) fs.toArray cs.toArray)
  | yld {id : Nat} {cv : Value} (h : YldOk Γ H id cv) : RelV P Γ H w (.yld id) cv

def Blk.le (Γ Γ' : Gam) (id : Nat) : Blk → Blk → Prop
  | .arr g e cells, .arr g' e' cells' => g ≤ g' ∧ (g = g' → Γ' id = Γ id ∧ e' = e ∧ cells'.length = cells.length)
  | .loop _ _ n env ps asg body, .loop _ _ n' env' ps' asg' body' => Γ' id = Γ id ∧ n' = n ∧ env' = env ∧ ps' = ps ∧ asg' = asg ∧ body' = body
  | .rsv, _ => True
  | _, _ => False

/-- How the world may go on: nothing that is not owned turns; what is owned and still there is the same block, or a later generation of it. -/
structure Evo (Γ : Gam) (H : AHeap) (w : World) (Γ' : Gam) (H' : AHeap) (w' : World) : Prop where
  os : w'.os = w.os
  tape : w'.tape = w.tape
  output : w'.output = w.output
  size : w.heap.size ≤ w'.heap.size
  keep : ∀ b, b < w.heap.size → ¬ Γ.owns b → w'.heap[b]? = w.heap[b]? ∧ ¬ Γ'.owns b
  live : ∀ id, id < H.next → id < H'.next → ∀ x', H'.get id = some x' → ∃ x, H.get id = some x ∧ Blk.le Γ Γ' id x x'
  frz : ∀ a, w'.frozen? a = w.frozen? a

theorem Blk.le_refl (Γ : Gam) (id : Nat) (x : Blk) : Blk.le Γ Γ id x x := by
  cases x <;> simp [Blk.le]

theorem Evo.refl (Γ : Gam) (H : AHeap) (w : World) : Evo Γ H w Γ H w :=
  ⟨rfl, rfl, rfl, Nat.le_refl _, fun _ _ h => ⟨rfl, h⟩, fun _ _ _ x' h => ⟨x', h, Blk.le_refl _ _ _⟩, fun _ => rfl⟩

theorem Blk.le_rsv {Γ Γ' : Gam} {id : Nat} {x : Blk} (h : Blk.le Γ Γ' id x .rsv) : x = .rsv := by
  cases x <;> simp_all [Blk.le]

theorem Blk.le_trans {Γ₁ Γ₂ Γ₃ : Gam} {id : Nat} {x y z : Blk} (h : Blk.le Γ₁ Γ₂ id x y) (k : Blk.le Γ₂ Γ₃ id y z) : Blk.le Γ₁ Γ₃ id x z := by
  cases x <;> cases y <;> cases z <;> simp only [Blk.le] at *
  · rename_i g e c g' e' c' g'' e'' c''
    refine ⟨by omega, fun hg => ?_⟩
    obtain ⟨h1, h2⟩ := h
    obtain ⟨k1, k2⟩ := k
    obtain ⟨a1, a2, a3⟩ := h2 (by omega)
    obtain ⟨b1, b2, b3⟩ := k2 (by omega)
    exact ⟨b1.trans a1, b2.trans a2, b3.trans a3⟩
  · obtain ⟨a1, a2, a3, a4, a5, a6⟩ := h
    obtain ⟨b1, b2, b3, b4, b5, b6⟩ := k
    exact ⟨b1.trans a1, b2.trans a2, b3.trans a3, b4.trans a4, b5.trans a5, b6.trans a6⟩

theorem Evo.trans {Γ₁ Γ₂ Γ₃ : Gam} {H₁ H₂ H₃ : AHeap} {w₁ w₂ w₃ : World} (h : Evo Γ₁ H₁ w₁ Γ₂ H₂ w₂) (hn : H₁.next ≤ H₂.next)
    (k : Evo Γ₂ H₂ w₂ Γ₃ H₃ w₃) : Evo Γ₁ H₁ w₁ Γ₃ H₃ w₃ where
  os := k.os.trans h.os
  tape := k.tape.trans h.tape
  output := k.output.trans h.output
  size := Nat.le_trans h.size k.size
  keep b hb ho := by
    obtain ⟨a1, a2⟩ := h.keep b hb ho
    obtain ⟨b1, b2⟩ := k.keep b (Nat.lt_of_lt_of_le hb h.size) a2
    exact ⟨b1.trans a1, b2⟩
  live id h1 h3 z hz := by
    obtain ⟨y, hy, hyz⟩ := k.live id (Nat.lt_of_lt_of_le h1 hn) h3 z hz
    obtain ⟨x, hx, hxy⟩ := h.live id h1 (Nat.lt_of_lt_of_le h1 hn) y hy
    exact ⟨x, hx, Blk.le_trans hxy hyz⟩
  frz a := (k.frz a).trans (h.frz a)

theorem Evo.cell {Γ Γ' : Gam} {H H' : AHeap} {w w' : World} (h : Evo Γ H w Γ' H' w') {b o : Nat} (hb : b < w.heap.size) (ho : ¬ Γ.owns b) :
    w'.cell? ⟨b, o, none⟩ = w.cell? ⟨b, o, none⟩ := by
  have := (h.keep b hb ho).1
  simp only [World.cell?, this]

theorem OwnOk.evo {Γ Γ' : Gam} {H H' : AHeap} {w w' : World} {id gen off len sz : Nat} {cv : Value} (h : OwnOk Γ H id gen off len sz cv)
    (k : Evo Γ H w Γ' H' w') (hn : H.next ≤ H'.next) : OwnOk Γ' H' id gen off len sz cv := by
  obtain ⟨h1, h2, h0, h3⟩ := h
  refine ⟨by omega, h2, fun hr => (by
    obtain ⟨x, hx, hle⟩ := k.live id h1 (by omega) _ hr
    exact h0 (Blk.le_rsv hle ▸ hx)), fun g' e' cells' hg' => ?_⟩
  obtain ⟨x, hx, hle⟩ := k.live id h1 (by omega) _ hg'
  cases x with
  | loop => exact hle.elim
  | rsv => exact absurd hx h0
  | arr g e cells =>
    obtain ⟨a1, a2⟩ := hle
    obtain ⟨b1, b2⟩ := h3 g e cells hx
    refine ⟨by omega, fun hgg => ?_⟩
    obtain ⟨c1, c2, c3⟩ := a2 (by omega)
    have := b2 (by omega)
    rw [c1, c3]
    exact this

theorem PtrOk.evo {Γ Γ' : Gam} {H H' : AHeap} {w w' : World} {id gen off : Nat} {cv : Value} (h : PtrOk Γ H id gen off cv)
    (k : Evo Γ H w Γ' H' w') (hn : H.next ≤ H'.next) : PtrOk Γ' H' id gen off cv := by
  obtain ⟨h1, h2, h0, h3⟩ := h
  refine ⟨by omega, h2, fun hr => (by
    obtain ⟨x, hx, hle⟩ := k.live id h1 (by omega) _ hr
    exact h0 (Blk.le_rsv hle ▸ hx)), fun g' e' cells' hg' => ?_⟩
  obtain ⟨x, hx, hle⟩ := k.live id h1 (by omega) _ hg'
  cases x with
  | loop => exact hle.elim
  | rsv => exact absurd hx h0
  | arr g e cells =>
    obtain ⟨a1, a2⟩ := hle
    obtain ⟨b1, b2⟩ := h3 g e cells hx
    refine ⟨by omega, fun hgg => ?_⟩
    obtain ⟨c1, c2, c3⟩ := a2 (by omega)
    have := b2 (by omega)
    rw [c1]
    exact this

theorem YldOk.evo {Γ Γ' : Gam} {H H' : AHeap} {w w' : World} {id : Nat} {cv : Value} (h : YldOk Γ H id cv)
    (k : Evo Γ H w Γ' H' w') (hn : H.next ≤ H'.next) : YldOk Γ' H' id cv := by
  obtain ⟨h1, h2, h0, h3⟩ := h
  refine ⟨by omega, h2, fun hr => (by
    obtain ⟨x, hx, hle⟩ := k.live id h1 (by omega) _ hr
    exact h0 (Blk.le_rsv hle ▸ hx)), fun st pend n env ps asg body hg' => ?_⟩
  obtain ⟨x, hx, hle⟩ := k.live id h1 (by omega) _ hg'
  cases x with
  | arr g e cells => exact hle.elim
  | rsv => exact absurd hx h0
  | loop st0 pend0 n0 env0 ps0 asg0 body0 =>
    obtain ⟨a1, _⟩ := hle
    obtain ⟨b, hb, hc⟩ := h3 _ _ _ _ _ _ _ hx
    exact ⟨b, a1.trans hb, hc⟩

theorem RelV.evo {P : Program} {Γ Γ' : Gam} {H H' : AHeap} {w w' : World} {v : AVal} {cv : Value} (h : RelV P Γ H w v cv)
    (k : Evo Γ H w Γ' H' w') (hn : H.next ≤ H'.next) : RelV P Γ' H' w' v cv := by
  induction h with
  | lit v => exact .lit v
  | vec0 a cap => exact .vec0 a cap
  | vec hb hlt hlen hcs hcell hrel ih =>
    exact .vec (k.keep _ hlt hb).2 (Nat.lt_of_lt_of_le hlt k.size) hlen hcs (fun i hi => (k.cell hlt hb).trans (hcell i hi)) ih
  | own h => exact .own (h.evo k hn)
  | ptr h => exact .ptr (h.evo k hn)
  | vptr hb hlt hcs hcell hrel ih =>
    exact .vptr (k.keep _ hlt hb).2 (Nat.lt_of_lt_of_le hlt k.size) hcs (fun i hi => (k.cell hlt hb).trans (hcell i hi)) ih
  | agg hcs hrel ih => exact .agg hcs ih
  | tup hcs hrel ih => exact .tup hcs ih
  | clo hfs hcs hf hc ih1 ih2 => exact .clo hfs hcs ih1 ih2
  | yld h => exact .yld (h.evo k hn)

/-- The block for the deferred calls of rounds. -/
def DefBlk (Γ : Gam) (w : World) (r : Nat) : Prop := ¬ Γ.owns r ∧ w.heap[r]? = some (.deferred (some []))

theorem DefBlk.evo {Γ Γ' : Gam} {H H' : AHeap} {w w' : World} {r : Nat} (h : DefBlk Γ w r) (k : Evo Γ H w Γ' H' w') : DefBlk Γ' w' r := by
  obtain ⟨h1, h2⟩ := h
  have hlt : r < w.heap.size := by
    rcases Nat.lt_or_ge r w.heap.size with h | h
    · exact h
    · rw [Array.getElem?_eq_none h] at h2; cases h2
  obtain ⟨a, b⟩ := k.keep r hlt h1
  exact ⟨b, a.trans h2⟩

/-- An abstract heap, as it lies in a world. -/
structure RelH (P : Program) (G : Nat → Option (List AVal)) (Γ : Gam) (H : AHeap) (w : World) : Prop where
  arr : ∀ id g e cells, H.get id = some (.arr g e cells) →
    match Γ id with
    | some (b, base, n) => ∃ c, w.heap[b]? = some (.cells c e (0, 0)) ∧ c.size = n ∧ base + cells.length ≤ n ∧
        ∀ i (h : i < cells.length), ∃ cv, c[base + i]? = some cv ∧ RelV P Γ H w cells[i] cv
    | none => cells = []
  loop : ∀ id st pend n env ps asg body, H.get id = some (.loop st pend n env ps asg body) →
    ∃ b r, Γ id = some (b, 0, 0) ∧ w.heap[b]? = some (.loop r) ∧ r.state = st ∧ r.pending = pend ∧ r.params = ps ∧ r.assign = asg ∧ r.body = body ∧
      r.tmps.size = n ∧ (∀ t (h : t < r.tmps.size), RelV P Γ H w (env t) r.tmps[t])
  rsv : ∀ id, H.get id = some .rsv → Γ id = none
  inj : ∀ id id' b base n base' n', Γ id = some (b, base, n) → Γ id' = some (b, base', n') → id = id'
  dom : ∀ id x, Γ id = some x → ∃ y, H.get id = some y
  lt : ∀ id b base n, Γ id = some (b, base, n) → b < w.heap.size
  next : ∀ id y, H.get id = some y → id < H.next
  glob : ∀ g cells, G g = some cells → RelV P Γ H w (.vptr cells 0) (.pointer (some ⟨g, 0, none⟩))

end Go.Hx
