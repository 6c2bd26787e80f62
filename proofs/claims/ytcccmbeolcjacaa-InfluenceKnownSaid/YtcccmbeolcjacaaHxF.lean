/-
  The operations on abstract values are what the model's do: building, slicing, indexing. Own work: no program stands in this text.
-/
import Derived.Test.YtcccmbeolcjacaaHxE
namespace Go.Hx
variable {P : Program} {G : Nat → Option (List AVal)} {Γ Γ' : Gam} {H H' : AHeap} {w w' : World}

/-- A list of abstract cells and an array of values. -/
def RelL (P : Program) (Γ : Gam) (H : AHeap) (w : World) (cells : List AVal) (cs : Array Value) : Prop :=
  cs.size = cells.length ∧ ∀ i (_ : i < cells.length) (h : i < cs.size), RelV P Γ H w cells[i] cs[i]

theorem RelL.lit (cs : Array Value) : RelL P Γ H w (cs.toList.map .lit) cs :=
  ⟨by simp, fun i h1 h2 => by simp only [List.getElem_map, Array.getElem_toList]; exact .lit _⟩

theorem RelL.get {cells : List AVal} {cs : Array Value} (h : RelL P Γ H w cells cs) {i : Nat} (hi : i < cells.length) : ∃ cv, cs[i]? = some cv ∧ RelV P Γ H w cells[i] cv :=
  ⟨cs[i]'(by rw [h.1]; exact hi), by rw [Array.getElem?_eq_getElem], h.2 i hi (by rw [h.1]; exact hi)⟩

theorem zeroA_some {t : TypeId} {z : List AVal} (h : zeroA P t = some z) : ∃ i v, P.info? t = some i ∧ i.zero = some v ∧ v.cells.size = i.size ∧ z = v.cells.toList.map .lit ∧ P.cellsOf t = i.size := by
  unfold zeroA at h
  split at h
  · rename_i i hi
    split at h
    · rename_i v hv
      split at h
      · rename_i hs
        simp only [Option.some.injEq] at h
        exact ⟨i, v, hi, hv, hs, h.symm, by simp [Program.cellsOf, hi]⟩
      · cases h
    · cases h
  · cases h

theorem run_zero {t : TypeId} {i : TypeInfo} {v : Value} (hi : P.info? t = some i) (hv : i.zero = some v) : (zeroValue t).run P w = .ok v w := by
  unfold zeroValue
  rw [run_bind_ok (run_typeInfo hi)]
  simp [hv]

/-- One part laid into a row, by the model. -/
theorem foldl_set : ∀ (vs : List Value) (cs : Array Value) (off k : Nat),
    (vs.zipIdx k).foldl (fun cs (p : Value × Nat) => cs.setIfInBounds (off + p.2) p.1) cs = setRow cs (off + k) vs := by
  intro vs
  induction vs with
  | nil => intro cs off k; rfl
  | cons v vs ih => intro cs off k; rw [List.zipIdx_cons, List.foldl_cons, ih]; rfl

theorem setAt_relL {cells vs : List AVal} {cs : Array Value} {cvs : List Value} {off : Nat} (h : RelL P Γ H w cells cs) (hle : off + vs.length ≤ cells.length) (hl : cvs.length = vs.length)
    (hv : ∀ i (_ : i < vs.length) (_ : i < cvs.length), RelV P Γ H w vs[i] cvs[i]) : RelL P Γ H w (setAt cells off vs) (setRow cs off cvs) := by
  refine ⟨by rw [size_setRow, length_setAt hle, h.1], fun i h1 h2 => ?_⟩
  have := setAt_rel (base := 0) hle (by rw [h.1]; omega) hl (fun i hi => by rw [Nat.zero_add]; exact h.get hi) hv i h1
  rw [Nat.zero_add, Nat.zero_add] at this
  obtain ⟨cv, a1, a2⟩ := this
  rw [Array.getElem?_eq_getElem h2] at a1
  simp only [Option.some.injEq] at a1
  rw [a1]
  exact a2

theorem fillA_sound {place : Nat → Option (Nat × Nat)} : ∀ (parts : List (Nat × AVal)) (cparts : List (Nat × Value)) (cells cells' : List AVal) (cs : Array Value),
    fillA place cells parts = some cells' → RelL P Γ H w cells cs → cparts.length = parts.length →
    (∀ i (h1 : i < parts.length) (h2 : i < cparts.length), parts[i].1 = cparts[i].1 ∧ RelV P Γ H w parts[i].2 cparts[i].2) →
    ∃ cs', Instr.fill place cs cparts = some cs' ∧ RelL P Γ H w cells' cs' := by
  intro parts
  induction parts with
  | nil =>
    intro cparts cells cells' cs h hr hl _
    simp only [fillA, Option.some.injEq] at h
    subst h
    have : cparts = [] := by simpa using hl
    subst this
    exact ⟨cs, rfl, hr⟩
  | cons p parts ih =>
    intro cparts cells cells' cs h hr hl hp
    cases cparts with
    | nil => simp at hl
    | cons cp cparts =>
      obtain ⟨i, v⟩ := p
      obtain ⟨ci, cv⟩ := cp
      obtain ⟨h0, hv⟩ := hp 0 (by simp) (by simp)
      simp only [List.getElem_cons_zero] at h0 hv
      subst h0
      simp only [fillA] at h
      simp only [Instr.fill]
      split at h
      · cases h
      · rename_i off size hpl
        rw [hpl]
        split at h
        · rename_i hc
          obtain ⟨v1, v2⟩ := hv.cells
          have hn : (decide (cv.cells.size ≠ size) || decide (off + cv.cells.size > cs.size)) = false := by
            have : cv.cells.size = v.cells.length := by rw [← v1]; simp
            have := hr.1
            simp; omega
          simp only [hn, Bool.false_eq_true, if_false]
          have hf : cv.cells.zipIdx.foldl (fun cs (p : Value × Nat) => cs.setIfInBounds (off + p.2) p.1) cs = setRow cs off cv.cells.toList := by
            have := foldl_set cv.cells.toList cs off 0
            rw [Nat.add_zero] at this
            rw [← this, ← Array.foldl_toList, Array.toList_zipIdx]
          rw [hf]
          exact ih cparts _ _ _ h (setAt_relL hr hc.2 v1 v2) (by simpa using hl)
            (fun i h1 h2 => hp (i + 1) (by simpa using h1) (by simpa using h2))
        · cases h

theorem fillA_len {place : Nat → Option (Nat × Nat)} : ∀ {parts : List (Nat × AVal)} {cells cells' : List AVal}, fillA place cells parts = some cells' → cells'.length = cells.length := by
  intro parts
  induction parts with
  | nil => intro cells cells' h; simp only [fillA, Option.some.injEq] at h; rw [h]
  | cons p parts ih =>
    intro cells cells' h
    obtain ⟨i, v⟩ := p
    simp only [fillA] at h
    split at h
    · cases h
    · split at h
      · rename_i hc
        rw [ih h, length_setAt hc.2]
      · cases h

theorem getElem_flatten_replicate {α : Type} (z : List α) : ∀ (n i : Nat) (_ : i < n * z.length), (List.replicate n z).flatten[i]? = z[i % z.length]? := by
  intro n
  induction n with
  | zero => intro i h; simp at h
  | succ n ih =>
    intro i h
    rw [List.replicate_succ, List.flatten_cons]
    by_cases hi : i < z.length
    · rw [List.getElem?_append_left hi, Nat.mod_eq_of_lt hi]
    · rw [List.getElem?_append_right (by omega), ih (i - z.length) (by rw [Nat.succ_mul] at h; omega)]
      rw [← Nat.mod_eq_sub_mod (by omega)]

/-- The zeros of a new row, by the model. -/
theorem zeros_rel {v : Value} {n : Nat} {z : List AVal} (hz : z = v.cells.toList.map .lit) :
    RelL P Γ H w (List.replicate n z).flatten ((Array.range (n * v.cells.size)).map (v.cells[· % v.cells.size]!)) := by
  have hzl : z.length = v.cells.size := by rw [hz]; simp
  refine ⟨by simp [hzl], fun i h1 h2 => ?_⟩
  have hi : i < n * v.cells.size := by simpa using h2
  have hpos : 0 < v.cells.size := by
    rcases Nat.eq_zero_or_pos v.cells.size with h | h
    · rw [h] at hi; simp at hi
    · exact h
  have hg := getElem_flatten_replicate z n i (by rw [hzl]; exact hi)
  rw [List.getElem?_eq_getElem h1, hzl] at hg
  have hm : i % v.cells.size < v.cells.size := Nat.mod_lt _ hpos
  have hz2 : z[i % v.cells.size]? = some (.lit v.cells[i % v.cells.size]) := by
    rw [hz, List.getElem?_map, Array.getElem?_toList, Array.getElem?_eq_getElem hm]; rfl
  rw [hz2] at hg
  simp only [Option.some.injEq] at hg
  rw [hg]
  simp only [Array.getElem_map, Array.getElem_range]
  rw [getElem!_pos v.cells _ hm]
  exact .lit _

theorem buildA_sound {t : TypeId} {parts : List (Nat × AVal)} {cparts : Array (Nat × Value)} {v : AVal} (h : buildA P t parts = some v) (hl : cparts.toList.length = parts.length)
    (hp : ∀ i (h1 : i < parts.length) (h2 : i < cparts.toList.length), parts[i].1 = cparts.toList[i].1 ∧ RelV P Γ H w parts[i].2 cparts.toList[i].2) :
    ∃ cv, (Instr.build t cparts).run P w = .ok cv w ∧ RelV P Γ H w v cv := by
  unfold buildA at h
  simp only [Option.bind_eq_some_iff] at h
  obtain ⟨z, hz, h⟩ := h
  obtain ⟨i, zv, hi, hzv, _, hzz, _⟩ := zeroA_some hz
  unfold Instr.build
  rw [run_bind_ok (run_zero hi hzv)]
  have hz0 : RelL P Γ H w z zv.cells := hzz ▸ RelL.lit _
  split at h
  · rename_i fs hd
    simp only [Option.bind_eq_some_iff, Option.map_eq_some_iff] at h
    obtain ⟨pl, hpl, cells, hf, rfl⟩ := h
    rw [run_bind_ok (run_und hd)]
    simp only
    unfold placesA at hpl
    rw [hd] at hpl
    simp only at hpl
    split at hpl
    · rename_i hall
      simp only [Option.some.injEq] at hpl
      have hplaces : (fs.mapM fun (f : Field) => (do pure (f.offset, ← sizeOf f.type) : Sem (Nat × Nat))).run P w = .ok (fs.map fun f => (f.offset, P.cellsOf f.type)) w := by
        rw [Array.mapM_eq_mapM_toList]
        have key : ∀ (l : List Field), (l.all fun f => (P.info? f.type).isSome) = true →
            (l.mapM fun (f : Field) => (do pure (f.offset, ← sizeOf f.type) : Sem (Nat × Nat))).run P w = .ok (l.map fun f => (f.offset, P.cellsOf f.type)) w := by
          intro l
          induction l with
          | nil => intro _; rfl
          | cons f l ih =>
            intro ha
            simp only [List.all_cons, Bool.and_eq_true] at ha
            obtain ⟨j, hj⟩ := Option.isSome_iff_exists.1 ha.1
            rw [List.mapM_cons, run_bind_ok (a := (f.offset, P.cellsOf f.type)) (w' := w) (by rw [run_bind_ok (run_sizeOf hj)]; rfl), run_bind_ok (ih ha.2)]
            rfl
        rw [Sem.run_map, key _ hall, Result.andThen_ok, ← Array.toList_map, Array.toArray_toList]
      rw [run_bind_ok hplaces]
      obtain ⟨cs', hc1, hc2⟩ := fillA_sound parts cparts.toList z cells zv.cells hf hz0 hl hp
      have hpe : (fun i : Nat => (fs.map fun f => (f.offset, P.cellsOf f.type))[i]?) = fun i => pl[i]? := by
        funext i
        rw [← hpl]
        simp
      rw [hpe, hc1]
      exact ⟨_, rfl, .agg (by simpa using hc2.1) (fun i h1 h2 => by simpa using hc2.2 i h1 (by simpa using h2))⟩
    · cases hpl
  · rename_i n e hd
    split at h
    · rename_i he
      simp only [Option.map_eq_some_iff] at h
      obtain ⟨cells, hf, rfl⟩ := h
      obtain ⟨d, hde⟩ := Option.isSome_iff_exists.1 he
      rw [run_bind_ok (run_und hd)]
      simp only
      rw [run_bind_ok (run_size_und hde)]
      obtain ⟨cs', hc1, hc2⟩ := fillA_sound parts cparts.toList z cells zv.cells hf hz0 hl hp
      rw [hc1]
      exact ⟨_, rfl, .agg (by simpa using hc2.1) (fun i h1 h2 => by simpa using hc2.2 i h1 (by simpa using h2))⟩
    · cases h
  · cases h

theorem own_fresh {id : Nat} {cells : List AVal} {e : TypeId} {len cap sz : Nat} {Γ' : Gam} {n : Nat} {b : Nat} (hget : H'.get id = some (.arr 0 e cells)) (hn : id < H'.next) (hΓ : Γ' id = some (b, 0, n))
    (hlen : len ≤ cap) (hle : len * sz ≤ cells.length) (hcap : cap * sz ≤ n) : RelV P Γ' H' w' (.own id 0 0 len sz) (.slice (some ⟨b, 0, none⟩) len cap) := by
  refine .own ⟨hn, rfl, by rw [hget]; simp, fun g e' cells' hg => ?_⟩
  rw [hget] at hg
  simp only [Option.some.injEq, Blk.arr.injEq] at hg
  obtain ⟨rfl, rfl, rfl⟩ := hg
  refine ⟨Nat.le_refl _, fun _ => ?_⟩
  rw [hΓ]
  exact ⟨⟨b, 0, none⟩, cap, rfl, hlen, by omega, .inl ⟨rfl, by omega⟩⟩

theorem ptr_fresh {id : Nat} {cells : List AVal} {e : TypeId} {Γ' : Gam} {n : Nat} {b : Nat} (hget : H'.get id = some (.arr 0 e cells)) (hn : id < H'.next) (hΓ : Γ' id = some (b, 0, n)) :
    RelV P Γ' H' w' (.ptr id 0 0) (.pointer (some ⟨b, 0, none⟩)) := by
  refine .ptr ⟨hn, rfl, by rw [hget]; simp, fun g e' cells' hg => ?_⟩
  rw [hget] at hg
  simp only [Option.some.injEq, Blk.arr.injEq] at hg
  obtain ⟨rfl, rfl, rfl⟩ := hg
  exact ⟨Nat.le_refl _, fun _ => ⟨b, 0, n, hΓ, by simp⟩⟩

theorem buildSliceA_sound {id len : Nat} {t : TypeId} {parts : List (Nat × AVal)} {cparts : Array (Nat × Value)} {v : AVal} (R : RelH P G Γ H w) (h : buildSliceA P H id t len parts = some (v, H')) (hl : cparts.toList.length = parts.length)
    (hp : ∀ i (h1 : i < parts.length) (h2 : i < cparts.toList.length), parts[i].1 = cparts.toList[i].1 ∧ RelV P Γ H w parts[i].2 cparts.toList[i].2) :
    ∃ cv Γ' w', (Instr.buildSlice t len cparts).run P w = .ok cv w' ∧ Evo Γ H w Γ' H' w' ∧ H.next ≤ H'.next ∧ RelH P G Γ' H' w' ∧ RelV P Γ' H' w' v cv := by
  unfold buildSliceA at h
  split at h
  · rename_i e hd
    split at h
    · rename_i hle
      simp only [Option.bind_eq_some_iff, Option.map_eq_some_iff, Prod.mk.injEq] at h
      obtain ⟨zs, hzs, cells, hf, H1, hlay, rfl, rfl⟩ := h
      unfold zerosA at hzs
      simp only [Option.map_eq_some_iff] at hzs
      obtain ⟨z, hz, rfl⟩ := hzs
      obtain ⟨i, zv, hi, hzv, hsz, hzz, hcells⟩ := zeroA_some hz
      have hz0 : RelL P Γ H w (List.replicate len z).flatten ((Array.range (len * zv.cells.size)).map (zv.cells[· % zv.cells.size]!)) := zeros_rel hzz
      obtain ⟨cs', hc1, hc2⟩ := fillA_sound parts cparts.toList _ cells _ hf hz0 hl hp
      have hrun : (Instr.buildSlice t len cparts).run P w = .ok (.slice (some ⟨w.heap.size, 0, none⟩) len len) (w.alloc (.cells cs' e)) := by
        unfold Instr.buildSlice
        rw [run_bind_ok (run_und hd)]
        simp only
        rw [run_bind_ok (run_sizeOf hi)]
        rw [if_neg (by omega)]
        have hcs : P.cellsOf e = zv.cells.size := by rw [hcells, hsz]
        rw [hcs]
        rw [hcs] at hc1
        by_cases h0 : len * zv.cells.size = 0
        · rw [h0] at hc1
          rw [if_pos h0]
          rw [run_bind_ok (Sem.run_pure P w _)]
          have he : ∀ f : Nat → Value, (Array.range 0).map f = #[] := fun _ => Array.eq_empty_of_size_eq_zero (by simp)
          have he2 : ∀ f : Nat → Value, (Array.range (len * zv.cells.size)).map f = #[] := fun _ => Array.eq_empty_of_size_eq_zero (by simp [h0])
          rw [he] at hc1
          rw [he2, hc1]
          rfl
        · rw [if_neg h0]
          rw [run_bind_ok (run_zero hi hzv), run_bind_ok (Sem.run_pure P w _), hc1]
          rfl
      have hlen : len * P.cellsOf e ≤ cells.length := by
        have h1 := fillA_len hf
        rw [h1]
        simp [hzz, hcells, hsz]
      obtain ⟨E, hn, R'⟩ := lay_sound (c := cs') R hlay (by rw [hc2.1]; exact Nat.le_refl _) (fun i hi => hc2.get hi)
      obtain ⟨hget, _⟩ := lay_some hlay
      obtain ⟨_, _, _, hid⟩ := lay_fresh R hlay
      exact ⟨_, _, _, hrun, E, hn, R', own_fresh (by rw [hget, if_pos rfl]) hid (Gam.upd_same _ _ _) (Nat.le_refl _) hlen (by rw [hc2.1]; exact hlen)⟩
    · cases h
  · cases h

end Go.Hx
