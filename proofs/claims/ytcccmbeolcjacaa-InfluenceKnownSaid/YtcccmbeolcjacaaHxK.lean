/-
  Every operation on abstract values is what the model's is: all together. Own work: no program stands in this text.
-/
import Derived.Test.YtcccmbeolcjacaaHxJ
namespace Go.Hx
variable {P : Program} {G : Nat → Option (List AVal)} {Γ Γ' : Gam} {H H' : AHeap} {w w' : World}

theorem exec_v {s : Sem Value} {cv : Value} (h : s.run P w = .ok cv w') : (do pure (Next.value (← s)) : Sem Next).run P w = .ok (.value cv) w' := by
  rw [run_bind_ok h]; rfl

theorem exec_u {s : Sem Unit} (h : s.run P w = .ok () w') : (do s; pure Next.skip : Sem Next).run P w = .ok .skip w' := by
  rw [run_bind_ok h]; rfl

/-- What an operation must do. -/
def OpOk (P : Program) (G : Nat → Option (List AVal)) (Γ : Gam) (H : AHeap) (w : World) (v : AVal) (H' : AHeap) (s : Sem Next) : Prop :=
  ∃ nx cv Γ' w', s.run P w = .ok nx w' ∧ (nx = .value cv ∨ (nx = .skip ∧ cv = undef)) ∧ Evo Γ H w Γ' H' w' ∧ H.next ≤ H'.next ∧ RelH P G Γ' H' w' ∧ RelV P Γ' H' w' v cv

theorem OpOk.same {v : AVal} {cv : Value} {s : Sem Value} (R : RelH P G Γ H w) (h : s.run P w = .ok cv w) (hv : RelV P Γ H w v cv) :
    OpOk P G Γ H w v H (do pure (Next.value (← s))) :=
  ⟨.value cv, cv, Γ, w, exec_v h, .inl rfl, Evo.refl _ _ _, Nat.le_refl _, R, hv⟩

theorem OpOk.new {v : AVal} {s : Sem Value} (h : ∃ cv Γ' w', s.run P w = .ok cv w' ∧ Evo Γ H w Γ' H' w' ∧ H.next ≤ H'.next ∧ RelH P G Γ' H' w' ∧ RelV P Γ' H' w' v cv) :
    OpOk P G Γ H w v H' (do pure (Next.value (← s))) :=
  let ⟨cv, Γ', w', h1, h2, h3, h4, h5⟩ := h
  ⟨.value cv, cv, Γ', w', exec_v h1, .inl rfl, h2, h3, h4, h5⟩

theorem rel_map {G : Nat → Option (List AVal)} {ρ : Env} {f : Operand → Value} (hev : ∀ x, RelV P Γ H w (evA G ρ x) (f x)) (l : List Operand) :
    ∀ i (_ : i < (l.map (evA G ρ)).length) (_ : i < (l.map f).length), RelV P Γ H w (l.map (evA G ρ))[i] (l.map f)[i] := by
  intro i h1 h2
  simp only [List.getElem_map]
  exact hev _

theorem parts_rel {ρ : Env} {f : Operand → Value} (hev : ∀ x, RelV P Γ H w (evA G ρ x) (f x)) (parts : Array (Nat × Operand)) :
    (parts.map fun (p : Nat × Operand) => (p.1, f p.2)).toList.length = (parts.toList.map fun p => (p.1, evA G ρ p.2)).length ∧
    ∀ i (h1 : i < (parts.toList.map fun p => (p.1, evA G ρ p.2)).length) (h2 : i < (parts.map fun (p : Nat × Operand) => (p.1, f p.2)).toList.length),
      (parts.toList.map fun p => (p.1, evA G ρ p.2))[i].1 = (parts.map fun (p : Nat × Operand) => (p.1, f p.2)).toList[i].1 ∧
      RelV P Γ H w (parts.toList.map fun p => (p.1, evA G ρ p.2))[i].2 (parts.map fun (p : Nat × Operand) => (p.1, f p.2)).toList[i].2 := by
  refine ⟨by simp, fun i h1 h2 => ?_⟩
  simp only [List.getElem_map, Array.getElem_toList, Array.getElem_map]
  exact ⟨trivial, hev _⟩

theorem relO_map {ρ : Env} {f : Operand → Value} (hev : ∀ x, RelV P Γ H w (evA G ρ x) (f x)) (o : Option Operand) : RelO P Γ H w (o.map (evA G ρ)) (o.map f) := by
  cases o with
  | none => trivial
  | some x => exact hev x

theorem allVals_rel : ∀ {args : List AVal} {vs cs : List Value}, allVals args = some vs → cs.length = args.length → (∀ i (_ : i < args.length) (_ : i < cs.length), RelV P Γ H w args[i] cs[i]) → cs = vs := by
  intro args
  induction args with
  | nil => intro vs cs h hl _; simp only [allVals, Option.some.injEq] at h; subst h; simpa using hl
  | cons a args ih =>
    intro vs cs h hl hr
    simp only [allVals, Option.bind_eq_some_iff, Option.map_eq_some_iff] at h
    obtain ⟨x, hx, l, hl2, rfl⟩ := h
    cases cs with
    | nil => simp at hl
    | cons c cs =>
      have h0 := hr 0 (by simp) (by simp)
      simp only [List.getElem_cons_zero] at h0
      rw [h0.toVal hx]
      have := ih hl2 (by simpa using hl) (fun i a b => hr (i + 1) (by simpa using a) (by simpa using b))
      rw [this]

theorem builtinA_sound {id : Nat} {b : Builtin} {ats : Array TypeId} {args : List AVal} {cargs : Array Value} {ty : TypeId} {cs : Array Bool} {v : AVal} (R : RelH P G Γ H w) (h : builtinA P H id b ats.toList args = some (v, H'))
    (hl : cargs.toList.length = args.length) (hr : ∀ i (_ : i < args.length) (_ : i < cargs.toList.length), RelV P Γ H w args[i] cargs.toList[i]) :
    OpOk P G Γ H w v H' (builtin b ats ty cs cargs) := by
  obtain ⟨ats⟩ := ats
  obtain ⟨cargs⟩ := cargs
  simp only at h hl hr
  unfold builtinA at h
  split at h
  · rename_i t x
    simp only [Option.map_eq_some_iff, Prod.mk.injEq] at h
    obtain ⟨v', hv, rfl, rfl⟩ := h
    match cargs, hl, hr with
    | [cx], _, hr =>
      obtain ⟨cv, h1, h2⟩ := lenA_sound (ty := ty) hv (hr 0 (by simp) (by simp))
      exact OpOk.same R h1 h2
  · rename_i t u s x
    match cargs, hl, hr with
    | [c1, c2], _, hr => exact OpOk.new (appendA_sound R h (hr 0 (by simp) (by simp)) (hr 1 (by simp) (by simp)))
  · rename_i t u d x
    match cargs, hl, hr with
    | [c1, c2], _, hr => exact OpOk.new (copyA_sound R h (hr 0 (by simp) (by simp)) (hr 1 (by simp) (by simp)))
  · simp only [Option.bind_eq_some_iff, Option.map_eq_some_iff, Prod.mk.injEq] at h
    obtain ⟨vs, hvs, r, hp, rfl, rfl⟩ := h
    have := allVals_rel hvs hl hr
    subst this
    exact OpOk.same R (pureRun_run hp w) (.lit _)
  · simp only [Option.bind_eq_some_iff, Option.map_eq_some_iff, Prod.mk.injEq] at h
    obtain ⟨vs, hvs, r, hp, rfl, rfl⟩ := h
    have := allVals_rel hvs hl hr
    subst this
    exact OpOk.same R (pureRun_run hp w) (.lit _)
  · cases h

theorem partA_part {t : TypeId} {cells : List AVal} {cs : Array Value} {off : Nat} {v : AVal} (h : partA P t cells off = some v) (hc : RelL P Γ H w cells cs) :
    ∃ cv, (part t cs off).run P w = .ok cv w ∧ RelV P Γ H w v cv := by
  unfold partA at h
  unfold part
  split at h
  · cases h
  · rename_i d hd
    rw [run_bind_ok (run_isAgg hd)]
    split at h
    · rename_i ha
      split at h
      · rename_i hle
        simp only [Option.some.injEq] at h
        subst h
        rw [ha, if_pos rfl, run_bind_ok (run_size_und hd)]
        refine ⟨_, rfl, ?_⟩
        have he : (cs.extract off (off + P.cellsOf t)) = ((cs.toList.drop off).take (P.cellsOf t)).toArray := by
          apply Array.ext'
          simp [List.extract_eq_take_drop]
        rw [he]
        have hsz := hc.1
        refine .agg (by simp only [List.length_take, List.length_drop, Array.length_toList]; omega) (fun i h1 h2 => ?_)
        simp only [List.getElem_take, List.getElem_drop, Array.getElem_toList]
        simp only [List.length_take, List.length_drop] at h1
        exact hc.2 (off + i) (by omega) (by omega)
      · cases h
    · rename_i ha
      have : aggT d = false := by simpa using ha
      rw [this]
      simp only [Bool.false_eq_true, if_false]
      obtain ⟨hlt, hv⟩ := List.getElem?_eq_some_iff.1 h
      subst hv
      obtain ⟨cv, h1, h2⟩ := hc.get hlt
      rw [h1]
      exact ⟨cv, rfl, h2⟩

theorem relL_of_agg {cells : List AVal} {cv : Value} (h : RelV P Γ H w (.agg cells) cv) : ∃ cs : Array Value, cv = .agg cs ∧ RelL P Γ H w cells cs := by
  cases h with
  | @agg _ cs hcs hrel => exact ⟨cs.toArray, rfl, by simpa using hcs, fun i h1 h2 => by simpa using hrel i h1 (by simpa using h2)⟩

theorem fieldA_some {t f off : Nat} {ft : TypeId} (h : fieldA P t f = some (off, ft)) : ∃ fs fl i, P.underlying t = some (.struct fs) ∧ fs[f]? = some fl ∧ P.info? fl.type = some i ∧ P.cellsOf fl.type ≠ 0 ∧ off = fl.offset ∧ ft = fl.type := by
  unfold fieldA at h
  split at h
  · rename_i fs hd
    split at h
    · rename_i fl hf
      split at h
      · rename_i hi
        obtain ⟨i, hi1⟩ := Option.isSome_iff_exists.1 hi.1
        simp only [Option.some.injEq, Prod.mk.injEq] at h
        exact ⟨fs, fl, i, hd, hf, hi1, hi.2, h.1.symm, h.2.symm⟩
      · cases h
    · cases h
  · cases h

theorem run_fieldAt {t f : Nat} {fs : Array Field} {fl : Field} {i : TypeInfo} {a : Addr} (hd : P.underlying t = some (.struct fs)) (hf : fs[f]? = some fl) (hi : P.info? fl.type = some i) (h0 : P.cellsOf fl.type ≠ 0) :
    (Instr.fieldAt t (.pointer (some a)) f).run P w = .ok (.pointer (some (a.add fl.offset))) w := by
  unfold Instr.fieldAt
  rw [run_bind_ok (run_und hd)]
  simp only [hf]
  have sa : (Instr.sureAddr (.pointer (some a))).run P w = .ok a w := rfl
  rw [run_bind_ok sa]
  unfold fieldPlace
  have : (do if (← sizeOf fl.type) = 0 then partAt a fl.offset fl.byteOffset else pure (a.add fl.offset) : Sem Addr).run P w = .ok (a.add fl.offset) w := by
    rw [run_bind_ok (run_sizeOf hi), if_neg h0]
    rfl
  rw [run_bind_ok this]
  rfl

theorem run_field {t f : Nat} {fs : Array Field} {fl : Field} {cs : Array Value} (hd : P.underlying t = some (.struct fs)) (hf : fs[f]? = some fl) :
    (Instr.field t (.agg cs) f).run P w = (part fl.type cs fl.offset).run P w := by
  unfold Instr.field
  rw [run_bind_ok (run_und hd)]
  simp only [hf]
  have sa : (asAgg (.agg cs)).run P w = .ok cs w := rfl
  rw [run_bind_ok sa]

theorem extractA_sound {x v : AVal} {i : Nat} {cx : Value} (h : extractA x i = some v) (hx : RelV P Γ H w x cx) : ∃ cv, (Instr.extract cx i).run P w = .ok cv w ∧ RelV P Γ H w v cv := by
  cases hx with
  | @tup vs cs hcs hrel =>
    simp only [extractA] at h
    obtain ⟨hlt, hv⟩ := List.getElem?_eq_some_iff.1 h
    subst hv
    refine ⟨cs[i]'(by omega), ?_, hrel i hlt (by omega)⟩
    have : Instr.extract (.tuple cs.toArray) i = (pure (cs[i]'(by omega)) : Sem Value) := by
      unfold Instr.extract
      simp only [List.getElem?_toArray]
      rw [List.getElem?_eq_getElem (by omega)]
    rw [this]
    rfl
  | lit =>
    cases cx with
    | tuple vs =>
      simp only [extractA, Option.map_eq_some_iff] at h
      obtain ⟨r, hr, rfl⟩ := h
      refine ⟨r, ?_, .lit _⟩
      have : Instr.extract (.tuple vs) i = (pure r : Sem Value) := by
        unfold Instr.extract
        simp [hr]
      rw [this]
      rfl
    | _ => simp [extractA] at h
  | _ => simp [extractA] at h

theorem opA_sound {ρ : Env} {f : Operand → Value} {o : Oper} {id : Nat} {v : AVal} (R : RelH P G Γ H w) (hev : ∀ x, RelV P Γ H w (evA G ρ x) (f x)) (h : opA P G ρ H id o.op = some (v, H')) :
    OpOk P G Γ H w v H' (execOp f o) := by
  obtain ⟨dst, op, type, pos, after, guard⟩ := o
  simp only at h
  unfold execOp
  cases op with
  | move x =>
    simp only [opA, Option.some.injEq, Prod.mk.injEq] at h
    obtain ⟨rfl, rfl⟩ := h
    exact ⟨_, _, Γ, w, rfl, .inl rfl, Evo.refl _ _ _, Nat.le_refl _, R, hev x⟩
  | assign x =>
    simp only [opA, Option.some.injEq, Prod.mk.injEq] at h
    obtain ⟨rfl, rfl⟩ := h
    exact ⟨_, _, Γ, w, rfl, .inl rfl, Evo.refl _ _ _, Nat.le_refl _, R, hev x⟩
  | pick c a b =>
    simp only [opA] at h
    have hc := hev c
    split at h
    · rename_i t ht
      rw [ht] at hc
      simp only [Option.some.injEq, Prod.mk.injEq] at h
      obtain ⟨rfl, rfl⟩ := h
      dsimp only
      generalize f c = fc at hc ⊢
      cases hc
      refine ⟨.value (if t then f a else f b), (if t then f a else f b), Γ, w, ?_, .inl rfl, Evo.refl _ _ _, Nat.le_refl _, R, ?_⟩
      · cases t <;> rfl
      · cases t
        · exact hev b
        · exact hev a
    · cases h
  | alloc e =>
    simp only [opA, Option.bind_eq_some_iff, Option.map_eq_some_iff, Prod.mk.injEq] at h
    obtain ⟨z, hz, H1, hlay, rfl, rfl⟩ := h
    obtain ⟨i, zv, hi, hzv, hsz, hzz, hcells⟩ := zeroA_some hz
    have hz0 : RelL P Γ H w z zv.cells := hzz ▸ RelL.lit _
    obtain ⟨E, hn, R'⟩ := lay_sound (c := zv.cells) R hlay (by rw [hz0.1]; exact Nat.le_refl _) (fun i hi => hz0.get hi)
    obtain ⟨hget, _⟩ := lay_some hlay
    obtain ⟨_, _, _, hid⟩ := lay_fresh R hlay
    refine OpOk.new ⟨_, _, _, ?_, E, hn, R', ptr_fresh (by rw [hget, if_pos rfl]) hid (Gam.upd_same _ _ _)⟩
    unfold Instr.alloc
    rw [run_bind_ok (run_zero hi hzv)]
    rfl
  | box e x =>
    simp only [opA, Option.map_eq_some_iff, Prod.mk.injEq] at h
    obtain ⟨H1, hlay, rfl, rfl⟩ := h
    obtain ⟨v1, v2⟩ := (hev x).cells
    obtain ⟨E, hn, R'⟩ := lay_sound (c := (f x).cells) R hlay (by rw [← v1]; simp) (fun i hi => ⟨(f x).cells[i]'(by rw [← v1] at hi; simpa using hi), Array.getElem?_eq_getElem _, by
      have := v2 i hi (by rw [v1]; exact hi)
      simpa using this⟩)
    obtain ⟨hget, _⟩ := lay_some hlay
    obtain ⟨_, _, _, hid⟩ := lay_fresh R hlay
    exact OpOk.new ⟨_, _, _, rfl, E, hn, R', ptr_fresh (by rw [hget, if_pos rfl]) hid (Gam.upd_same _ _ _)⟩
  | build t parts =>
    simp only [opA, Option.map_eq_some_iff, Prod.mk.injEq] at h
    obtain ⟨v', hb, rfl, rfl⟩ := h
    obtain ⟨p1, p2⟩ := parts_rel hev parts
    obtain ⟨cv, h1, h2⟩ := buildA_sound (w := w) hb p1 p2
    exact OpOk.same R h1 h2
  | buildSlice t len parts =>
    simp only [opA] at h
    obtain ⟨p1, p2⟩ := parts_rel hev parts
    exact OpOk.new (buildSliceA_sound R h p1 p2)
  | load t a =>
    simp only [opA, Option.map_eq_some_iff, Prod.mk.injEq] at h
    obtain ⟨v', hb, rfl, rfl⟩ := h
    obtain ⟨cv, h1, h2⟩ := loadA_sound R hb (hev a)
    exact OpOk.same R h1 h2
  | store t a x =>
    simp only [opA] at h
    split at h
    · rename_i hu
      obtain ⟨d, hd⟩ := Option.isSome_iff_exists.1 hu
      simp only [Option.map_eq_some_iff, Prod.mk.injEq] at h
      obtain ⟨H1, hst, rfl, rfl⟩ := h
      obtain ⟨w', h1, h2, h3, h4⟩ := storeA_sound R hst (info_of_und hd) (hev a) (hev x)
      exact ⟨.skip, undef, Γ, w', exec_u h1, .inr ⟨rfl, rfl⟩, h2, h3, h4, .lit _⟩
    · cases h
  | nilCheck x =>
    simp only [opA, Option.map_eq_some_iff, Prod.mk.injEq] at h
    obtain ⟨v', hb, rfl, rfl⟩ := h
    have hx := hev x
    unfold nilCheckA at hb
    split at hb
    · rename_i id' gen off hx'
      simp only [Option.map_eq_some_iff] at hb
      obtain ⟨⟨e, cells⟩, hl, rfl⟩ := hb
      rw [hx'] at hx
      obtain ⟨b, base, n, hΓ, hcv⟩ := ptr_live hx hl
      simp only [hcv] at hx ⊢
      exact ⟨_, _, Γ, w, rfl, .inl rfl, Evo.refl _ _ _, Nat.le_refl _, R, hx⟩
    · rename_i cells off hx'
      simp only [Option.some.injEq] at hb
      subst hb
      rw [hx'] at hx
      dsimp only
      generalize f x = fx at hx ⊢
      cases hx with
      | vptr a b c d e => exact ⟨_, _, Γ, w, rfl, .inl rfl, Evo.refl _ _ _, Nat.le_refl _, R, .vptr a b c d e⟩
    · rename_i ff a b hx'
      simp only [Option.some.injEq] at hb
      subst hb
      rw [hx'] at hx
      dsimp only
      generalize f x = fx at hx ⊢
      cases hx with
      | clo a b c d => exact ⟨_, _, Γ, w, rfl, .inl rfl, Evo.refl _ _ _, Nat.le_refl _, R, .clo a b c d⟩
    · cases hb
  | binOp op t x y u =>
    simp only [opA, Option.map_eq_some_iff, Prod.mk.injEq] at h
    obtain ⟨v', hb, rfl, rfl⟩ := h
    unfold binA at hb
    split at hb
    · rename_i a b ha hb'
      simp only [Option.map_eq_some_iff] at hb
      obtain ⟨r, hr, rfl⟩ := hb
      rw [← (hev x).toVal ha, ← (hev y).toVal hb'] at hr
      exact OpOk.same R (pureRun_run hr w) (.lit _)
    · cases hb
  | unOp op t x =>
    simp only [opA, Option.map_eq_some_iff, Prod.mk.injEq] at h
    obtain ⟨v', hb, rfl, rfl⟩ := h
    unfold unA at hb
    split at hb
    · rename_i a ha
      simp only [Option.map_eq_some_iff] at hb
      obtain ⟨r, hr, rfl⟩ := hb
      rw [← (hev x).toVal ha] at hr
      exact OpOk.same R (pureRun_run hr w) (.lit _)
    · cases hb
  | convert s d x =>
    simp only [opA, Option.map_eq_some_iff, Prod.mk.injEq] at h
    obtain ⟨v', hb, rfl, rfl⟩ := h
    unfold convA at hb
    split at hb
    · rename_i a ha
      simp only [Option.map_eq_some_iff] at hb
      obtain ⟨r, hr, rfl⟩ := hb
      rw [← (hev x).toVal ha] at hr
      exact OpOk.same R (pureRun_run hr w) (.lit _)
    · cases hb
  | makeInterface t x =>
    simp only [opA] at h
    split at h
    · rename_i a ha
      simp only [Option.map_eq_some_iff, Prod.mk.injEq] at h
      obtain ⟨r, hr, rfl, rfl⟩ := h
      rw [← (hev x).toVal ha] at hr
      exact OpOk.same R (pureRun_run hr w) (.lit _)
    · cases h
  | makeFunc fn first captured =>
    simp only [opA] at h
    split at h
    · simp only [Option.some.injEq, Prod.mk.injEq] at h
      obtain ⟨rfl, rfl⟩ := h
      refine OpOk.same R (cv := .func (.func _) (first.map f) (captured.map f)) rfl ?_
      have e1 : first.map f = (first.toList.map f).toArray := by rw [← Array.toList_map, Array.toArray_toList]
      have e2 : captured.map f = (captured.toList.map f).toArray := by rw [← Array.toList_map, Array.toArray_toList]
      rw [e1, e2]
      exact .clo (by simp) (by simp) (rel_map hev _) (rel_map hev _)
    · cases h
  | makeSlice t l c =>
    simp only [opA] at h
    exact OpOk.new (makeSliceA_sound R h (hev l) (hev c))
  | slice t x lo hi mx =>
    simp only [opA] at h
    split at h
    · simp only [Option.map_eq_some_iff, Prod.mk.injEq] at h
      obtain ⟨v', hb, rfl, rfl⟩ := h
      obtain ⟨cv, h1, h2⟩ := sliceA_sound R hb (hev x) (relO_map hev lo) (relO_map hev hi)
      exact OpOk.same R h1 h2
    · cases h
  | fieldAddr s x fi =>
    simp only [opA, Option.bind_eq_some_iff] at h
    obtain ⟨⟨off, ft⟩, hf, h⟩ := h
    obtain ⟨fs, fl, i, hd, hfl, hi, h0, rfl, rfl⟩ := fieldA_some hf
    have hx := hev x
    split at h
    · rename_i id' gen off' hx'
      simp only [Option.map_eq_some_iff, Prod.mk.injEq] at h
      obtain ⟨⟨e, cells⟩, hl, rfl, rfl⟩ := h
      rw [hx'] at hx
      obtain ⟨a, ha, hr⟩ := ptr_add (k := fl.offset) hx hl
      simp only [ha]
      exact OpOk.same R (run_fieldAt hd hfl hi h0) hr
    · rename_i cells off' hx'
      simp only [Option.some.injEq, Prod.mk.injEq] at h
      obtain ⟨rfl, rfl⟩ := h
      rw [hx'] at hx
      obtain ⟨a, ha, hr⟩ := vptr_add (k := fl.offset) hx
      simp only [ha]
      exact OpOk.same R (run_fieldAt hd hfl hi h0) hr
    · cases h
  | field t x fi =>
    simp only [opA, Option.bind_eq_some_iff] at h
    obtain ⟨⟨off, ft⟩, hf, h⟩ := h
    obtain ⟨fs, fl, i, hd, hfl, hi, h0, rfl, rfl⟩ := fieldA_some hf
    have hx := hev x
    split at h
    · rename_i cells hx'
      simp only [Option.map_eq_some_iff, Prod.mk.injEq] at h
      obtain ⟨v', hp, rfl, rfl⟩ := h
      rw [hx'] at hx
      obtain ⟨cs, hcv, hrl⟩ := relL_of_agg hx
      obtain ⟨cv, h1, h2⟩ := partA_part hp hrl
      simp only [hcv]
      exact OpOk.same R ((run_field hd hfl).trans h1) h2
    · rename_i cs hx'
      simp only [Option.map_eq_some_iff, Prod.mk.injEq] at h
      obtain ⟨v', hp, rfl, rfl⟩ := h
      rw [hx'] at hx
      obtain ⟨cv, h1, h2⟩ := partA_part hp (RelL.lit (P := P) (Γ := Γ) (H := H) (w := w) cs)
      dsimp only
      generalize f x = fx at hx ⊢
      cases hx
      exact OpOk.same R ((run_field hd hfl).trans h1) h2
    · cases h
  | indexAddr t x i =>
    simp only [opA] at h
    have hi := hev i
    split at h
    · rename_i k n hi'
      simp only [Option.map_eq_some_iff, Prod.mk.injEq] at h
      obtain ⟨v', hb, rfl, rfl⟩ := h
      rw [hi'] at hi
      have : f i = .int k n := by
        generalize f i = fi at hi
        cases hi
        rfl
      simp only [this]
      obtain ⟨cv, h1, h2⟩ := indexAddrA_sound (w := w) (k := k) hb (hev x)
      exact OpOk.same R h1 h2
    · cases h
  | index t x i =>
    simp only [opA, Option.map_eq_some_iff, Prod.mk.injEq] at h
    obtain ⟨v', hb, rfl, rfl⟩ := h
    have hx := hev x
    have hi := hev i
    unfold indexA at hb
    split at hb
    · rename_i cells k n hx' hi'
      rw [hx'] at hx
      rw [hi'] at hi
      have hfi : f i = .int k n := by
        generalize f i = fi at hi
        cases hi
        rfl
      obtain ⟨cs, hcv, hrl⟩ := relL_of_agg hx
      split at hb
      · rename_i len e hd
        split at hb
        · rename_i hn
          obtain ⟨cv, h1, h2⟩ := partA_part hb hrl
          simp only [hcv, hfi]
          refine OpOk.same R ?_ h2
          unfold Instr.index
          rw [run_bind_ok (run_asIntOf k n)]
          simp only
          rw [run_bind_ok (run_und hd)]
          simp only
          rw [if_pos hn]
          have : ∃ d, P.underlying e = some d := by
            unfold partA at hb
            split at hb
            · cases hb
            · rename_i d hd'; exact ⟨d, hd'⟩
          obtain ⟨d, hde⟩ := this
          rw [run_bind_ok (run_size_und hde)]
          exact h1
        · cases hb
      · cases hb
    · rename_i vx vi hx' hi'
      rw [hx'] at hx
      rw [hi'] at hi
      simp only [Option.map_eq_some_iff] at hb
      obtain ⟨r, hr, rfl⟩ := hb
      have h1 : f x = vx := by
        generalize f x = fx at hx
        cases hx
        rfl
      have h2 : f i = vi := by
        generalize f i = fx at hi
        cases hi
        rfl
      simp only [h1, h2]
      exact OpOk.same R (pureRun_run hr w) (.lit _)
    · cases hb
  | extract t i =>
    simp only [opA, Option.map_eq_some_iff, Prod.mk.injEq] at h
    obtain ⟨v', hb, rfl, rfl⟩ := h
    obtain ⟨cv, h1, h2⟩ := extractA_sound (w := w) hb (hev t)
    exact OpOk.same R h1 h2
  | call c =>
    simp only [opA] at h
    obtain ⟨callee, args, ats⟩ := c
    split at h
    · rename_i b hb
      simp only at hb h
      subst hb
      have := builtinA_sound (ty := type) (cs := args.map fun | .const _ => true | _ => false) (cargs := args.map f) R h (by simp) (fun i h1 h2 => by
        simp only [List.getElem_map, Array.getElem_toList, Array.getElem_map]
        exact hev _)
      exact this
    · cases h
  | _ => simp [opA] at h

end Go.Hx
