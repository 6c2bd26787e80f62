/-
  Every operation on abstract values is what the model's is. Own work: no program stands in this text.
-/
import Derived.Test.YtcccmbeolcjacaaHxI
namespace Go.Hx
variable {P : Program} {G : Nat → Option (List AVal)} {Γ Γ' : Gam} {H H' : AHeap} {w w' : World}

theorem live_get (id gen : Nat) (e : TypeId) (cells : List AVal) (h : H.get id = some (.arr gen e cells)) : H.live id gen = some (e, cells) := by
  simp [AHeap.live, h]

theorem lenA_sound {t : TypeId} {ty : TypeId} {x v : AVal} {cx : Value} (h : lenA P H t x = some v) (hx : RelV P Γ H w x cx) :
    ∃ cv, (Builtin.len_ #[t] ty #[cx]).run P w = .ok cv w ∧ RelV P Γ H w v cv := by
  unfold lenA at h
  unfold Builtin.len_
  simp only [List.getElem?_toArray, List.getElem?_cons_zero]
  split at h
  · rename_i e hd
    rw [run_bind_ok (run_und hd)]
    split at h
    · rename_i len cells
      simp only [Option.some.injEq] at h
      subst h
      cases hx <;> exact ⟨_, rfl, .lit _⟩
    · rename_i id gen off len sz
      simp only [Option.map_eq_some_iff] at h
      obtain ⟨⟨e', cells⟩, hl, rfl⟩ := h
      rcases own_live hx hl with ⟨b, base, n, a, cap, hΓ, rfl, _⟩ | ⟨hΓ, rfl, rfl, rfl⟩ <;> exact ⟨_, rfl, .lit _⟩
    · simp only [Option.some.injEq] at h
      subst h
      cases hx
      exact ⟨_, rfl, .lit _⟩
    · cases h
  · rename_i hd
    rw [run_bind_ok (run_und hd)]
    split at h
    · simp only [Option.some.injEq] at h
      subst h
      cases hx
      exact ⟨_, rfl, .lit _⟩
    · cases h
  · rename_i n e hd
    rw [run_bind_ok (run_und hd)]
    simp only [Option.some.injEq] at h
    subst h
    exact ⟨_, rfl, .lit _⟩
  · cases h

theorem firstA_sound {sz n m : Nat} {x : AVal} {cells : List AVal} {cx : Value} (R : RelH P G Γ H w) (h : sourceA H sz x = some (n, cells)) (hx : RelV P Γ H w x cx) (hm : m ≤ n) :
    ∃ cs : List Value, (Builtin.firstCells sz m cx).run P w = .ok cs.toArray w ∧ cs.length = (cells.take (m * sz)).length ∧
      ∀ i (_ : i < (cells.take (m * sz)).length) (_ : i < cs.length), RelV P Γ H w (cells.take (m * sz))[i] cs[i] := by
  have hms : m * sz ≤ n * sz := Nat.mul_le_mul_right _ hm
  unfold sourceA at h
  split at h
  · rename_i len cells'
    split at h
    · rename_i hl
      simp only [Option.some.injEq, Prod.mk.injEq] at h
      obtain ⟨rfl, rfl⟩ := h
      cases hx with
      | vec0 a cap =>
        have : m = 0 := by omega
        subst this
        refine ⟨[], ?_, by simp, fun i h1 _ => by simp at h1⟩
        cases a with
        | none => rfl
        | some a => unfold Builtin.firstCells; rw [Nat.zero_mul]; rfl
      | @vec _ _ b off cap cs hb hlt hlen hcs hcell hrel =>
        obtain ⟨cs', k1, k2, k3⟩ := RowAt.drop (k := 0) (n := m * sz) ⟨cs, hcs, hcell, hrel⟩ (by omega)
        rw [List.drop_zero] at k1 k3
        refine ⟨cs', ?_, k1, k3⟩
        unfold Builtin.firstCells
        have : m * sz = cs'.length := by rw [k1, List.length_take]; omega
        rw [this]
        exact run_loadCells_at k2
    · cases h
  · rename_i id gen off len sz'
    split at h
    · rename_i hsz
      subst hsz
      simp only [Option.map_eq_some_iff, Prod.mk.injEq] at h
      obtain ⟨⟨e, cells'⟩, hl, rfl, rfl⟩ := h
      rcases own_live hx hl with ⟨b, base, nn, a, cap, hΓ, rfl, c1, c2, c3⟩ | ⟨hΓ, rfl, rfl, rfl⟩
      · rcases c3 with ⟨rfl, c3⟩ | ⟨rfl, rfl⟩
        · obtain ⟨cs, k1, k2, k3⟩ := (row_live R hl hΓ).drop off (m * sz') (by omega)
          have he : ((cells'.drop off).take (len * sz')).take (m * sz') = (cells'.drop off).take (m * sz') := by
            rw [List.take_take, Nat.min_eq_left hms]
          simp only [he]
          refine ⟨cs, ?_, k1, k3⟩
          unfold Builtin.firstCells
          have : m * sz' = cs.length := by rw [k1]; simp only [List.length_take, List.length_drop]; omega
          rw [this]
          exact run_loadCells_at k2
        · have : m = 0 := by omega
          subst this
          refine ⟨[], ?_, by simp, fun i h1 _ => by simp at h1⟩
          unfold Builtin.firstCells; rw [Nat.zero_mul]; rfl
      · have : m = 0 := by omega
        subst this
        exact ⟨[], rfl, by simp, fun i h1 _ => by simp at h1⟩
    · cases h
  · simp only [Option.some.injEq, Prod.mk.injEq] at h
    obtain ⟨rfl, rfl⟩ := h
    cases hx
    have : m = 0 := by omega
    subst this
    exact ⟨[], rfl, by simp, fun i h1 _ => by simp at h1⟩
  · cases h

theorem copyA_sound {at0 at1 ty : TypeId} {d x v : AVal} {cd cx : Value} (R : RelH P G Γ H w) (h : copyA P H at0 d x = some (v, H')) (hd : RelV P Γ H w d cd) (hx : RelV P Γ H w x cx) :
    ∃ cv Γ' w', (Builtin.copy_ #[at0, at1] ty #[cd, cx]).run P w = .ok cv w' ∧ Evo Γ H w Γ' H' w' ∧ H.next ≤ H'.next ∧ RelH P G Γ' H' w' ∧ RelV P Γ' H' w' v cv := by
  unfold copyA at h
  split at h
  · rename_i e hu
    split at h
    · rename_i he
      obtain ⟨du, hde⟩ := Option.isSome_iff_exists.1 he
      simp only [Option.bind_eq_some_iff] at h
      obtain ⟨⟨n, nc⟩, hsrc, h⟩ := h
      obtain ⟨hlen, hncl, xs, hxs, hxl, hxr⟩ := sourceA_sound R hsrc hx
      split at h
      · rename_i id gen off len sz
        simp only [Option.bind_eq_some_iff] at h
        obtain ⟨⟨e', cells⟩, hl, h⟩ := h
        simp only at h
        split at h
        · rename_i hc
          obtain ⟨rfl, h1, h2⟩ := hc
          simp only [Option.some.injEq, Prod.mk.injEq] at h
          obtain ⟨rfl, rfl⟩ := h
          have hmin : min n len * P.cellsOf e ≤ nc.length := by rw [hncl]; exact Nat.mul_le_mul_right _ (Nat.min_le_left _ _)
          have hmin2 : min n len * P.cellsOf e ≤ len * P.cellsOf e := Nat.mul_le_mul_right _ (Nat.min_le_right _ _)
          -- the first cells of the source
          obtain ⟨ys, hys, hyl, hyr⟩ : ∃ ys : List Value, (Builtin.firstCells (P.cellsOf e) (min n len) cx).run P w = .ok ys.toArray w ∧ ys.length = (nc.take (min n len * P.cellsOf e)).length ∧
              ∀ i (_ : i < (nc.take (min n len * P.cellsOf e)).length) (_ : i < ys.length), RelV P Γ H w (nc.take (min n len * P.cellsOf e))[i] ys[i] := firstA_sound R hsrc hx (Nat.min_le_left n len)
          have hall : (nc.take (min n len * P.cellsOf e)).all AVal.one = true := by
            rw [List.all_eq_true] at h2 ⊢
            exact fun v hv => h2 v (List.mem_of_mem_take hv)
          have htl : (nc.take (min n len * P.cellsOf e)).length = min n len * P.cellsOf e := by rw [List.length_take]; omega
          rcases own_live hd hl with ⟨b, base, nn, a, cap, hΓ, rfl, c1, c2, c3⟩ | ⟨hΓ, rfl, rfl, rfl⟩
          · obtain ⟨c, q1, q2, q3, q4⟩ := blk_live R hl hΓ
            have hst : (storeCells a ys).run P w = .ok () (setBlk w b (.cells (setRow c (base + off) ys) e' (0, 0))) := by
              rcases c3 with ⟨rfl, c3⟩ | ⟨rfl, rfl⟩
              · exact run_storeCells (P := P) ys c (base + off) 0 w q1 (by rw [hyl, htl]; omega) (all_one hall hyl hyr)
              · have : ys = [] := by
                  have : ys.length = 0 := by rw [hyl, htl]; simp
                  simpa using this
                subst this
                have hsame : setBlk w b (.cells (setRow c (base + off) []) e' (0, 0)) = w := by
                  have := run_storeCells (P := P) [] c (base + off) 0 w q1 (by simp; omega) (fun v h => by simp at h)
                  simp only [storeCells, Sem.run_pure, Result.ok.injEq, true_and] at this
                  exact this.symm
                rw [hsame]
                rfl
            have hrun : (Builtin.copy_ #[at0, at1] ty #[.slice (some a) len cap, cx]).run P w = .ok (.int .i64 (min n len : Nat)) (setBlk w b (.cells (setRow c (base + off) ys) e' (0, 0))) := by
              unfold Builtin.copy_
              simp only [List.getElem?_toArray, List.getElem?_cons_zero, List.getElem?_cons_succ]
              rw [run_bind_ok (run_und hu)]
              simp only
              rw [run_bind_ok hlen, run_bind_ok (run_size_und hde)]
              rw [run_bind_ok hys, run_bind_ok hst]
              rfl
            obtain ⟨E, R'⟩ := write_sound (cells' := setAt cells off (nc.take (min n len * P.cellsOf e))) (c' := setRow c (base + off) ys) R (live_some hl) hΓ (length_setAt (by rw [htl]; omega)) (by rw [size_setRow, q2])
              (setAt_rel (by rw [htl]; omega) (by omega) hyl q4 hyr)
            exact ⟨_, _, _, hrun, E, Nat.le_refl _, R', .lit _⟩
          · have : min n 0 = 0 := by omega
            rw [this] at hys hyl ⊢
            have hys0 : ys = [] := by
              have : ys.length = 0 := by rw [hyl]; simp
              simpa using this
            subst hys0
            have hrun : (Builtin.copy_ #[at0, at1] ty #[.slice none 0 0, cx]).run P w = .ok (.int .i64 (0 : Nat)) w := by
              unfold Builtin.copy_
              simp only [List.getElem?_toArray, List.getElem?_cons_zero, List.getElem?_cons_succ]
              rw [run_bind_ok (run_und hu)]
              simp only
              rw [run_bind_ok hlen, run_bind_ok (run_size_und hde)]
              have : Nat.min n 0 = 0 := by show min n 0 = 0; omega
              rw [this, run_bind_ok hys]
              rfl
            have hset : H.upd id (.arr gen e' (setAt cells 0 (nc.take (0 * P.cellsOf e)))) = H := by
              have hs : setAt cells 0 (nc.take (0 * P.cellsOf e)) = cells := by simp [setAt]
              rw [hs]
              have : ∀ j, (H.upd id (.arr gen e' cells)).get j = H.get j := by
                intro j
                rw [upd_get]
                by_cases hj : j = id
                · rw [if_pos hj, hj, live_some hl]
                · rw [if_neg hj]
              show ({ get := (H.upd id (.arr gen e' cells)).get, next := H.next } : AHeap) = H
              rw [funext this]
            rw [hset]
            exact ⟨_, Γ, w, hrun, Evo.refl _ _ _, Nat.le_refl _, R, .lit _⟩
        · cases h
      · cases h
    · cases h
  · cases h

end Go.Hx
