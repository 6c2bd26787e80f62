/-
  The operations on abstract values are what the model's do: append, copy, len. Own work: no program stands in this text.
-/
import Derived.Test.YtcccmbeolcjacaaHxH
namespace Go.Hx
variable {P : Program} {G : Nat → Option (List AVal)} {Γ Γ' : Gam} {H H' : AHeap} {w w' : World}

theorem sourceA_sound {sz n : Nat} {x : AVal} {cells : List AVal} {cx : Value} (R : RelH P G Γ H w) (h : sourceA H sz x = some (n, cells)) (hx : RelV P Γ H w x cx) :
    (Builtin.lenOf cx).run P w = .ok n w ∧ cells.length = n * sz ∧ ∃ cs : List Value, (Builtin.firstCells sz n cx).run P w = .ok cs.toArray w ∧ cs.length = cells.length ∧
      ∀ i (_ : i < cells.length) (_ : i < cs.length), RelV P Γ H w cells[i] cs[i] := by
  unfold sourceA at h
  split at h
  · rename_i len cells'
    split at h
    · rename_i hl
      simp only [Option.some.injEq, Prod.mk.injEq] at h
      obtain ⟨rfl, rfl⟩ := h
      cases hx with
      | vec0 a cap =>
        refine ⟨rfl, hl, [], ?_, rfl, fun i h1 _ => absurd h1 (Nat.not_lt_zero _)⟩
        cases a with
        | none => rfl
        | some a => unfold Builtin.firstCells; rw [Nat.zero_mul]; rfl
      | @vec _ _ b off cap cs hb hlt hlen hcs hcell hrel =>
        refine ⟨rfl, hl, cs, ?_, hcs, hrel⟩
        unfold Builtin.firstCells
        rw [← hl, ← hcs]
        exact run_loadCells_at hcell
    · cases h
  · rename_i id gen off len sz'
    split at h
    · rename_i hsz
      subst hsz
      simp only [Option.map_eq_some_iff, Prod.mk.injEq] at h
      obtain ⟨⟨e, cells'⟩, hl, rfl, rfl⟩ := h
      rcases own_live hx hl with ⟨b, base, nn, a, cap, hΓ, rfl, c1, c2, c3⟩ | ⟨hΓ, rfl, rfl, rfl⟩
      · refine ⟨rfl, by simp only [List.length_take, List.length_drop]; omega, ?_⟩
        rcases c3 with ⟨rfl, c3⟩ | ⟨rfl, rfl⟩
        · obtain ⟨cs, k1, k2, k3⟩ := (row_live R hl hΓ).drop off (len * sz') c2
          refine ⟨cs, ?_, k1, k3⟩
          unfold Builtin.firstCells
          have : len * sz' = cs.length := by rw [k1]; simp only [List.length_take, List.length_drop]; omega
          rw [this]
          exact run_loadCells_at k2
        · refine ⟨[], ?_, by simp, fun i h1 _ => ?_⟩
          · unfold Builtin.firstCells; rw [Nat.zero_mul]; rfl
          · simp at h1
      · refine ⟨rfl, by simp, [], rfl, by simp, fun i h1 _ => ?_⟩
        simp at h1
    · cases h
  · simp only [Option.some.injEq, Prod.mk.injEq] at h
    obtain ⟨rfl, rfl⟩ := h
    cases hx
    exact ⟨rfl, by simp, [], rfl, rfl, fun i h1 _ => absurd h1 (Nat.not_lt_zero _)⟩
  · cases h

theorem growBy_le (newLen : Nat) : ∀ (k c : Nat), 256 ≤ c → c < newLen → Builtin.growBy newLen k c ≤ 2 * newLen := by
  intro k
  induction k with
  | zero => intro c _ h; simp only [Builtin.growBy]; omega
  | succ k ih =>
    intro c h1 h2
    simp only [Builtin.growBy]
    rw [if_neg (by omega)]
    by_cases h3 : c + (c + 768) / 4 < newLen
    · exact ih _ (by omega) h3
    · cases k with
      | zero => simp only [Builtin.growBy]; omega
      | succ k => simp only [Builtin.growBy]; rw [if_pos (by omega)]; omega

theorem nextslicecap_le {need cap : Nat} (h : cap < need) : Builtin.nextslicecap need cap ≤ 2 * need := by
  unfold Builtin.nextslicecap
  split
  · omega
  · split
    · omega
    · exact growBy_le _ _ _ (by omega) h

theorem zeroCells_size (z : Array Value) (n : Nat) : (Builtin.zeroCells z n).size = n * z.size := by simp [Builtin.zeroCells]

/-- append where there is room. -/
theorem run_append_fits {at0 at1 ty e e1 : TypeId} {base : Option Addr} {len cap n : Nat} {x : Value} {cs : List Value} (hd : P.underlying at0 = some (.slice e)) (hd1 : P.underlying at1 = some (.slice e1)) (he : ∃ i, P.info? e = some i)
    (hlen : (Builtin.lenOf x).run P w = .ok n w) (hcs : (Builtin.firstCells (P.cellsOf e) n x).run P w = .ok cs.toArray w) (hfit : len + n ≤ cap)
    (hst : match base with | some a => (storeCells (a.add (len * P.cellsOf e)) cs).run P w = .ok () w' | none => w' = w) :
    (Builtin.append_ #[at0, at1] ty #[.slice base len cap, x]).run P w = .ok (.slice base (len + n) cap) w' := by
  obtain ⟨i, hi⟩ := he
  unfold Builtin.append_
  simp only [List.getElem?_toArray, List.getElem?_cons_zero, List.getElem?_cons_succ]
  rw [run_bind_ok (run_und hd)]
  simp only
  rw [run_bind_ok (run_sizeOf hi)]
  rw [run_bind_ok (run_und hd1), run_bind_ok (Sem.run_pure P w _)]
  simp only [Bool.false_eq_true, if_false, Bool.not_false, if_true]
  rw [run_bind_ok hlen]
  rw [if_pos hfit, run_bind_ok hcs]
  cases base with
  | none => subst hst; rfl
  | some a => rw [run_bind_ok hst]; rfl

/-- append where a new array is made. -/
theorem run_append_grows {at0 at1 ty e e1 : TypeId} {base : Option Addr} {len cap n : Nat} {x zv : Value} {cs os : List Value} {i : TypeInfo} (hd : P.underlying at0 = some (.slice e)) (hd1 : P.underlying at1 = some (.slice e1))
    (hi : P.info? e = some i) (hz : i.zero = some zv)
    (hlen : (Builtin.lenOf x).run P w = .ok n w) (hcs : (Builtin.firstCells (P.cellsOf e) n x).run P { w with drawn := w.drawn + 1 } = .ok cs.toArray { w with drawn := w.drawn + 1 })
    (hos : (Builtin.firstCells (P.cellsOf e) len (.slice base len cap)).run P { w with drawn := w.drawn + 1 } = .ok os.toArray { w with drawn := w.drawn + 1 })
    (hfit : cap < len + n) (hb : (len + n) * P.bytesOf e ≤ 2 ^ 46) (hn : len + n ≤ 2 ^ 46) :
    ∃ newCap, len + n ≤ newCap ∧ (Builtin.append_ #[at0, at1] ty #[.slice base len cap, x]).run P w =
      .ok (.slice (some ⟨w.heap.size, 0, none⟩) (len + n) newCap)
        (({ w with drawn := w.drawn + 1 } : World).alloc (.cells (os.toArray ++ cs.toArray ++ Builtin.zeroCells zv.cells (newCap - (len + n))) e)) := by
  refine ⟨(Question.appendCap (len + n) cap e).cut (w.tape w.drawn (.appendCap (len + n) cap e)), ?_, ?_⟩
  · simp only [Question.cut]; omega
  · unfold Builtin.append_
    simp only [List.getElem?_toArray, List.getElem?_cons_zero, List.getElem?_cons_succ]
    rw [run_bind_ok (run_und hd)]
    simp only
    rw [run_bind_ok (run_sizeOf hi)]
    rw [run_bind_ok (run_und hd1), run_bind_ok (Sem.run_pure P w _)]
    simp only [Bool.false_eq_true, if_false, Bool.not_false, if_true]
    rw [run_bind_ok hlen]
    rw [if_neg (by omega)]
    rw [run_bind_ok (run_typeInfo hi)]
    have hmax : IntKind.i64.max = 9223372036854775807 := by decide
    rw [if_neg (by rw [hmax]; omega)]
    rw [run_bind_ok (run_typeInfo hi)]
    have hbi := bytes_info hi
    have h2 := nextslicecap_le hfit
    have h3 : Builtin.nextslicecap (len + n) cap * i.bytes ≤ 2 * (len + n) * i.bytes := Nat.mul_le_mul_right _ h2
    rw [if_neg (by rw [hbi] at hb; rw [Nat.mul_assoc] at h3; omega)]
    have hch : (choose (.appendCap (len + n) cap e)).run P w = .ok ((Question.appendCap (len + n) cap e).cut (w.tape w.drawn (.appendCap (len + n) cap e))) { w with drawn := w.drawn + 1 } := by
      rw [run_choose]; rfl
    rw [run_bind_ok hch, run_bind_ok (run_typeInfo hi), run_bind_ok (run_askRoom P _ _), run_bind_ok hos, run_bind_ok hcs, run_bind_ok (run_zero hi hz)]
    rfl

theorem RelV.drew {v : AVal} {cv : Value} (h : RelV P Γ H w v cv) (n : Nat) : RelV P Γ H { w with drawn := n } v cv := h.evo (drew_evo Γ H w n) (Nat.le_refl _)

/-- The cells of a list and a rest, in an array. -/
theorem rel_append {cells : List AVal} {cs : List Value} {rest : Array Value} (hl : cs.length = cells.length) (hr : ∀ i (_ : i < cells.length) (_ : i < cs.length), RelV P Γ H w cells[i] cs[i]) :
    ∀ i (_ : i < cells.length), ∃ cv, (cs.toArray ++ rest)[i]? = some cv ∧ RelV P Γ H w cells[i] cv := fun i hi =>
  ⟨cs[i]'(by omega), by rw [Array.getElem?_append_left (by simp; omega)]; simp, hr i hi (by omega)⟩

theorem appendA_sound {id : Nat} {at0 at1 ty : TypeId} {s x v : AVal} {cs cx : Value} (R : RelH P G Γ H w) (h : appendA P H id at0 at1 s x = some (v, H')) (hs : RelV P Γ H w s cs) (hx : RelV P Γ H w x cx) :
    ∃ cv Γ' w', (Builtin.append_ #[at0, at1] ty #[cs, cx]).run P w = .ok cv w' ∧ Evo Γ H w Γ' H' w' ∧ H.next ≤ H'.next ∧ RelH P G Γ' H' w' ∧ RelV P Γ' H' w' v cv := by
  unfold appendA at h
  split at h
  · rename_i e hd
    split at h
    · rename_i e1 hd1
      simp only [Option.bind_eq_some_iff] at h
      obtain ⟨z, hz, ⟨n, nc⟩, hsrc, h⟩ := h
      obtain ⟨i, zv, hi, hzv, hsz, hzz, hcells⟩ := zeroA_some hz
      obtain ⟨hlen, hncl, xs, hxs, hxl, hxr⟩ := sourceA_sound R hsrc hx
      obtain ⟨_, _, ys, hsrcd, hyl, hyr⟩ := sourceA_sound (R.drew (w.drawn + 1)) hsrc (hx.drew (w.drawn + 1))
      split at h
      · -- a nil slice
        cases hs
        simp only at h
        split at h
        · rename_i h0
          simp only [Option.some.injEq, Prod.mk.injEq] at h
          obtain ⟨rfl, rfl⟩ := h
          subst h0
          exact ⟨_, Γ, w, run_append_fits hd hd1 ⟨i, hi⟩ hlen hxs (by omega) rfl, Evo.refl _ _ _, Nat.le_refl _, R, .lit _⟩
        · rename_i h0
          split at h
          · rename_i hb
            simp only [Option.map_eq_some_iff, Prod.mk.injEq] at h
            obtain ⟨H1, hlay, rfl, rfl⟩ := h
            obtain ⟨newCap, hc, hrun⟩ := run_append_grows (base := none) (len := 0) (cap := 0) (os := []) (ty := ty) hd hd1 hi hzv hlen hsrcd rfl (by omega) (by rw [Nat.zero_add]; exact hb.1) (by omega)
            rw [Nat.zero_add n] at hc hrun
            have R1 := R.drew (w.drawn + 1)
            have harr : ∀ j (_ : j < nc.length), ∃ cv, (([] : List Value).toArray ++ ys.toArray ++ Builtin.zeroCells zv.cells (newCap - n))[j]? = some cv ∧ RelV P Γ H { w with drawn := w.drawn + 1 } nc[j] cv := by
              simp only [Array.empty_append]
              exact rel_append hyl hyr
            have hsize : (([] : List Value).toArray ++ ys.toArray ++ Builtin.zeroCells zv.cells (newCap - n)).size = newCap * P.cellsOf e := by
              simp only [Array.size_append, zeroCells_size, List.size_toArray, List.length_nil, hyl, hncl]
              rw [hsz, ← hcells, Nat.zero_add, ← Nat.add_mul]
              congr 1
              omega
            obtain ⟨E, hn, R'⟩ := lay_sound R1 hlay (by rw [hsize, hncl]; exact Nat.mul_le_mul_right _ (by omega)) harr
            obtain ⟨hget, _⟩ := lay_some hlay
            obtain ⟨_, _, _, hid⟩ := lay_fresh R hlay
            refine ⟨_, _, _, hrun, (drew_evo Γ H w _).trans (Nat.le_refl _) E, hn, R', ?_⟩
            exact own_fresh (by rw [hget, if_pos rfl]) hid (Gam.upd_same _ _ _) (by omega) (by rw [hncl]; exact Nat.le_refl _) (by rw [hsize]; exact Nat.le_refl _)
          · cases h
      · rename_i id' gen off len sz
        simp only [Option.bind_eq_some_iff] at h
        obtain ⟨⟨e', cells⟩, hl, h⟩ := h
        simp only at h
        split at h
        · rename_i hc
          obtain ⟨rfl, rfl, h1, h2, h3, h4⟩ := hc
          split at h
          · rename_i h0
            simp only [Option.some.injEq, Prod.mk.injEq] at h
            obtain ⟨rfl, rfl⟩ := h
            subst h0
            have hxs0 : xs = [] := by
              have : xs.length = 0 := by rw [hxl, hncl]; simp
              simpa using this
            subst hxs0
            rcases own_live hs hl with ⟨b, base, nn, a, cap, hΓ, rfl, c1, c2, c3⟩ | ⟨hΓ, rfl, rfl, rfl⟩
            · exact ⟨_, Γ, w, run_append_fits hd hd1 ⟨i, hi⟩ hlen hxs (by omega) rfl, Evo.refl _ _ _, Nat.le_refl _, R, hs⟩
            · exact ⟨_, Γ, w, run_append_fits hd hd1 ⟨i, hi⟩ hlen hxs (by omega) rfl, Evo.refl _ _ _, Nat.le_refl _, R, hs⟩
          · rename_i h0
            simp only [Option.some.injEq, Prod.mk.injEq] at h
            obtain ⟨rfl, rfl⟩ := h
            have hnpos : 0 < n := by omega
            have hg := live_some hl
            -- where a new array is made
            have grows : ∀ (base : Option Addr) (cap : Nat) (os : List Value), (Builtin.firstCells (P.cellsOf e') len (.slice base len cap)).run P { w with drawn := w.drawn + 1 } = .ok os.toArray { w with drawn := w.drawn + 1 } →
                os.length = (cells.drop off).length → (∀ j (_ : j < (cells.drop off).length) (_ : j < os.length), RelV P Γ H { w with drawn := w.drawn + 1 } (cells.drop off)[j] os[j]) → cap < len + n →
                ∃ cv Γ' w', (Builtin.append_ #[at0, at1] ty #[.slice base len cap, cx]).run P w = .ok cv w' ∧ Evo Γ H w Γ' (H.upd id' (.arr (gen + 1) e' (cells.drop off ++ nc))) w' ∧
                  H.next ≤ (H.upd id' (.arr (gen + 1) e' (cells.drop off ++ nc))).next ∧ RelH P G Γ' (H.upd id' (.arr (gen + 1) e' (cells.drop off ++ nc))) w' ∧
                  RelV P Γ' (H.upd id' (.arr (gen + 1) e' (cells.drop off ++ nc))) w' (.own id' (gen + 1) 0 (len + n) (P.cellsOf e')) cv := by
              intro base cap os hos hol hor hcap
              obtain ⟨newCap, hcp, hrun⟩ := run_append_grows (base := base) (ty := ty) hd hd1 hi hzv hlen hsrcd hos hcap h2 h3
              have R1 := R.drew (w.drawn + 1)
              have hdl : (cells.drop off).length = len * P.cellsOf e' := by simp only [List.length_drop]; omega
              have hsize : (os.toArray ++ ys.toArray ++ Builtin.zeroCells zv.cells (newCap - (len + n))).size = newCap * P.cellsOf e' := by
                simp only [Array.size_append, zeroCells_size, List.size_toArray, hol, hdl, hyl, hncl]
                rw [hsz, ← hcells, ← Nat.add_mul, ← Nat.add_mul]
                congr 1
                omega
              have hdn : (cells.drop off ++ nc).length = (len + n) * P.cellsOf e' := by rw [List.length_append, hdl, hncl, Nat.add_mul]
              have harr : ∀ j (_ : j < (cells.drop off ++ nc).length), ∃ cv, (os.toArray ++ ys.toArray ++ Builtin.zeroCells zv.cells (newCap - (len + n)))[j]? = some cv ∧
                  RelV P Γ H { w with drawn := w.drawn + 1 } (cells.drop off ++ nc)[j] cv := by
                intro j hj
                have := rel_append (P := P) (Γ := Γ) (H := H) (w := { w with drawn := w.drawn + 1 }) (cells := cells.drop off ++ nc) (cs := os ++ ys) (rest := Builtin.zeroCells zv.cells (newCap - (len + n)))
                  (by rw [List.length_append, List.length_append, hol, hyl]) (fun k a b => ?_) j hj
                · simpa using this
                · by_cases hk : k < (cells.drop off).length
                  · rw [List.getElem_append_left hk, List.getElem_append_left (by omega)]
                    exact hor k hk (by omega)
                  · rw [List.getElem_append_right (by omega), List.getElem_append_right (by omega)]
                    simp only [hol]
                    exact hyr _ (by simp only [List.length_append] at a; omega) (by simp only [List.length_append] at b; omega)
              obtain ⟨E, R'⟩ := move_sound R1 hg (by rw [hsize, hdn]; exact Nat.mul_le_mul_right _ hcp) harr
              refine ⟨_, _, _, hrun, (drew_evo Γ H w _).trans (Nat.le_refl _) E, Nat.le_refl _, R', .own ⟨R.next id' _ hg, rfl, by rw [upd_get, if_pos rfl]; simp, fun g'' e'' cells'' hg'' => ?_⟩⟩
              rw [upd_get, if_pos rfl] at hg''
              simp only [Option.some.injEq, Blk.arr.injEq] at hg''
              obtain ⟨rfl, rfl, rfl⟩ := hg''
              refine ⟨Nat.le_refl _, fun _ => ?_⟩
              rw [Gam.upd_same]
              exact ⟨_, _, rfl, hcp, by rw [hdn, Nat.zero_add]; exact Nat.le_refl _, .inl ⟨rfl, by rw [hsize, Nat.zero_add]; omega⟩⟩
            rcases own_live hs hl with ⟨b, base, nn, a, cap, hΓ, rfl, c1, c2, c3⟩ | ⟨hΓ, rfl, rfl, rfl⟩
            · by_cases hcap : len + n ≤ cap
              · -- there is room
                have ha : a = ⟨b, base + off, none⟩ ∧ base + off + cap * P.cellsOf e' ≤ nn := by
                  rcases c3 with c3 | c3
                  · exact c3
                  · omega
                obtain ⟨rfl, c4⟩ := ha
                obtain ⟨c, q1, q2, q3, q4⟩ := blk_live R hl hΓ
                have hroom : (len + n) * P.cellsOf e' ≤ cap * P.cellsOf e' := Nat.mul_le_mul_right _ hcap
                rw [Nat.add_mul] at hroom
                have hst := run_storeCells (P := P) xs c (base + off + len * P.cellsOf e') 0 w q1 (by rw [hxl, hncl]; omega) (all_one h4 hxl hxr)
                have hrun := run_append_fits (ty := ty) (base := some ⟨b, base + off, none⟩) hd hd1 ⟨i, hi⟩ hlen hxs hcap (by
                  show (storeCells (Addr.add ⟨b, base + off, none⟩ (len * P.cellsOf e')) xs).run P w = _
                  rw [add_none]
                  exact hst)
                have hdl : (cells.drop off).length = len * P.cellsOf e' := by simp only [List.length_drop]; omega
                have hdn : (cells.drop off ++ nc).length = len * P.cellsOf e' + n * P.cellsOf e' := by rw [List.length_append, hdl, hncl]
                have harr : ∀ j (_ : j < (cells.drop off ++ nc).length), ∃ cv, (setRow c (base + off + len * P.cellsOf e' + 0) xs)[base + off + j]? = some cv ∧ RelV P Γ H w (cells.drop off ++ nc)[j] cv := by
                  intro j hj
                  rw [get_setRow _ _ _ (by rw [hxl, hncl]; omega)]
                  by_cases hk : j < (cells.drop off).length
                  · rw [if_neg (by omega), List.getElem_append_left hk]
                    obtain ⟨cv, k1, k2⟩ := q4 (off + j) (by simp only [List.length_drop] at hk; omega)
                    refine ⟨cv, by rw [Nat.add_assoc]; exact k1, ?_⟩
                    simp only [List.getElem_drop]
                    exact k2
                  · rw [List.getElem_append_right (by omega), if_pos (by rw [hxl, hncl]; omega)]
                    have hj2 : j - (cells.drop off).length < nc.length := by simp only [List.length_append] at hj; omega
                    refine ⟨xs[j - (cells.drop off).length]'(by omega), ?_, hxr _ hj2 (by omega)⟩
                    rw [show base + off + j - (base + off + len * P.cellsOf e' + 0) = j - (cells.drop off).length from by omega]
                    exact List.getElem?_eq_getElem (by omega)
                obtain ⟨E, R'⟩ := grow_sound (base' := base + off) R hg hΓ (by rw [size_setRow]; exact q2) (by rw [hdn]; omega) harr
                refine ⟨_, _, _, hrun, E, Nat.le_refl _, R', .own ⟨R.next id' _ hg, rfl, by rw [upd_get, if_pos rfl]; simp, fun g'' e'' cells'' hg'' => ?_⟩⟩
                rw [upd_get, if_pos rfl] at hg''
                simp only [Option.some.injEq, Blk.arr.injEq] at hg''
                obtain ⟨rfl, rfl, rfl⟩ := hg''
                refine ⟨Nat.le_refl _, fun _ => ?_⟩
                rw [Gam.upd_same]
                exact ⟨_, _, rfl, hcap, by rw [hdn, Nat.zero_add, Nat.add_mul]; exact Nat.le_refl _, .inl ⟨rfl, c4⟩⟩
              · -- there is none
                rcases c3 with ⟨rfl, c3⟩ | ⟨rfl, rfl⟩
                · obtain ⟨os, k1, k2, k3⟩ := (row_live (R.drew (w.drawn + 1)) hl hΓ).drop off (len * P.cellsOf e') (by omega)
                  have htk : (cells.drop off).take (len * P.cellsOf e') = cells.drop off := List.take_of_length_le (by simp only [List.length_drop]; omega)
                  rw [htk] at k1 k3
                  refine grows _ cap os ?_ k1 k3 (by omega)
                  unfold Builtin.firstCells
                  have : len * P.cellsOf e' = os.length := by rw [k1]; simp only [List.length_drop]; omega
                  rw [this]
                  exact run_loadCells_at k2
                · refine grows _ 0 [] ?_ (by simp only [List.length_nil, List.length_drop]; omega) (fun j _ h => absurd h (Nat.not_lt_zero _)) (by omega)
                  unfold Builtin.firstCells; rw [Nat.zero_mul]; rfl
            · refine grows none 0 [] rfl (by simp only [List.length_nil, List.length_drop]; omega) (fun j _ h => absurd h (Nat.not_lt_zero _)) (by omega)
        · cases h
      · cases h
    · cases h
  · cases h

end Go.Hx
