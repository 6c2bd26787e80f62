/-
  The operations on abstract values are what the model's do: make, slicing, indexing, append, copy. Own work: no program stands in this text.
-/
import Derived.Test.YtcccmbeolcjacaaHxF
import Derived.IntWalk
namespace Go.Hx
variable {P : Program} {G : Nat → Option (List AVal)} {Γ Γ' : Gam} {H H' : AHeap} {w w' : World}

theorem wrap_small {n : Int} (h0 : 0 ≤ n) (h1 : n ≤ 2 ^ 46) : IntKind.i64.wrap n = n := IntWalk.i64_in n (by omega)

theorem bytes_info {t : TypeId} {i : TypeInfo} (h : P.info? t = some i) : P.bytesOf t = i.bytes := by simp [Program.bytesOf, h]

theorem makeSliceA_sound {id : Nat} {t : TypeId} {l c v : AVal} {cl cc : Value} (R : RelH P G Γ H w) (h : makeSliceA P H id t l c = some (v, H')) (hl : RelV P Γ H w l cl) (hc : RelV P Γ H w c cc) :
    ∃ cv Γ' w', (Instr.makeSlice t cl cc).run P w = .ok cv w' ∧ Evo Γ H w Γ' H' w' ∧ H.next ≤ H'.next ∧ RelH P G Γ' H' w' ∧ RelV P Γ' H' w' v cv := by
  unfold makeSliceA at h
  split at h
  · rename_i e kl ln kc cn hd
    cases hl
    cases hc
    split at h
    · rename_i hb
      obtain ⟨b1, b2, b3, b4⟩ := hb
      simp only [Option.bind_eq_some_iff, Option.map_eq_some_iff, Prod.mk.injEq] at h
      obtain ⟨zs, hzs, H1, hlay, rfl, rfl⟩ := h
      unfold zerosA at hzs
      simp only [Option.map_eq_some_iff] at hzs
      obtain ⟨z, hz, rfl⟩ := hzs
      obtain ⟨i, zv, hi, hzv, hsz, hzz, hcells⟩ := zeroA_some hz
      have hcs : P.cellsOf e = zv.cells.size := by rw [hcells, hsz]
      have hw1 := wrap_small b1 (by omega : ln ≤ 2 ^ 46)
      have hw2 := wrap_small (by omega : 0 ≤ cn) b4
      have hzr : RelL P Γ H w (List.replicate cn.toNat z).flatten ((Array.range (cn.toNat * zv.cells.size)).map (zv.cells[· % zv.cells.size]!)) := zeros_rel hzz
      have hrun : (Instr.makeSlice t (.int kl ln) (.int kc cn)).run P w = .ok (.slice (some ⟨w.heap.size, 0, none⟩) ln.toNat cn.toNat)
          (w.alloc (.cells ((Array.range (cn.toNat * zv.cells.size)).map (zv.cells[· % zv.cells.size]!)) e)) := by
        unfold Instr.makeSlice
        rw [run_bind_ok (run_und hd)]
        simp only
        have ai : ∀ (k : IntKind) (n : Int), (asInt (.int k n)).run P w = .ok n w := fun _ _ => rfl
        rw [run_bind_ok (ai _ _), run_bind_ok (ai _ _), run_bind_ok (run_typeInfo hi)]
        simp only [hw1, hw2]
        have hbi := bytes_info hi
        have hmul : (i.bytes : Int) * cn ≤ 2 ^ 46 := by rw [← hbi, Int.mul_comm]; exact b3
        rw [if_neg (by simp; omega)]
        rw [run_bind_ok (run_askRoom P w _), run_bind_ok (run_sizeOf hi)]
        rw [hcs]
        by_cases h0 : cn.toNat * zv.cells.size = 0
        · rw [if_pos h0, run_bind_ok (Sem.run_pure P w _)]
          have he2 : ∀ f : Nat → Value, (Array.range (cn.toNat * zv.cells.size)).map f = #[] := fun _ => Array.eq_empty_of_size_eq_zero (by simp [h0])
          rw [he2, he2]
          rfl
        · rw [if_neg h0, run_bind_ok (run_zero hi hzv), run_bind_ok (Sem.run_pure P w _)]
          rfl
      have hzl : z.length = zv.cells.size := by rw [hzz]; simp
      have hsize : ((Array.range (cn.toNat * zv.cells.size)).map (zv.cells[· % zv.cells.size]!)).size = cn.toNat * zv.cells.size := by simp
      have hle : ln.toNat * zv.cells.size ≤ cn.toNat * zv.cells.size := Nat.mul_le_mul_right _ (by omega)
      have hlen1 : (List.replicate ln.toNat z).flatten.length = ln.toNat * zv.cells.size := by simp [hzl]
      obtain ⟨E, hn, R'⟩ := lay_sound (c := (Array.range (cn.toNat * zv.cells.size)).map (zv.cells[· % zv.cells.size]!)) R hlay (by rw [hsize, hlen1]; exact hle)
        (fun i hi => by
          rw [hlen1] at hi
          have h1 := getElem_flatten_replicate z ln.toNat i (by rw [hzl]; exact hi)
          have h2 := getElem_flatten_replicate z cn.toNat i (by rw [hzl]; omega)
          obtain ⟨cv, a1, a2⟩ := hzr.get (i := i) (by simp [hzl]; omega)
          refine ⟨cv, a1, ?_⟩
          have : (List.replicate ln.toNat z).flatten[i] = (List.replicate cn.toNat z).flatten[i]'(by simp [hzl]; omega) := by
            rw [List.getElem?_eq_getElem (by rw [hlen1]; exact hi)] at h1
            rw [List.getElem?_eq_getElem (by simp [hzl]; omega)] at h2
            rw [← h1] at h2
            simpa using h2.symm
          rw [this]
          exact a2)
      obtain ⟨hget, _⟩ := lay_some hlay
      obtain ⟨_, _, _, hid⟩ := lay_fresh R hlay
      refine ⟨_, _, _, hrun, E, hn, R', own_fresh (by rw [hget, if_pos rfl]) hid (Gam.upd_same _ _ _) (by omega) ?_ ?_⟩
      · rw [hlen1, hcs]; exact Nat.le_refl _
      · rw [hsize, hcs]; exact Nat.le_refl _
    · cases h
  · cases h

/-! ### indexing -/

theorem run_asIntOf (k : IntKind) (n : Int) : (asIntOf (.int k n)).run P w = .ok (k, n) w := rfl

theorem ptr_add {id gen off k : Nat} {cv : Value} {e : TypeId} {cells : List AVal} (h : RelV P Γ H w (.ptr id gen off) cv) (hl : H.live id gen = some (e, cells)) :
    ∃ a, cv = .pointer (some a) ∧ RelV P Γ H w (.ptr id gen (off + k)) (.pointer (some (a.add k))) := by
  obtain ⟨b, base, n, hΓ, rfl⟩ := ptr_live h hl
  refine ⟨_, rfl, ?_⟩
  rw [add_none]
  cases h with
  | ptr h =>
    refine .ptr ⟨h.1, rfl, h.2.2.1, fun g e' cells' hg => ?_⟩
    refine ⟨(h.2.2.2 g e' cells' hg).1, fun _ => ⟨b, base, n, hΓ, ?_⟩⟩
    rw [Nat.add_assoc]

theorem vptr_add {cells : List AVal} {off k : Nat} {cv : Value} (h : RelV P Γ H w (.vptr cells off) cv) :
    ∃ a, cv = .pointer (some a) ∧ RelV P Γ H w (.vptr cells (off + k)) (.pointer (some (a.add k))) := by
  cases h with
  | vptr hb hlt hcs hcell hrel =>
    refine ⟨_, rfl, ?_⟩
    rw [add_none, Nat.add_assoc]
    exact .vptr hb hlt hcs hcell hrel

theorem indexAddrA_sound {t : TypeId} {x v : AVal} {k : IntKind} {i : Int} {cx : Value} (h : indexAddrA P H t x i = some v) (hx : RelV P Γ H w x cx) :
    ∃ cv, (Instr.indexAt t cx (.int k i)).run P w = .ok cv w ∧ RelV P Γ H w v cv := by
  unfold indexAddrA at h
  unfold Instr.indexAt
  rw [run_bind_ok (run_asIntOf k i)]
  simp only
  split at h
  · rename_i n e hd
    split at h
    · rename_i hc
      obtain ⟨c1, c2, c3⟩ := hc
      obtain ⟨d, hde⟩ := Option.isSome_iff_exists.1 c3
      rw [run_bind_ok (run_und hd)]
      simp only
      have fin : ∀ a : Addr, ((do
            let tiny := decide (n ≤ 1) && (match ← underlying t with | .array .. => true | _ => false)
            match (some a : Option Addr) with
            | some a =>
              if 0 ≤ i ∧ i < (n : Int) then pure (.pointer (some (a.add (i.toNat * (← sizeOf e)))))
              else if tiny then unsupported (.noEntry "op/indexAddr.an index out of range at an array of length 0 or 1 (ledger 616)")
              else boundsPanic k i n .index
            | none => boundsPanic k i 0 .index) : Sem Value).run P w = .ok (.pointer (some (a.add (i.toNat * P.cellsOf e)))) w := by
        intro a
        rw [run_bind_ok (run_und hd)]
        simp only
        rw [if_pos ⟨c1, c2⟩, run_bind_ok (run_size_und hde)]
        rfl
      split at h
      · rename_i id gen off
        simp only [Option.map_eq_some_iff] at h
        obtain ⟨ec, hl, rfl⟩ := h
        obtain ⟨a, rfl, hr⟩ := ptr_add (k := i.toNat * P.cellsOf e) hx hl
        exact ⟨_, fin a, hr⟩
      · rename_i cells off
        simp only [Option.some.injEq] at h
        subst h
        obtain ⟨a, rfl, hr⟩ := vptr_add (k := i.toNat * P.cellsOf e) hx
        exact ⟨_, fin a, hr⟩
      · cases h
    · cases h
  · rename_i e hd
    split at h
    · rename_i hc
      obtain ⟨d, hde⟩ := Option.isSome_iff_exists.1 hc
      rw [run_bind_ok (run_und hd)]
      have fin : ∀ (a : Addr) (len : Nat), 0 ≤ i ∧ i < (len : Int) → ((do
            let tiny := decide (len ≤ 1) && (match ← underlying t with | .array .. => true | _ => false)
            match (some a : Option Addr) with
            | some a =>
              if 0 ≤ i ∧ i < (len : Int) then pure (.pointer (some (a.add (i.toNat * (← sizeOf e)))))
              else if tiny then unsupported (.noEntry "op/indexAddr.an index out of range at an array of length 0 or 1 (ledger 616)")
              else boundsPanic k i len .index
            | none => boundsPanic k i 0 .index) : Sem Value).run P w = .ok (.pointer (some (a.add (i.toNat * P.cellsOf e)))) w := by
        intro a len hi
        rw [run_bind_ok (run_und hd)]
        simp only
        rw [if_pos hi, run_bind_ok (run_size_und hde)]
        rfl
      split at h
      · rename_i id gen off len sz
        split at h
        · rename_i hi
          simp only [Option.map_eq_some_iff] at h
          obtain ⟨⟨e', cells⟩, hl, rfl⟩ := h
          rcases own_live hx hl with ⟨b, base, n, a, cap, hΓ, rfl, h1, h2, h3⟩ | ⟨_, _, h0, _⟩
          · have ha : a = ⟨b, base + off, none⟩ := by
              rcases h3 with h3 | h3
              · exact h3.1
              · omega
            subst ha
            refine ⟨_, fin _ len ⟨hi.1, hi.2.1⟩, ?_⟩
            rw [add_none]
            cases hx with
            | own hx =>
              refine .ptr ⟨hx.1, rfl, hx.2.2.1, fun g e'' cells'' hg => ?_⟩
              refine ⟨(hx.2.2.2 g e'' cells'' hg).1, fun _ => ⟨b, base, n, hΓ, ?_⟩⟩
              rw [Nat.add_assoc]
          · omega
        · cases h
      · rename_i len cells
        split at h
        · rename_i hi
          simp only [Option.some.injEq] at h
          subst h
          cases hx with
          | vec0 => exact absurd rfl hi.2.2
          | vec hb hlt hlen hcs hcell hrel =>
            refine ⟨_, fin _ len ⟨hi.1, hi.2.1⟩, ?_⟩
            rw [add_none]
            exact .vptr hb hlt hcs hcell hrel
        · cases h
      · cases h
    · cases h
  · cases h

end Go.Hx
