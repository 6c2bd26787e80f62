/-
  The operations on abstract values are what the model's do: slicing, len. Own work: no program stands in this text.
-/
import Derived.Test.YtcccmbeolcjacaaHxG
namespace Go.Hx
variable {P : Program} {G : Nat → Option (List AVal)} {Γ Γ' : Gam} {H H' : AHeap} {w w' : World}

/-- An operand that may be missing. -/
def RelO (P : Program) (Γ : Gam) (H : AHeap) (w : World) : Option AVal → Option Value → Prop
  | none, none => True
  | some v, some cv => RelV P Γ H w v cv
  | _, _ => False

theorem run_sliceBound {k : IntKind} {i : Int} {y : Nat} {code : BoundsCode} (h : 0 ≤ i ∧ i ≤ (y : Int)) : (Instr.sliceBound (.int k i) y code).run P w = .ok i.toNat w := by
  unfold Instr.sliceBound
  rw [run_bind_ok (run_asIntOf k i)]
  simp only
  rw [if_pos h]
  rfl

theorem boundA_some {o : Option AVal} {co : Option Value} {d m n : Nat} (h : boundA o d m = some n) (hr : RelO P Γ H w o co) :
    (o = none ∧ co = none ∧ n = d) ∨ ∃ k i, co = some (.int k i) ∧ 0 ≤ i ∧ i ≤ (m : Int) ∧ n = i.toNat := by
  cases o with
  | none =>
    cases co with
    | none => simp only [boundA, Option.some.injEq] at h; exact .inl ⟨rfl, rfl, h.symm⟩
    | some _ => exact hr.elim
  | some v =>
    cases co with
    | none => exact hr.elim
    | some cv =>
      have hv : RelV P Γ H w v cv := hr
      cases v with
      | lit x =>
        cases x with
        | int k i =>
          cases hv
          simp only [boundA] at h
          split at h
          · rename_i hi
            simp only [Option.some.injEq] at h
            exact .inr ⟨k, i, rfl, hi.1, hi.2, h.symm⟩
          · cases h
        | _ => simp [boundA] at h
      | _ => simp [boundA] at h

theorem run_bounds {lo hi : Option AVal} {clo chi : Option Value} {s : Bool} {len cap l h : Nat} (hh : boundA hi len len = some h) (hl : boundA lo 0 h = some l) (hlen : len ≤ cap)
    (rh : RelO P Γ H w hi chi) (rl : RelO P Γ H w lo clo) : (Instr.sliceBounds s len cap clo chi none).run P w = .ok (l, h, cap) w ∧ l ≤ h ∧ h ≤ len := by
  rcases boundA_some hh rh with ⟨rfl, rfl, rfl⟩ | ⟨k, i, rfl, i0, i1, rfl⟩ <;> rcases boundA_some hl rl with ⟨rfl, rfl, rfl⟩ | ⟨k', j, rfl, j0, j1, rfl⟩
  · exact ⟨rfl, by omega, Nat.le_refl _⟩
  · refine ⟨?_, by omega, Nat.le_refl _⟩
    unfold Instr.sliceBounds
    simp only [pure_bind]
    rw [run_bind_ok (run_sliceBound ⟨j0, j1⟩)]
    rfl
  · refine ⟨?_, by omega, by omega⟩
    unfold Instr.sliceBounds
    simp only [pure_bind]
    rw [run_bind_ok (run_sliceBound ⟨i0, by omega⟩)]
    rfl
  · refine ⟨?_, by omega, by omega⟩
    unfold Instr.sliceBounds
    simp only [pure_bind]
    rw [run_bind_ok (run_sliceBound ⟨i0, by omega⟩), run_bind_ok (run_sliceBound ⟨j0, j1⟩)]
    rfl

theorem mul_le_of {a b c : Nat} (h : a ≤ b) : a * c ≤ b * c := Nat.mul_le_mul_right _ h

theorem own_sub {id gen off len sz l h : Nat} {e : TypeId} {cells : List AVal} {cv : Value} (hx : RelV P Γ H w (.own id gen off len sz) cv) (hl : H.live id gen = some (e, cells)) (h1 : l ≤ h) (h2 : h ≤ len) :
    (∃ a cap, cv = .slice (some a) len cap ∧ len ≤ cap ∧ RelV P Γ H w (.own id gen (off + l * sz) (h - l) sz) (.slice (some (if cap = l then a else a.add (l * sz))) (h - l) (cap - l))) ∨
    (cv = .slice none 0 0 ∧ len = 0 ∧ RelV P Γ H w (.own id gen (off + l * sz) (h - l) sz) (.slice none 0 0)) := by
  cases hx with
  | own hx =>
    rcases own_live (P := P) (w := w) (.own hx) hl with ⟨b, base, n, a, cap, hΓ, rfl, c1, c2, c3⟩ | ⟨hΓ, rfl, rfl, rfl⟩
    · left
      refine ⟨a, cap, rfl, c1, .own ⟨hx.1, rfl, hx.2.2.1, fun g e' cells' hg => ?_⟩⟩
      refine ⟨(hx.2.2.2 g e' cells' hg).1, fun hgg => ?_⟩
      rw [live_some hl] at hg
      simp only [Option.some.injEq, Blk.arr.injEq] at hg
      obtain ⟨_, rfl, rfl⟩ := hg
      rw [hΓ]
      have e1 : l * sz + (h - l) * sz = h * sz := by rw [← Nat.add_mul]; congr 1; omega
      have e2 : h * sz ≤ len * sz := mul_le_of h2
      refine ⟨_, _, rfl, by omega, by omega, ?_⟩
      rcases c3 with ⟨rfl, c3⟩ | ⟨rfl, rfl⟩
      · by_cases hcl : cap = l
        · right; omega
        · left
          rw [if_neg hcl, add_none, Nat.add_assoc]
          refine ⟨rfl, ?_⟩
          have e3 : l * sz + (cap - l) * sz = cap * sz := by rw [← Nat.add_mul]; congr 1; omega
          omega
      · right; omega
    · right
      have : l = 0 := by omega
      subst this
      have : h = 0 := by omega
      subst this
      refine ⟨rfl, rfl, .own ⟨hx.1, rfl, hx.2.2.1, fun g e' cells' hg => ?_⟩⟩
      refine ⟨(hx.2.2.2 g e' cells' hg).1, fun hgg => ?_⟩
      rw [hΓ]
      simp

theorem vec_sub {len sz l h : Nat} {cells : List AVal} {cv : Value} (hx : RelV P Γ H w (.vec len cells) cv) (hc : cells.length = len * sz) (h1 : l ≤ h) (h2 : h ≤ len) :
    ∃ a cap, cv = .slice a len cap ∧ len ≤ cap ∧ RelV P Γ H w (.vec (h - l) ((cells.drop (l * sz)).take ((h - l) * sz))) (.slice (if cap = l then a else a.map (·.add (l * sz))) (h - l) (cap - l)) := by
  cases hx with
  | vec0 a cap =>
    have : h = 0 := by omega
    subst this
    have : l = 0 := by omega
    subst this
    refine ⟨a, cap, rfl, Nat.zero_le _, ?_⟩
    simp only [Nat.zero_mul, Nat.sub_self, List.take_zero]
    exact .vec0 _ _
  | @vec _ _ b off cap cs hb hlt hlen hcs hcell hrel =>
    refine ⟨_, _, rfl, hlen, ?_⟩
    by_cases hhl : h = l
    · subst hhl
      simp only [Nat.sub_self, Nat.zero_mul, List.take_zero]
      exact .vec0 _ _
    · have hcl : cap ≠ l := by omega
      have e1 : l * sz + (h - l) * sz = h * sz := by rw [← Nat.add_mul]; congr 1; omega
      have e2 : h * sz ≤ len * sz := mul_le_of h2
      rw [if_neg hcl, Option.map_some, add_none]
      obtain ⟨cs', k1, k2, k3⟩ := RowAt.drop ⟨cs, hcs, hcell, hrel⟩ (l * sz) ((h - l) * sz) (by omega)
      exact .vec hb hlt (by omega) k1 k2 k3

theorem sliceA_sound {t : TypeId} {x v : AVal} {lo hi : Option AVal} {cx : Value} {clo chi : Option Value} (R : RelH P G Γ H w) (h : sliceA P H t x lo hi = some v) (hx : RelV P Γ H w x cx)
    (rl : RelO P Γ H w lo clo) (rh : RelO P Γ H w hi chi) : ∃ cv, (Instr.sliceAt t cx clo chi none).run P w = .ok cv w ∧ RelV P Γ H w v cv := by
  unfold sliceA at h
  unfold Instr.sliceAt
  split at h
  · rename_i n e hd
    rw [run_bind_ok (run_und hd)]
    simp only
    split at h
    · rename_i hc
      obtain ⟨d, hde⟩ := Option.isSome_iff_exists.1 hc
      split at h
      · rename_i id gen off
        split at h
        · rename_i e' cells hl
          split at h
          · rename_i hle
            simp only [Option.bind_eq_some_iff, Option.map_eq_some_iff] at h
            obtain ⟨h', hh, l, hlo, rfl⟩ := h
            obtain ⟨b, base, nn, hΓ, rfl⟩ := ptr_live hx hl
            have sa : (Instr.sureAddr (.pointer (some ⟨b, base + off, none⟩))).run P w = .ok ⟨b, base + off, none⟩ w := rfl
            obtain ⟨r1, r2, r3⟩ := run_bounds (s := false) hh hlo (Nat.le_refl n) rh rl
            rw [run_bind_ok sa, run_bind_ok r1]
            simp only
            rw [run_bind_ok (run_size_und hde)]
            refine ⟨_, rfl, ?_⟩
            cases hx with
            | ptr hx =>
              refine .own ⟨hx.1, rfl, hx.2.2.1, fun g e'' cells'' hg => ?_⟩
              refine ⟨(hx.2.2.2 g e'' cells'' hg).1, fun hgg => ?_⟩
              rw [live_some hl] at hg
              simp only [Option.some.injEq, Blk.arr.injEq] at hg
              obtain ⟨_, rfl, rfl⟩ := hg
              rw [hΓ]
              have e1 : l * P.cellsOf e + (h' - l) * P.cellsOf e = h' * P.cellsOf e := by rw [← Nat.add_mul]; congr 1; omega
              have e2 : h' * P.cellsOf e ≤ n * P.cellsOf e := mul_le_of r3
              refine ⟨_, _, rfl, by omega, by omega, ?_⟩
              by_cases hnl : n = l
              · right; omega
              · left
                rw [if_neg hnl, add_none, Nat.add_assoc]
                refine ⟨rfl, ?_⟩
                have e3 : l * P.cellsOf e + (n - l) * P.cellsOf e = n * P.cellsOf e := by rw [← Nat.add_mul]; congr 1; omega
                obtain ⟨_, _, q2, q3, _⟩ := blk_live R hl hΓ
                omega
          · cases h
        · cases h
      · rename_i cells off
        split at h
        · rename_i hle
          simp only [Option.bind_eq_some_iff, Option.map_eq_some_iff] at h
          obtain ⟨h', hh, l, hlo, rfl⟩ := h
          cases hx with
          | @vptr _ _ b o cs hb hlt hcs hcell hrel =>
            have sa : (Instr.sureAddr (.pointer (some ⟨b, o + off, none⟩))).run P w = .ok ⟨b, o + off, none⟩ w := rfl
            obtain ⟨r1, r2, r3⟩ := run_bounds (s := false) hh hlo (Nat.le_refl n) rh rl
            rw [run_bind_ok sa, run_bind_ok r1]
            simp only
            rw [run_bind_ok (run_size_und hde)]
            refine ⟨_, rfl, ?_⟩
            have e1 : l * P.cellsOf e + (h' - l) * P.cellsOf e = h' * P.cellsOf e := by rw [← Nat.add_mul]; congr 1; omega
            have e2 : h' * P.cellsOf e ≤ n * P.cellsOf e := mul_le_of r3
            by_cases hhl : h' = l
            · subst hhl
              simp only [Nat.sub_self, Nat.zero_mul, List.take_zero]
              exact .vec0 _ _
            · rw [if_neg (by omega), add_none]
              obtain ⟨cs', k1, k2, k3⟩ := RowAt.drop ⟨cs, hcs, hcell, hrel⟩ (off + l * P.cellsOf e) ((h' - l) * P.cellsOf e) (by omega)
              rw [show o + off + l * P.cellsOf e = o + (off + l * P.cellsOf e) from by omega]
              exact .vec hb hlt (by omega) k1 k2 k3
        · cases h
      · cases h
    · cases h
  · rename_i e hd
    rw [run_bind_ok (run_und hd)]
    simp only
    unfold Instr.slice
    rw [run_bind_ok (run_und hd)]
    split at h
    · rename_i hc
      obtain ⟨d, hde⟩ := Option.isSome_iff_exists.1 hc
      split at h
      · rename_i id gen off len sz
        split at h
        · rename_i hsz
          subst hsz
          simp only [Option.bind_eq_some_iff, Option.map_eq_some_iff] at h
          obtain ⟨⟨e', cells⟩, hl, h', hh, l, hlo, rfl⟩ := h
          obtain ⟨_, q1, q2⟩ := run_bounds (s := true) hh hlo (Nat.le_refl len) rh rl
          rcases own_sub hx hl q1 q2 with ⟨a, cap, rfl, c1, c2⟩ | ⟨rfl, rfl, c2⟩
          · obtain ⟨r1, r2, r3⟩ := run_bounds (s := true) hh hlo c1 rh rl
            simp only
            rw [run_bind_ok r1]
            simp only
            rw [run_bind_ok (run_size_und hde)]
            refine ⟨_, rfl, ?_⟩
            by_cases hcl : cap = l
            · rw [if_pos hcl] at c2 ⊢; exact c2
            · rw [if_neg hcl] at c2 ⊢; exact c2
          · obtain ⟨r1, r2, r3⟩ := run_bounds (s := true) hh hlo (Nat.le_refl 0) rh rl
            simp only
            rw [run_bind_ok r1]
            simp only
            rw [run_bind_ok (run_size_und hde)]
            refine ⟨_, rfl, ?_⟩
            have : l = 0 := by omega
            subst this
            have : h' = 0 := by omega
            subst this
            exact c2
        · cases h
      · rename_i len cells
        split at h
        · rename_i hcl
          simp only [Option.bind_eq_some_iff, Option.map_eq_some_iff] at h
          obtain ⟨h', hh, l, hlo, rfl⟩ := h
          obtain ⟨_, q1, q2⟩ := run_bounds (s := true) hh hlo (Nat.le_refl len) rh rl
          obtain ⟨a, cap, rfl, c1, c2⟩ := vec_sub hx hcl q1 q2
          obtain ⟨r1, r2, r3⟩ := run_bounds (s := true) hh hlo c1 rh rl
          simp only
          rw [run_bind_ok r1]
          simp only
          rw [run_bind_ok (run_size_und hde)]
          exact ⟨_, rfl, c2⟩
        · cases h
      · simp only [Option.bind_eq_some_iff, Option.map_eq_some_iff] at h
        obtain ⟨h', hh, l, hlo, rfl⟩ := h
        cases hx
        obtain ⟨r1, r2, r3⟩ := run_bounds (s := true) hh hlo (Nat.le_refl 0) rh rl
        simp only
        rw [run_bind_ok r1]
        simp only
        rw [run_bind_ok (run_size_und hde)]
        refine ⟨_, rfl, ?_⟩
        have : l = 0 := by omega
        subst this
        have : h' = 0 := by omega
        subst this
        exact .lit _
      · cases h
    · cases h
  · rename_i hd
    rw [run_bind_ok (run_und hd)]
    simp only
    unfold Instr.slice
    rw [run_bind_ok (run_und hd)]
    split at h
    · rename_i s
      simp only [Option.bind_eq_some_iff, Option.map_eq_some_iff] at h
      obtain ⟨h', hh, l, hlo, rfl⟩ := h
      cases hx
      obtain ⟨r1, r2, r3⟩ := run_bounds (s := false) hh hlo (Nat.le_refl s.size) rh rl
      simp only [Option.isSome_none, Bool.false_eq_true, if_false]
      rw [run_bind_ok r1]
      exact ⟨_, rfl, .lit _⟩
    · cases h
  · cases h

end Go.Hx
