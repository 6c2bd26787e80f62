/-
  What the laws of this chapter have in common at their doors: the listed table, the parameters. No conditions.
-/
import Derived.Test.YtemcnpldpoglmaaDoorRows
import Derived.Test.YtemcnpldpoglmaaDoorConA
import Derived.Test.YtemcnpldpoglmaaDoorLibE
import Derived.ProofKit
import Derived.LaidMore
import Derived.Stop.Joined
set_option linter.all false
set_option linter.unusedSimpArgs false
set_option maxRecDepth 100000
namespace Go.Proofs.YtemcnpldpoglmaaDoor
open Go.ChangeShapes Go.WideShapes Go.ChangeAt Go.RowKit Go.Hx

theorem Tryd.own : ownKnob Tryd.prog.godebug = none := by kernel_rfl
theorem Tryd.laidOut : laidOutB Tryd.prog = true := by kernel_rfl
theorem Tryd.boolT : Tryd.prog.underlying 4 = some .bool := by kernel_rfl
noncomputable def nameF (k : Nat) : String := match (Rows.fracKnownRow.laid)[k]? with
  | some p => p.1
  | none => Tryd.f0.name
theorem Tryd.gFact0 : Tryd.prog.globalNamed (nameF 0) = some 4 := by kernel_rfl
theorem Tryd.gFact1 : Tryd.prog.globalNamed (nameF 1) = some 5 := by kernel_rfl
theorem Tryd.gFact2 : Tryd.prog.globalNamed (nameF 2) = some 3 := by kernel_rfl
theorem Tryd.tFact0 : (Tryd.prog.globals[4]?).map (·.type) = some 132 := by kernel_rfl
theorem Tryd.tFact1 : (Tryd.prog.globals[5]?).map (·.type) = some 133 := by kernel_rfl
theorem Tryd.tFact2 : (Tryd.prog.globals[3]?).map (·.type) = some 124 := by kernel_rfl
theorem Tryd.uFact0 : Tryd.prog.underlying 132 = some (.array 32 5) := by kernel_rfl
theorem Tryd.uFact1 : Tryd.prog.underlying 133 = some (.array 64 5) := by kernel_rfl
theorem Tryd.uFact2 : Tryd.prog.underlying 124 = some (.array 20 69) := by kernel_rfl
theorem Tryd.cFact0 : Tryd.prog.cellsOf 132 = 32 * Tryd.prog.cellsOf 5 := by kernel_rfl
theorem Tryd.cFact1 : Tryd.prog.cellsOf 133 = 64 * Tryd.prog.cellsOf 5 := by kernel_rfl
theorem Tryd.cFact2 : Tryd.prog.cellsOf 124 = 20 * Tryd.prog.cellsOf 69 := by kernel_rfl
theorem Tryd.door_met (os : Os) (args : Array Value) : laidMetH Tryd.prog Rows.fracKnownRow.laid ((World.doorLaid Tryd.prog 400 os).forCall (fun _ _ => 0) ⟨#[], args, []⟩).memory :=
  laidMetH_of_parts3 (fuel := 8) (laidMet_of_run' 8 (by kernel_rfl) (by kernel_rfl)) (by kernel_rfl) (by kernel_rfl)
theorem Tryd.glob_ok {W : World} (h : laidMetH Tryd.prog Rows.fracKnownRow.laid W) : GlobOk Tryd.prog G0 W := by
  rw [MakeChecks.laidMetH_plain _ _ _ (by kernel_rfl)] at h
  obtain ⟨ps, hL, _⟩ := h
  have hL' : DataW.LaidVars Tryd.prog W [(nameF 0, .agg (tab32.map fun n => .lit (.int .u8 n))), (nameF 1, .agg (tab64.map fun n => .lit (.int .u8 n))), (nameF 2, .agg (pow10.map fun n => .lit (.int .u64 n)))] ps := hL
  obtain ⟨h1, ps1, hL1⟩ := table_glob Tryd.gFact0 Tryd.tFact0 Tryd.uFact0 Tryd.underlying5 Tryd.cFact0 hL'
  obtain ⟨h2, ps2, hL2⟩ := table_glob Tryd.gFact1 Tryd.tFact1 Tryd.uFact1 Tryd.underlying5 Tryd.cFact1 hL1
  obtain ⟨h3, _⟩ := table_glob Tryd.gFact2 Tryd.tFact2 Tryd.uFact2 Tryd.underlying69 Tryd.cFact2 hL2
  intro g cells hg
  unfold G0 at hg
  split at hg
  · rename_i h0
    subst h0
    cases hg
    exact h3
  · split at hg
    · rename_i h0
      subst h0
      cases hg
      exact h1
    · split at hg
      · rename_i h0
        subst h0
        cases hg
        exact h2
      · cases hg
section
variable {W : World} {H : Type} {enc : TypeId × Value → H} {spare : Nat → Bool} {held : Bool}
theorem arg_q {r : Reach} {b : Nat} {v : Value} {d : DataW H} {ps : List MemPlace} (hval : Value.okWide Tryd.prog W r b 23 v) (hd : DataW.Trod enc Tryd.prog W 0 spare held 23 v d ps) :
    ∃ n m, RelV Tryd.prog noG noH W (.agg [.lit (.int .i64 n), .lit (.int .i64 m)]) v ∧ (Lit.int .i64 n).wf = true ∧ (Lit.int .i64 m).wf = true := by
  have hu := Tryd.underlying23
  obtain ⟨xs, h1, ds, rows, _, rfl, hl1, hl2, hall⟩ := arg_agg (opens_struct (φ := fun _ d xs => ∃ n, d = .lit (.int .i64 n) ∧ xs = [.lit (.int .i64 n)] ∧ (Lit.int .i64 n).wf = true) hu
    (fun cs hcs => by
      have hc : Tryd.prog.cellsOf 23 = 2 := by kernel_rfl
      rw [hc] at hcs
      match cs, hcs with
      | [a, b], _ => simp [Tryd.cells3])
    (fun i hi => match i, hi with
      | 0, _ => opens_int Tryd.underlying3
      | 1, _ => opens_int Tryd.underlying3)) (.inl ⟨_, hu⟩) hval hd
  match rows, ds, hl1, hl2, hall with
  | [x, y], [d0, d1], _, _, hall =>
    obtain ⟨n, _, e1, w1⟩ := hall 0 (by simp) (by simp)
    obtain ⟨m, _, e2, w2⟩ := hall 1 (by simp) (by simp)
    simp only [List.getElem_cons_zero, List.getElem_cons_succ] at e1 e2
    subst e1; subst e2
    exact ⟨n, m, h1, w1, w2⟩
end
end Go.Proofs.YtemcnpldpoglmaaDoor
