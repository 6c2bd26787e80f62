/-
  What the laws of this chapter have in common at their doors: the listed table, the parameters. No conditions.
-/
import Derived.Test.YthdoogcgeioahaaDoorRows
import Derived.Test.YthdoogcgeioahaaDoorConA
import Derived.Test.YthdoogcgeioahaaDoorLibE
import Derived.ProofKit
import Derived.LaidMore
import Derived.Stop.Joined
set_option linter.all false
set_option linter.unusedSimpArgs false
set_option maxRecDepth 100000
namespace Go.Proofs.YthdoogcgeioahaaDoor
open Go.ChangeShapes Go.WideShapes Go.ChangeAt Go.RowKit Go.Hx

theorem Tryd.own : ownKnob Tryd.prog.godebug = none := by kernel_rfl
theorem Tryd.laidOut : laidOutB Tryd.prog = true := by kernel_rfl
theorem Tryd.boolT : Tryd.prog.underlying 4 = some .bool := by kernel_rfl
def nameF : String := match (Rows.tailKnownRow.laid) with
  | p :: _ => p.1
  | [] => Tryd.f0.name
theorem Tryd.gFact : Tryd.prog.globalNamed nameF = some 0 := by kernel_rfl
theorem Tryd.tFact : (Tryd.prog.globals[0]?).map (·.type) = some 91 := by kernel_rfl
theorem Tryd.uFact : Tryd.prog.underlying 91 = some (.array 21 3) := by kernel_rfl
theorem Tryd.cFact : Tryd.prog.cellsOf 91 = 21 * Tryd.prog.cellsOf 3 := by kernel_rfl
theorem Tryd.door_met (os : Os) (args : Array Value) : laidMetH Tryd.prog Rows.tailKnownRow.laid ((World.doorLaid Tryd.prog 400 os).forCall (fun _ _ => 0) ⟨#[], args, []⟩).memory :=
  laidMetH_of_parts3 (fuel := 8) (laidMet_of_run' 8 (by kernel_rfl) (by kernel_rfl)) (by kernel_rfl) (by kernel_rfl)
theorem Tryd.glob_ok {W : World} (h : laidMetH Tryd.prog Rows.tailKnownRow.laid W) : GlobOk Tryd.prog G0 W := by
  rw [MakeChecks.laidMetH_plain _ _ _ (by kernel_rfl)] at h
  obtain ⟨ps, hL, _⟩ := h
  have hL' : DataW.LaidVars Tryd.prog W [(nameF, .agg (factL.map fun n => .lit (.int .i64 n)))] ps := hL
  obtain ⟨h1, _⟩ := table_glob Tryd.gFact Tryd.tFact Tryd.uFact Tryd.underlying3 Tryd.cFact hL'
  intro g cells hg
  unfold G0 at hg
  split at hg
  · rename_i h0
    subst h0
    cases hg
    exact h1
  · cases hg
section
variable {W : World} {H : Type} {enc : TypeId × Value → H} {spare : Nat → Bool} {held : Bool}
theorem arg_q {r : Reach} {b : Nat} {v : Value} {d : DataW H} {ps : List MemPlace} (hval : Value.okWide Tryd.prog W r b 29 v) (hd : DataW.Trod enc Tryd.prog W 0 spare held 29 v d ps) :
    ∃ n m, RelV Tryd.prog noG noH W (.agg [.lit (.int .i64 n), .lit (.int .i64 m)]) v ∧ (Lit.int .i64 n).wf = true ∧ (Lit.int .i64 m).wf = true := by
  have hu := Tryd.underlying29
  obtain ⟨xs, h1, ds, rows, _, rfl, hl1, hl2, hall⟩ := arg_agg (opens_struct (φ := fun _ d xs => ∃ n, d = .lit (.int .i64 n) ∧ xs = [.lit (.int .i64 n)] ∧ (Lit.int .i64 n).wf = true) hu
    (fun cs hcs => by
      have hc : Tryd.prog.cellsOf 29 = 2 := by kernel_rfl
      rw [hc] at hcs
      match cs, hcs with
      | [a, b], _ => simp [Tryd.cells3])
    (fun i hi => match i, hi with
      | 0, _ => opens_int Tryd.underlying3
      | 1, _ => opens_int Tryd.underlying3)) (.inl ⟨_, hu⟩) hval hd
  match rows, ds, hl1, hl2, hall with
  | [x, y], [d0, d1], _, _, hall =>
    obtain ⟨n, _, e1, w1⟩ := hall 0 (by simp) (by simp)
    obtain ⟨m, _, e2, w2⟩ := hall 1 (by simp) (by simp)
    simp only [List.getElem_cons_zero, List.getElem_cons_succ] at e1 e2
    subst e1; subst e2
    exact ⟨n, m, h1, w1, w2⟩
theorem arg_draft {r : Reach} {b : Nat} {v : Value} {d : DataW H} {ps : List MemPlace} (hval : Value.okWide Tryd.prog W r b 24 v) (hd : DataW.Trod enc Tryd.prog W 0 spare held 24 v d ps) :
    ∃ hi wi mo ns, RelV Tryd.prog noG noH W (.agg (intL .u8 (hi :: wi :: (ns ++ [mo])))) v ∧ ns.length = 9 ∧ (0 ≤ hi ∧ hi ≤ 255) ∧ (0 ≤ wi ∧ wi ≤ 255) ∧ (0 ≤ mo ∧ mo ≤ 255) ∧ ∀ c, c ∈ ns → 0 ≤ c ∧ c ≤ 255 := by
  have hu := Tryd.underlying24
  have c5 := Tryd.cells5
  have c22 := Tryd.cells22
  obtain ⟨xs, h1, ds, rows, _, rfl, hl1, hl2, hall⟩ := arg_agg (opens_struct (φ := fun i _ xs => ∃ l : List Int, xs = intL .u8 l ∧ l.length = (if i = 2 then 9 else 1) ∧ ∀ c, c ∈ l → (Lit.int .u8 c).wf = true) hu
    (fun cs hcs => by
      have hc : Tryd.prog.cellsOf 24 = 12 := by kernel_rfl
      rw [hc] at hcs
      match cs, hcs with
      | [a, b, c, d, e, f, g, h, i, j, k, l], _ => simp [c5, c22])
    (fun i hi => match i, hi with
      | 0, _ => (opens_int Tryd.underlying5).mono fun _ _ ⟨n, _, h, w⟩ => ⟨[n], h, rfl, fun c hc => by obtain rfl := List.mem_singleton.1 hc; exact w⟩
      | 1, _ => (opens_int Tryd.underlying5).mono fun _ _ ⟨n, _, h, w⟩ => ⟨[n], h, rfl, fun c hc => by obtain rfl := List.mem_singleton.1 hc; exact w⟩
      | 2, _ => (opens_intArr Tryd.underlying22 Tryd.underlying5 c5 c22).mono fun _ _ ⟨l, h, hl, w⟩ => ⟨l, h, hl, w⟩
      | 3, _ => (opens_int Tryd.underlying5).mono fun _ _ ⟨n, _, h, w⟩ => ⟨[n], h, rfl, fun c hc => by obtain rfl := List.mem_singleton.1 hc; exact w⟩)) (.inl ⟨_, hu⟩) hval hd
  match rows, ds, hl1, hl2, hall with
  | [x, y, z, u], [d0, d1, d2, d3], _, _, hall =>
    obtain ⟨l0, e0, k0, w0⟩ := hall 0 (by simp) (by simp)
    obtain ⟨l1, e1, k1, w1⟩ := hall 1 (by simp) (by simp)
    obtain ⟨l2, e2, k2, w2⟩ := hall 2 (by simp) (by simp)
    obtain ⟨l3, e3, k3, w3⟩ := hall 3 (by simp) (by simp)
    simp only [List.getElem_cons_zero, List.getElem_cons_succ] at e0 e1 e2 e3
    subst e0; subst e1; subst e2; subst e3
    match l0, l1, l3, k0, k1, k3 with
    | [a], [b], [c], _, _, _ =>
      refine ⟨a, b, c, l2, ?_, k2, wf_u8 (w0 a (by simp)), wf_u8 (w1 b (by simp)), wf_u8 (w3 c (by simp)), fun c hc => wf_u8 (w2 c hc)⟩
      simpa [intL] using h1
end
end Go.Proofs.YthdoogcgeioahaaDoor
