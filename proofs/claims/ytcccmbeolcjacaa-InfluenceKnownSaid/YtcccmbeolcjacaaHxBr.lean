/-
  From a call over the empty heap to a law's row. Own work: no program stands in this text.
-/
import Derived.Test.YtcccmbeolcjacaaHxZs
import Derived.ProofKit
import Derived.SevenTiedAt
namespace Go.Hx
open Go.ChangeShapes Go.WideShapes Go.RowKit
variable {P : Program} {G : Nat → Option (List AVal)}

def noG : Gam := fun _ => none

/-- What the law says of the package-level variables, at a world. -/
def GlobOk (P : Program) (G : Nat → Option (List AVal)) (W : World) : Prop := ∀ g cells, G g = some cells → RelV P noG noH W (.vptr cells 0) (.pointer (some ⟨g, 0, none⟩))

theorem relH_noH {W : World} (hg : GlobOk P G W) : RelH P G noG noH W where
  arr _ _ _ _ h := by cases h
  loop _ _ _ _ _ _ _ _ h := by cases h
  rsv _ h := by cases h
  inj _ _ _ _ _ _ _ h := by cases h
  dom _ _ h := by cases h
  lt _ _ _ _ h := by cases h
  next _ _ h := by cases h
  glob := hg

theorem noG_owns (b : Nat) : ¬ noG.owns b := fun ⟨_, _, _, h⟩ => by cases h

theorem calls_true {f : FuncId} {args : List AVal} {cargs : Array Value} {W : World} (hA : ACall P G f args noH fun r H' => ∃ u, r = .ret u ∧ Fresh H' u (.lit (.bool true))) (hg : GlobOk P G W) (hr : RelL P noG noH W args cargs) :
    Calls P f cargs W fun e W' => e = .returned (.bool true) ∧ _root_.Go.RowKit.Below W.heap.size W W' ∧ ∀ a, W'.frozen? a = W.frozen? a := by
  refine callsIn_wide.1 ((hA.2 noG W cargs (relH_noH hg) hr).mono ?_)
  rintro e W' ⟨r, H', Γ', hend, ⟨u, rfl, hf⟩, _, E, _⟩
  cases e with
  | returned cv =>
    have hu : u = .lit (.bool true) := by cases hf; rfl
    subst hu
    cases hend
    exact ⟨rfl, ⟨E.os, E.tape, E.output, E.size, fun k hk => (E.keep k hk (noG_owns k)).1⟩, E.frz⟩
  | panicked => exact hend.elim
  | outgrown => exact hend.elim

theorem below_kept {W W' : World} (hb : _root_.Go.RowKit.Below W.heap.size W W') (may : MemPlace → Prop) : W.keptBut W' may := by
  refine ⟨hb.os, hb.output, fun i hi => ?_⟩
  rw [hb.block i hi]
  cases h : W.heap[i]? with
  | none => rfl
  | some o => cases o <;> first | exact rfl | exact ⟨rfl, rfl, rfl, fun _ _ => rfl⟩ | exact .inr ⟨rfl, rfl⟩

theorem trodAll_stays {H : Type} {enc : TypeId × Value → H} (hl : laidOutB P = true) {W W' : World} (hb : _root_.Go.RowKit.Below W.heap.size W W') {sp : Nat → Bool} : ∀ {ts : List TypeId} {vs : List Value} {ds : List (DataW H)} {ps : List MemPlace},
    ts.all (fun t => P.readableRec t && decide (t < P.types.size)) = true → DataW.TrodAll enc P W 0 (fun _ => true) true ts vs ds ps → (∀ x ∈ ps, x.block < W.heap.size) → (∀ x ∈ ps, sp x.block = true) → DataW.TrodAll enc P W' 0 sp true ts vs ds ps := by
  intro ts
  induction ts with
  | nil =>
    intro vs ds ps _ h _ _
    cases vs <;> cases ds <;> first | exact h | exact h.elim
  | cons t ts ih =>
    intro vs ds ps hok h hlt hsp
    simp only [List.all_cons, Bool.and_eq_true, decide_eq_true_eq] at hok
    cases vs with
    | nil => cases ds <;> exact h.elim
    | cons v vs => cases ds with
      | nil => exact h.elim
      | cons d ds =>
        obtain ⟨p, q, h1, h2, rfl⟩ := h
        refine ⟨p, q, ?_, ih hok.2 h2 (fun x hx => hlt x (by simp [hx])) (fun x hx => hsp x (by simp [hx])), rfl⟩
        exact WideElems.Trod_stays hl hok.1.1 hok.1.2 h1 (fun x hx => hb.same (hlt x (by simp [hx]))) (fun x hx => hsp x (by simp [hx]))

theorem trodAll_len {H : Type} {enc : TypeId × Value → H} {W : World} {base : Nat} {sp : Nat → Bool} {held : Bool} : ∀ {ts : List TypeId} {vs : List Value} {ds : List (DataW H)} {ps : List MemPlace},
    DataW.TrodAll enc P W base sp held ts vs ds ps → vs.length = ts.length ∧ ds.length = ts.length := by
  intro ts
  induction ts with
  | nil =>
    intro vs ds ps h
    cases vs <;> cases ds <;> first | exact ⟨rfl, rfl⟩ | exact h.elim
  | cons t ts ih =>
    intro vs ds ps h
    cases vs with
    | nil => cases ds <;> exact h.elim
    | cons v vs => cases ds with
      | nil => exact h.elim
      | cons d ds =>
        obtain ⟨p, q, _, h2, _⟩ := h
        obtain ⟨h3, h4⟩ := ih h2
        exact ⟨by simp [h3], by simp [h4]⟩

/-- A law's row, behind the call. -/
theorem law_post {H : Type} {enc : TypeId × Value → H} {f : Func} {s : ChangeSpec} {apart fresh handsOn again : Bool} {W W' : World} {args : Array Value} {ds gs : List (DataW H)} {before : List MemPlace} {t : TypeId}
    (hl : laidOutB P = true) (hok : f.params.toList.all (fun t => P.readableRec t && decide (t < P.types.size)) = true) (hvars : s.vars = []) (hrt : f.resultTypes = #[t]) (ht : P.underlying t = some .bool)
    (hs : ∀ ds : List (DataW H), ds.length = f.params.toList.length → s.fn H (ds ++ []) = { results := [.lit (.bool true)], args := ds })
    (hW : DataW.Whole enc P f.params.toList s.vars apart W args.toList ds gs before) (hb : _root_.Go.RowKit.Below W.heap.size W W') (hfz : ∀ a, W'.frozen? a = W.frozen? a) : s.post enc P f apart fresh handsOn again W args (.bool true) W' := by
  have hW' := hW
  obtain ⟨p, q, hA, hV, rfl, hz, hn⟩ := hW
  have hgs : gs = [] ∧ q = [] := by
    rw [hvars] at hV
    cases gs with
    | nil => exact ⟨rfl, hV⟩
    | cons => exact hV.elim
  obtain ⟨rfl, rfl⟩ := hgs
  have hfn := hs ds (trodAll_len hA).2
  refine post_of_same (pa := p) (pv := []) hW' (fun b sp hd => ?_) (fun sp hsp => ?_) (fun sp _ => ?_) rfl (below_kept hb _) hfz (ok_one hrt rfl (okWide_bool_mk ht true))
  · rw [hfn, hrt]
    exact trodAll_mk1 (shut_bool ht true)
  · rw [hfn]
    simp only [List.append_nil] at hsp
    exact trodAll_stays hl hb hok hA (fun x hx => by simpa using hW'.lt x (by simp [hx])) hsp
  · rw [hfn, hvars]
    exact rfl
end Go.Hx
