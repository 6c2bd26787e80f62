/-
  Calls that are known already, one upon the other. Own work: no program stands in this text.
-/
import Derived.Test.YtcccmbeolcjacaaHxBr
namespace Go.Hx
variable {P : Program} {G : Nat → Option (List AVal)}

abbrev KTab := List (List AVal × AVal)
def KOk (P : Program) (G : Nat → Option (List AVal)) (f : FuncId) (l : KTab) : Prop := ∀ p, p ∈ l → ACall P G f p.1 noH fun r H' => ∃ u, r = .ret u ∧ Fresh H' u p.2
theorem KOk.nil {f : FuncId} : KOk P G f [] := fun _ h => by cases h
theorem KOk.cons {f : FuncId} {p : List AVal × AVal} {l : KTab} (h : ACall P G f p.1 noH fun r H' => ∃ u, r = .ret u ∧ Fresh H' u p.2) (hl : KOk P G f l) : KOk P G f (p :: l) := fun q hq => by
  rcases List.mem_cons.1 hq with rfl | hq
  · exact h
  · exact hl q hq
theorem KOk.append {f : FuncId} {l l' : KTab} (h : KOk P G f l) (h' : KOk P G f l') : KOk P G f (l ++ l') := fun q hq => (List.mem_append.1 hq).elim (h q) (h' q)

noncomputable def knownOf (l : List (FuncId × KTab)) (f : FuncId) : Option KTab :=
  List.rec (motive := fun _ => Option KTab) none (fun p _ ih => Bool.rec (motive := fun _ => Option KTab) ih (some p.2) (Nat.beq p.1 f)) l

def KAll (P : Program) (G : Nat → Option (List AVal)) : List (FuncId × KTab) → Prop
  | [] => True
  | p :: l => KOk P G p.1 p.2 ∧ KAll P G l

theorem knownOf_ok : ∀ {l : List (FuncId × KTab)}, KAll P G l → ∀ f t, knownOf l f = some t → KOk P G f t := by
  intro l
  induction l with
  | nil => intro _ f t h; cases h
  | cons p l ih =>
    intro ha f t h
    have h' : Bool.rec (motive := fun _ => Option KTab) (knownOf l f) (some p.2) (Nat.beq p.1 f) = some t := h
    cases hb : Nat.beq p.1 f with
    | true =>
      rw [hb] at h'
      have := Nat.eq_of_beq_eq_true hb
      have h2 : p.2 = t := Option.some.inj h'
      rw [← this, ← h2]
      exact ha.1
    | false =>
      rw [hb] at h'
      exact ih ha.2 f t h'

theorem EOk.of_known {E : EP} {l : List (FuncId × KTab)} (hk : E.known = knownOf l) (gok : GOk E.G) (mixed : E.P.follows .mixedOrders = true)
    (gd : ∀ f z, E.gd f = some z → ∀ g cap H K, ACall E.P E.G g cap H (gdK z K) → ACall E.P E.G f [.clo g [] cap] H K) (ha : KAll E.P E.G l) : EOk E :=
  ⟨gok, mixed, fun f t h a v hm => knownOf_ok ha f t (by rw [← hk]; exact h) (a, v) hm, gd⟩

/-- Does a call give this? -/
noncomputable def chk (E : EP) (fuel : Nat) (f : FuncId) (args : List AVal) (v : AVal) : Bool := match evMain E fuel f args with
  | some u => eqA 40 u v
  | none => false
theorem chk_ok {E : EP} {fuel : Nat} {f : FuncId} {args : List AVal} {v : AVal} (hE : EOk E) (h : chk E fuel f args v = true) : ACall E.P E.G f args noH fun r H' => ∃ u, r = .ret u ∧ Fresh H' u v := by
  unfold chk at h
  split at h
  · rename_i u hu
    rw [← eqA_eq 40 _ _ h]
    exact evMain_ok hE hu
  · cases h

def noGl : Nat → Option (List AVal) := fun _ => none
theorem noGl_ok : GOk noGl := fun _ _ h => by cases h
theorem noGl_glob (W : World) : GlobOk P noGl W := fun _ _ h => by cases h
end Go.Hx
