/-
  Contracts over the empty heap serve over every heap: the frame. Own work: no program stands in this text.
-/
import Derived.Test.YtcccmbeolcjacaaHxX
namespace Go.Hx
variable {P : Program} {G : Nat → Option (List AVal)} {Γ Γ' : Gam} {H H' : AHeap} {w w' : World}

def noH : AHeap := ⟨fun _ => none, 0⟩

/-- What a call made, read off its heap: no handle is left, and nothing that was there before it. -/
inductive Fresh (H : AHeap) : AVal → AVal → Prop
  | lit (v : Value) : Fresh H (.lit v) (.lit v)
  | nil : Fresh H (.lit (.slice none 0 0)) (.vec 0 [])
  | vec0 : Fresh H (.vec 0 []) (.vec 0 [])
  | agg {c c' : List AVal} (hl : c'.length = c.length) (h : ∀ i (h : i < c.length) (h' : i < c'.length), Fresh H c[i] c'[i]) : Fresh H (.agg c) (.agg c')
  | tup {c c' : List AVal} (hl : c'.length = c.length) (h : ∀ i (h : i < c.length) (h' : i < c'.length), Fresh H c[i] c'[i]) : Fresh H (.tup c) (.tup c')
  | own {id g o l z : Nat} {e : TypeId} {cells c' : List AVal} (hg : H.get id = some (.arr g e cells)) (hl : c'.length = l * z)
      (h : ∀ i (h : i < l * z) (h2 : o + i < cells.length) (h' : i < c'.length), Fresh H cells[o + i] c'[i]) : Fresh H (.own id g o l z) (.vec l c')

theorem Fresh.sound (R : RelH P G Γ' H' w) {N : Nat} (h1 : ∀ b, Γ'.owns b → N ≤ b) (h2 : ∀ b, Γ.owns b → b < N) {v v' : AVal} (hf : Fresh H' v v') : ∀ {cv : Value}, RelV P Γ' H' w v cv → RelV P Γ H w v' cv := by
  induction hf with
  | lit v => intro cv h; cases h; exact .lit _
  | nil => intro cv h; cases h; exact .vec0 none 0
  | vec0 =>
    intro cv h
    cases h with
    | vec0 a cap => exact .vec0 a cap
    | vec hb hlt hlen hcs hcell hrel => exact .vec0 _ _
  | agg hl hc ih =>
    intro cv h
    cases h with
    | agg hcs hrel => exact .agg (by omega) fun i a b => ih i (by omega) a (hrel i (by omega) b)
  | tup hl hc ih =>
    intro cv h
    cases h with
    | tup hcs hrel => exact .tup (by omega) fun i a b => ih i (by omega) a (hrel i (by omega) b)
  | @own id g o l z e cells c' hg hl hc ih =>
    intro cv h
    cases h with
    | own h =>
      obtain ⟨_, _, h0, h3⟩ := h
      have h4 := (h3 _ _ _ hg).2 rfl
      have harr := R.arr id g e cells hg
      cases hΓ : Γ' id with
      | none =>
        rw [hΓ] at h4
        obtain ⟨rfl, rfl, rfl⟩ := h4
        have : c' = [] := List.eq_nil_of_length_eq_zero (by simpa using hl)
        subst this
        exact .vec0 _ _
      | some y =>
        obtain ⟨b, base, n⟩ := y
        rw [hΓ] at h4 harr
        obtain ⟨a, cap, rfl, hcap, hoff, hor⟩ := h4
        obtain ⟨c, a1, a2, a3, a4⟩ := harr
        rcases hor with ⟨rfl, hn⟩ | ⟨rfl, rfl⟩
        · have hcell : ∀ i, i < l * z → ∃ cv, c[base + (o + i)]? = some cv ∧ ∀ (h : o + i < cells.length), RelV P Γ' H' w cells[o + i] cv := fun i hi => by
            obtain ⟨cv, b1, b2⟩ := a4 (o + i) (by omega)
            exact ⟨cv, b1, fun _ => b2⟩
          let cs : List Value := (List.range (l * z)).map fun i => (c[base + (o + i)]?).getD undef
          have hcs : cs.length = c'.length := by simp [cs, hl]
          refine .vec (cs := cs) (fun ho => ?_) (R.lt _ _ _ _ hΓ) hcap hcs (fun i hi => ?_) fun i hi hi' => ?_
          · have := h2 b ho
            have := h1 b ⟨id, base, n, hΓ⟩
            omega
          · have hi2 : i < l * z := by rw [hcs, hl] at hi; exact hi
            obtain ⟨cv, b1, _⟩ := hcell i hi2
            have : cs[i] = cv := by simp [cs, b1]
            rw [this]
            have he : base + o + i = base + (o + i) := by omega
            simp only [World.cell?, a1, he]
            exact b1
          · have hi2 : i < l * z := by rw [hl] at hi; exact hi
            obtain ⟨cv, b1, b2⟩ := hcell i hi2
            have : cs[i] = cv := by simp [cs, b1]
            rw [this]
            exact ih i hi2 (by omega) hi (b2 (by omega))
        · have : c' = [] := List.eq_nil_of_length_eq_zero (by simpa using hl)
          subst this
          exact .vec0 _ _

theorem fzH_all (H : AHeap) : FzH (fun _ => True) H noH := ⟨fun _ _ => rfl, fun _ _ h => absurd trivial h, fun _ h => absurd trivial h⟩

theorem gam_all (b : Nat) : ¬ (gamF (fun _ => True) Γ).owns b := by
  rintro ⟨id, base, n, h⟩
  exact (gamF_some h).1 trivial

/-- The frame: what a call does over the empty heap, its arguments read off, it does over any heap. -/
theorem ACall.frame {f : FuncId} {args args' : List AVal} {v' : AVal} (hG : GOk G) (hl : args'.length = args.length) (hv : ∀ i (h : i < args.length) (h' : i < args'.length), Fz (fun _ => True) H 0 args[i] args'[i])
    (h : ACall P G f args' noH fun r H' => ∃ v, r = .ret v ∧ Fresh H' v v') : ACall P G f args H fun r H' => r = .ret v' ∧ H' = H := by
  refine ⟨h.1, fun Γ w cargs R hr => ?_⟩
  have F := fzH_all H
  have R0 : RelH P G (gamF (fun _ => True) Γ) noH w := F.rel hG R
  have hr0 : RelL P (gamF (fun _ => True) Γ) noH w args' cargs := ⟨by have := hr.1; omega, fun i h1 h2 => (hv i (by omega) h1).sound R F (hr.2 i (by omega) h2)⟩
  refine (h.2 _ w cargs R0 hr0).mono ?_
  rintro e w' ⟨r, H', Γ', hend, ⟨v, rfl, hf⟩, R', E, hn⟩
  have hown : ∀ b, Γ'.owns b → w.heap.size ≤ b := fun b hb => Nat.le_of_not_lt fun hlt => (E.keep b hlt (gam_all b)).2 hb
  have hown2 : ∀ b, Γ.owns b → b < w.heap.size := fun b ⟨id, base, n, hb⟩ => R.lt _ _ _ _ hb
  obtain ⟨E2, R2⟩ := grow_evo E.os E.tape E.output E.size (fun b hb => (E.keep b hb (gam_all b)).1) E.frz R
  refine ⟨.ret v', H, Γ, ?_, ⟨rfl, rfl⟩, R2, E2, Nat.le_refl _⟩
  cases e with
  | returned cv => exact hf.sound R' hown hown2 hend
  | _ => exact hend.elim
end Go.Hx
