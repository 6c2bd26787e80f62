/-
  Regions that draw their order. Own work: no program stands in this text.
-/
import Derived.Test.YtcccmbeolcjacaaHxO
namespace Go.Hx
variable {P : Program} {G : Nat → Option (List AVal)} {Γ Γ' : Gam} {H H' : AHeap} {w w' : World}

def idsV : AVal → List Nat
  | .own id _ _ _ _ => [id]
  | .ptr id _ _ => [id]
  | _ => []

/-- What an operation touches: the blocks that it lays or writes, those that it looks into. -/
structure FP where
  eff : List Nat
  rs : List Nat

def isOwn : AVal → Bool
  | .own .. => true
  | _ => false

def lenIds (P : Program) (t : TypeId) (x : AVal) : List Nat := match P.underlying t with
  | some (.slice _) => idsV x
  | _ => []

def fpB (P : Program) (id : Nat) (b : Builtin) (ats : List TypeId) (args : List AVal) : FP :=
  match b, ats, args with
  | .append, _, [s, x] => if isOwn s then ⟨idsV s, idsV s ++ idsV x⟩ else ⟨[id], idsV x⟩
  | .copy, _, [d, x] => ⟨idsV d, idsV d ++ idsV x⟩
  | .len, [t], [x] => ⟨[], lenIds P t x⟩
  | _, _, _ => ⟨[], []⟩

def fpO (P : Program) (G : Nat → Option (List AVal)) (ρ : Env) (id : Nat) : Op → FP
  | .load _ a => ⟨[], idsV (evA G ρ a)⟩
  | .nilCheck a => ⟨[], idsV (evA G ρ a)⟩
  | .slice _ a _ _ _ => ⟨[], idsV (evA G ρ a)⟩
  | .fieldAddr _ a _ => ⟨[], idsV (evA G ρ a)⟩
  | .indexAddr _ a _ => ⟨[], idsV (evA G ρ a)⟩
  | .store _ a _ => ⟨idsV (evA G ρ a), idsV (evA G ρ a)⟩
  | .alloc _ => ⟨[id], []⟩
  | .box _ _ => ⟨[id], []⟩
  | .buildSlice _ _ _ => ⟨[id], []⟩
  | .makeSlice _ _ _ => ⟨[id], []⟩
  | .call c => match c.callee with
    | .builtin b => fpB P id b c.argTypes.toList (c.args.toList.map (evA G ρ))
    | _ => ⟨[], []⟩
  | _ => ⟨[], []⟩

def effGet (e : Option (Nat × Blk)) (g : Nat → Option Blk) : Nat → Option Blk :=
  match e with
  | none => g
  | some (k, b) => fun j => if j = k then some b else g j

def WFH (H : AHeap) : Prop := ∀ id b, H.get id = some b → id < H.next

theorem live_lt (wf : WFH H) {id gen : Nat} {ec : TypeId × List AVal} (h : H.live id gen = some ec) : id < H.next := wf id _ (live_some (e := ec.1) (cells := ec.2) h)

theorem live_eq {H2 : AHeap} {id : Nat} (h : H2.get id = H.get id) (gen : Nat) : H2.live id gen = H.live id gen := by unfold AHeap.live; rw [h]

/-- What an operation does to the heap, and that it does the same in every heap that agrees where it looks. -/
def Local (P : Program) (G : Nat → Option (List AVal)) (ρ : Env) (H : AHeap) (o : Op) (v : AVal) (H' : AHeap) (f : FP) : Prop :=
  ∃ (e : Option (Nat × Blk)) (al : Bool), H'.get = effGet e H.get ∧ H'.next = (if al then H.next + 1 else H.next) ∧
    (∀ k b, e = some (k, b) → k ∈ f.eff ∧ (al = false → k ∈ f.rs)) ∧ (al = true → ∃ b, e = some (H.next, b)) ∧ (∀ r, r ∈ f.rs → r < H.next) ∧
    ∀ H2 : AHeap, (∀ r, r ∈ f.rs → H2.get r = H.get r) → (al = true → H2.get H.next = some .rsv ∧ H.next ≠ H2.next) → opA P G ρ H2 H.next o = some (v, ⟨effGet e H2.get, H2.next⟩)

theorem local_same {ρ : Env} {o : Op} {v : AVal} {f : FP} (hrs : ∀ r, r ∈ f.rs → r < H.next) (h : ∀ H2 : AHeap, (∀ r, r ∈ f.rs → H2.get r = H.get r) → opA P G ρ H2 H.next o = some (v, H2)) : Local P G ρ H o v H f := by
  refine ⟨none, false, rfl, rfl, ?_, ?_, hrs, fun H2 ha _ => h H2 ha⟩
  · intro k b h; cases h
  · intro h; cases h

theorem local_lay {ρ : Env} {o : Op} {v : AVal} {f : FP} {b : Blk} (hl : H.lay H.next b = some H') (hta : H.next ∈ f.eff) (hrs : ∀ r, r ∈ f.rs → r < H.next)
    (h : ∀ H2 : AHeap, (∀ r, r ∈ f.rs → H2.get r = H.get r) → ∀ H2', H2.lay H.next b = some H2' → opA P G ρ H2 H.next o = some (v, H2')) : Local P G ρ H o v H' f := by
  obtain ⟨h1, h2⟩ := lay_some hl
  have h2' : H'.next = H.next + 1 := by
    unfold AHeap.lay at hl
    rw [if_pos rfl] at hl
    simp only [Option.some.injEq] at hl
    rw [← hl]
  refine ⟨some (H.next, b), true, funext h1, by simp [h2'], ?_, ?_, hrs, fun H2 ha hr => ?_⟩
  · intro k b' hk
    simp only [Option.some.injEq, Prod.mk.injEq] at hk
    exact ⟨hk.1 ▸ hta, fun h => by cases h⟩
  · exact fun _ => ⟨b, rfl⟩
  · obtain ⟨hr1, hr2⟩ := hr rfl
    refine h H2 ha _ ?_
    unfold AHeap.lay
    rw [if_neg hr2, hr1]
    rfl

theorem local_upd {ρ : Env} {o : Op} {v : AVal} {f : FP} {id : Nat} {b : Blk} (hid : id ∈ f.eff) (hid' : id ∈ f.rs) (hrs : ∀ r, r ∈ f.rs → r < H.next)
    (h : ∀ H2 : AHeap, (∀ r, r ∈ f.rs → H2.get r = H.get r) → opA P G ρ H2 H.next o = some (v, H2.upd id b)) : Local P G ρ H o v (H.upd id b) f := by
  refine ⟨some (id, b), false, rfl, rfl, ?_, ?_, hrs, fun H2 ha _ => h H2 ha⟩
  · intro k b' hk
    simp only [Option.some.injEq, Prod.mk.injEq] at hk
    exact ⟨hk.1 ▸ hid, fun _ => hk.1 ▸ hid'⟩
  · intro h; cases h

theorem nil_lt {n : Nat} : ∀ r, r ∈ ([] : List Nat) → r < n := fun _ h => by cases h
theorem one_lt {n id : Nat} (h : id < n) : ∀ r, r ∈ [id] → r < n := fun r hr => by
  simp only [List.mem_singleton] at hr
  omega

theorem loadA_eq {H2 : AHeap} {t : TypeId} {a : AVal} (h : ∀ r, r ∈ idsV a → H2.get r = H.get r) : loadA P H2 t a = loadA P H t a := by
  cases a with
  | ptr id gen off => simp only [loadA]; rw [h id (by simp [idsV])]
  | _ => rfl

theorem loadA_lt (wf : WFH H) {t : TypeId} {a v : AVal} (h : loadA P H t a = some v) : ∀ r, r ∈ idsV a → r < H.next := by
  cases a with
  | ptr id gen off =>
    refine one_lt ?_
    simp only [loadA] at h
    split at h
    · rename_i hg; exact wf _ _ hg
    · cases h
  | own => simp [loadA] at h
  | _ => exact nil_lt

theorem storeA_form {t : TypeId} {a v : AVal} (h : storeA P H t a v = some H') : ∃ id gen off g e cells, a = .ptr id gen off ∧ H.get id = some (.arr g e cells) ∧ ∃ cells', H' = H.upd id (.arr g e cells') ∧
    ∀ H2 : AHeap, H2.get id = H.get id → storeA P H2 t a v = some (H2.upd id (.arr g e cells')) := by
  cases a with
  | ptr id gen off =>
    simp only [storeA] at h
    split at h
    · rename_i g e cells hg
      split at h
      · rename_i hc
        simp only [Option.some.injEq] at h
        refine ⟨id, gen, off, g, e, cells, rfl, hg, _, h.symm, fun H2 h2 => ?_⟩
        simp only [storeA]
        rw [h2, hg]
        simp only
        rw [if_pos hc]
      · cases h
    · cases h
  | _ => simp [storeA] at h

theorem indexAddrA_loc (wf : WFH H) {t : TypeId} {x v : AVal} {i : Int} (h : indexAddrA P H t x i = some v) : (∀ r, r ∈ idsV x → r < H.next) ∧ ∀ H2 : AHeap, (∀ r, r ∈ idsV x → H2.get r = H.get r) → indexAddrA P H2 t x i = some v := by
  unfold indexAddrA at h ⊢
  split at h
  · split at h
    · rename_i hc
      split at h
      · rename_i id gen off
        simp only [Option.map_eq_some_iff] at h
        obtain ⟨ec, hl, hv⟩ := h
        refine ⟨one_lt (live_lt wf hl), fun H2 h2 => ?_⟩
        rw [if_pos hc]
        simp only [live_eq (h2 id (by simp [idsV])), hl, Option.map_some, hv]
      · refine ⟨nil_lt, fun H2 _ => ?_⟩
        rw [if_pos hc]
        exact h
      · cases h
    · cases h
  · split at h
    · rename_i hc
      split at h
      · rename_i id gen off len sz
        split at h
        · rename_i hi
          simp only [Option.map_eq_some_iff] at h
          obtain ⟨ec, hl, hv⟩ := h
          refine ⟨one_lt (live_lt wf hl), fun H2 h2 => ?_⟩
          rw [if_pos hc, if_pos hi]
          simp only [live_eq (h2 id (by simp [idsV])), hl, Option.map_some, hv]
        · cases h
      · refine ⟨nil_lt, fun H2 _ => ?_⟩
        rw [if_pos hc]
        exact h
      · cases h
    · cases h
  · cases h

theorem sliceA_loc (wf : WFH H) {t : TypeId} {x v : AVal} {lo hi : Option AVal} (h : sliceA P H t x lo hi = some v) : (∀ r, r ∈ idsV x → r < H.next) ∧ ∀ H2 : AHeap, (∀ r, r ∈ idsV x → H2.get r = H.get r) → sliceA P H2 t x lo hi = some v := by
  unfold sliceA at h ⊢
  split at h
  · split at h
    · rename_i hc
      split at h
      · rename_i id gen off
        split at h
        · rename_i e' cells hl
          refine ⟨one_lt (live_lt wf hl), fun H2 h2 => ?_⟩
          rw [if_pos hc]
          simp only [live_eq (h2 id (by simp [idsV])), hl]
          exact h
        · cases h
      · refine ⟨nil_lt, fun H2 _ => ?_⟩
        rw [if_pos hc]
        exact h
      · cases h
    · cases h
  · split at h
    · rename_i hc
      split at h
      · rename_i id gen off len sz
        split at h
        · rename_i hi
          have h0 := h
          simp only [Option.bind_eq_some_iff] at h
          obtain ⟨ec, hl, _⟩ := h
          refine ⟨one_lt (live_lt wf hl), fun H2 h2 => ?_⟩
          rw [if_pos hc, if_pos hi, live_eq (h2 id (by simp [idsV]))]
          exact h0
        · cases h
      · refine ⟨nil_lt, fun H2 _ => ?_⟩
        rw [if_pos hc]
        exact h
      · refine ⟨nil_lt, fun H2 _ => ?_⟩
        rw [if_pos hc]
        exact h
      · cases h
    · cases h
  · split at h
    · exact ⟨nil_lt, fun H2 _ => h⟩
    · cases h
  · cases h

theorem lenA_loc (wf : WFH H) {t : TypeId} {x v : AVal} (h : lenA P H t x = some v) : (∀ r, r ∈ lenIds P t x → r < H.next) ∧ ∀ H2 : AHeap, (∀ r, r ∈ lenIds P t x → H2.get r = H.get r) → lenA P H2 t x = some v := by
  unfold lenA lenIds at *
  cases hu : P.underlying t with
  | none => rw [hu] at h; cases h
  | some d =>
    rw [hu] at h
    cases d with
    | slice e =>
      simp only at h ⊢
      split at h
      · exact ⟨nil_lt, fun _ _ => h⟩
      · rename_i id gen off len sz
        simp only [Option.map_eq_some_iff] at h
        obtain ⟨ec, hl, hv⟩ := h
        refine ⟨one_lt (live_lt wf hl), fun H2 h2 => ?_⟩
        simp only [live_eq (h2 id (by simp [idsV])), hl, Option.map_some, hv]
      · exact ⟨nil_lt, fun _ _ => h⟩
      · cases h
    | string => exact ⟨nil_lt, fun _ _ => h⟩
    | array n e => exact ⟨nil_lt, fun _ _ => h⟩
    | _ => cases h

theorem sourceA_loc (wf : WFH H) {sz : Nat} {x : AVal} {r : Nat × List AVal} (h : sourceA H sz x = some r) : (∀ r, r ∈ idsV x → r < H.next) ∧ ∀ H2 : AHeap, (∀ r, r ∈ idsV x → H2.get r = H.get r) → sourceA H2 sz x = some r := by
  unfold sourceA at h ⊢
  split at h
  · exact ⟨nil_lt, fun _ _ => h⟩
  · rename_i id gen off len sz'
    split at h
    · rename_i hsz
      simp only [Option.map_eq_some_iff] at h
      obtain ⟨ec, hl, hv⟩ := h
      refine ⟨one_lt (live_lt wf hl), fun H2 h2 => ?_⟩
      rw [if_pos hsz]
      simp only [live_eq (h2 id (by simp [idsV])), hl, Option.map_some, hv]
    · cases h
  · exact ⟨nil_lt, fun _ _ => h⟩
  · cases h

theorem mem_app {a b : List Nat} {p : Nat → Prop} (h1 : ∀ r, r ∈ a → p r) (h2 : ∀ r, r ∈ b → p r) : ∀ r, r ∈ a ++ b → p r := fun r hr => (List.mem_append.1 hr).elim (h1 r) (h2 r)

theorem appendA_local (wf : WFH H) {ρ : Env} {c : Call} {t u : TypeId} {s x v : AVal} (hb : c.callee = .builtin .append) (hats : c.argTypes.toList = [t, u]) (hargs : c.args.toList.map (evA G ρ) = [s, x])
    (h : appendA P H H.next t u s x = some (v, H')) : Local P G ρ H (.call c) v H' (fpO P G ρ H.next (.call c)) := by
  have hfp : fpO P G ρ H.next (.call c) = if isOwn s then ⟨idsV s, idsV s ++ idsV x⟩ else ⟨[H.next], idsV x⟩ := by
    simp only [fpO, hb, hats, hargs, fpB]
  have hop : ∀ H2 : AHeap, opA P G ρ H2 H.next (.call c) = appendA P H2 H.next t u s x := fun H2 => by
    simp only [opA, hb, hats, hargs, builtinA]
  rw [hfp]
  unfold appendA at h
  split at h
  · rename_i e he
    split at h
    · rename_i e' he'
      simp only [Option.bind_eq_some_iff] at h
      obtain ⟨z, hz, nx, hsrc, h⟩ := h
      obtain ⟨hxlt, hxl⟩ := sourceA_loc wf hsrc
      split at h
      · simp only [isOwn, Bool.false_eq_true, if_false]
        split at h
        · rename_i hn0
          simp only [Option.some.injEq, Prod.mk.injEq] at h
          obtain ⟨rfl, rfl⟩ := h
          refine local_same hxlt fun H2 h2 => ?_
          rw [hop]
          simp only [appendA, he, he', hz, hxl H2 h2, Option.bind_some, if_pos hn0]
        · rename_i hn0
          split at h
          · rename_i hb
            simp only [Option.map_eq_some_iff, Prod.mk.injEq] at h
            obtain ⟨H3, hl, rfl, rfl⟩ := h
            refine local_lay hl (by simp) hxlt fun H2 h2 H2' hl2 => ?_
            rw [hop]
            simp only [appendA, he, he', hz, hxl H2 h2, Option.bind_some, if_neg hn0, if_pos hb, hl2, Option.map_some]
          · cases h
      · rename_i id' gen off len sz
        simp only [isOwn, if_true]
        simp only [Option.bind_eq_some_iff] at h
        obtain ⟨ec, hl, h⟩ := h
        have hlt : ∀ r, r ∈ idsV (.own id' gen off len sz) ++ idsV x → r < H.next := mem_app (one_lt (live_lt wf hl)) hxlt
        have hl2 : ∀ H2 : AHeap, (∀ r, r ∈ idsV (.own id' gen off len sz) ++ idsV x → H2.get r = H.get r) → H2.live id' gen = some ec := fun H2 h2 => by
          rw [live_eq (h2 id' (by simp [idsV]))]; exact hl
        have hx2 : ∀ H2 : AHeap, (∀ r, r ∈ idsV (.own id' gen off len sz) ++ idsV x → H2.get r = H.get r) → sourceA H2 (P.cellsOf e) x = some nx := fun H2 h2 =>
          hxl H2 fun r hr => h2 r (List.mem_append_right _ hr)
        split at h
        · rename_i hc
          split at h
          · rename_i hn0
            simp only [Option.some.injEq, Prod.mk.injEq] at h
            obtain ⟨rfl, rfl⟩ := h
            refine local_same hlt fun H2 h2 => ?_
            rw [hop]
            simp only [appendA, he, he', hz, hx2 H2 h2, hl2 H2 h2, Option.bind_some]
            rw [if_pos hc, if_pos hn0]
          · rename_i hn0
            simp only [Option.some.injEq, Prod.mk.injEq] at h
            obtain ⟨rfl, rfl⟩ := h
            refine local_upd (by simp [idsV]) (by simp [idsV]) hlt fun H2 h2 => ?_
            rw [hop]
            simp only [appendA, he, he', hz, hx2 H2 h2, hl2 H2 h2, Option.bind_some]
            rw [if_pos hc, if_neg hn0]
        · cases h
      · cases h
    · cases h
  · cases h

theorem copyA_local (wf : WFH H) {ρ : Env} {c : Call} {t u : TypeId} {s x v : AVal} (hb : c.callee = .builtin .copy) (hats : c.argTypes.toList = [t, u]) (hargs : c.args.toList.map (evA G ρ) = [s, x])
    (h : copyA P H t s x = some (v, H')) : Local P G ρ H (.call c) v H' (fpO P G ρ H.next (.call c)) := by
  have hfp : fpO P G ρ H.next (.call c) = ⟨idsV s, idsV s ++ idsV x⟩ := by
    simp only [fpO, hb, hats, hargs, fpB]
  have hop : ∀ H2 : AHeap, opA P G ρ H2 H.next (.call c) = copyA P H2 t s x := fun H2 => by
    simp only [opA, hb, hats, hargs, builtinA]
  rw [hfp]
  unfold copyA at h
  split at h
  · rename_i e he
    split at h
    · rename_i hs
      simp only [Option.bind_eq_some_iff] at h
      obtain ⟨nx, hsrc, h⟩ := h
      obtain ⟨hxlt, hxl⟩ := sourceA_loc wf hsrc
      split at h
      · rename_i id' gen off len sz
        simp only [Option.bind_eq_some_iff] at h
        obtain ⟨ec, hl, h⟩ := h
        have hlt : ∀ r, r ∈ idsV (.own id' gen off len sz) ++ idsV x → r < H.next := mem_app (one_lt (live_lt wf hl)) hxlt
        split at h
        · rename_i hc
          simp only [Option.some.injEq, Prod.mk.injEq] at h
          obtain ⟨rfl, rfl⟩ := h
          refine local_upd (by simp [idsV]) (by simp [idsV]) hlt fun H2 h2 => ?_
          have hl2 : H2.live id' gen = some ec := by
            rw [live_eq (h2 id' (by simp [idsV]))]; exact hl
          rw [hop]
          simp only [copyA, he, hs, if_true, hxl H2 fun r hr => h2 r (List.mem_append_right _ hr), hl2, Option.bind_some]
          rw [if_pos hc]
        · cases h
      · cases h
    · cases h
  · cases h

/-- Every operation is local. -/
theorem opA_local (wf : WFH H) {ρ : Env} {o : Op} {v : AVal} (h : opA P G ρ H H.next o = some (v, H')) : Local P G ρ H o v H' (fpO P G ρ H.next o) := by
  cases o with
  | alloc e =>
    simp only [opA, Option.bind_eq_some_iff, Option.map_eq_some_iff, Prod.mk.injEq] at h
    obtain ⟨z, hz, H3, hl, rfl, rfl⟩ := h
    refine local_lay hl (by simp [fpO]) nil_lt fun H2 _ H2' hl2 => ?_
    simp only [opA, hz, hl2, Option.bind_some, Option.map_some]
  | box e x =>
    simp only [opA, Option.map_eq_some_iff, Prod.mk.injEq] at h
    obtain ⟨H3, hl, rfl, rfl⟩ := h
    refine local_lay hl (by simp [fpO]) nil_lt fun H2 _ H2' hl2 => ?_
    simp only [opA, hl2, Option.map_some]
  | buildSlice t len parts =>
    simp only [opA, buildSliceA] at h
    split at h
    · rename_i e he
      split at h
      · rename_i hc
        simp only [Option.bind_eq_some_iff, Option.map_eq_some_iff, Prod.mk.injEq] at h
        obtain ⟨z, hz, cells, hcl, H3, hl, rfl, rfl⟩ := h
        refine local_lay hl (by simp [fpO]) nil_lt fun H2 _ H2' hl2 => ?_
        simp only [opA, buildSliceA, he]
        rw [if_pos hc]
        simp only [hz, hcl, hl2, Option.bind_some, Option.map_some]
      · cases h
    · cases h
  | makeSlice t l c =>
    simp only [opA, makeSliceA] at h
    split at h
    · rename_i e k l' k' c' he hl' hc'
      split at h
      · rename_i hc
        simp only [Option.bind_eq_some_iff, Option.map_eq_some_iff, Prod.mk.injEq] at h
        obtain ⟨cells, hz, H3, hl, rfl, rfl⟩ := h
        refine local_lay hl (by simp [fpO]) nil_lt fun H2 _ H2' hl2 => ?_
        simp only [opA, makeSliceA, he, hl', hc']
        rw [if_pos hc]
        simp only [hz, hl2, Option.bind_some, Option.map_some]
      · cases h
    · cases h
  | store t a x =>
    simp only [opA] at h
    split at h
    · rename_i hu
      simp only [Option.map_eq_some_iff, Prod.mk.injEq] at h
      obtain ⟨H3, hst, rfl, rfl⟩ := h
      obtain ⟨id, gen, off, g, e, cells, ha, hg, cells', rfl, hall⟩ := storeA_form hst
      have hfp : fpO P G ρ H.next (.store t a x) = ⟨[id], [id]⟩ := by simp only [fpO, ha, idsV]
      rw [hfp]
      refine local_upd (by simp) (by simp) (one_lt (wf _ _ hg)) fun H2 h2 => ?_
      simp only [opA, hu, if_true, hall H2 (h2 id (by simp)), Option.map_some]
    · cases h
  | load t p =>
    simp only [opA, Option.map_eq_some_iff, Prod.mk.injEq] at h
    obtain ⟨v', hv, rfl, rfl⟩ := h
    refine local_same (loadA_lt wf hv) fun H2 h2 => ?_
    simp only [opA, loadA_eq h2, hv, Option.map_some]
  | nilCheck p =>
    simp only [opA, Option.map_eq_some_iff, Prod.mk.injEq] at h
    obtain ⟨v', hv, rfl, rfl⟩ := h
    have hv0 := hv
    unfold nilCheckA at hv
    split at hv
    · rename_i id gen off hp
      simp only [Option.map_eq_some_iff] at hv
      obtain ⟨ec, hl, hv⟩ := hv
      have hfp : fpO P G ρ H.next (.nilCheck p) = ⟨[], [id]⟩ := by simp only [fpO, hp, idsV]
      rw [hfp]
      refine local_same (one_lt (live_lt wf hl)) fun H2 h2 => ?_
      subst hv
      simp only [opA, hp, nilCheckA, live_eq (h2 id (by simp)), hl, Option.map_some]
    · rename_i hp
      have hfp : fpO P G ρ H.next (.nilCheck p) = ⟨[], []⟩ := by simp only [fpO, hp, idsV]
      rw [hfp]
      refine local_same nil_lt fun H2 _ => ?_
      simp only [opA, hp, nilCheckA, Option.map_some, Option.some.injEq] at hv ⊢
      rw [hv]
    · rename_i hp
      have hfp : fpO P G ρ H.next (.nilCheck p) = ⟨[], []⟩ := by simp only [fpO, hp, idsV]
      rw [hfp]
      refine local_same nil_lt fun H2 _ => ?_
      simp only [opA, hp, nilCheckA, Option.map_some, Option.some.injEq] at hv ⊢
      rw [hv]
    · cases hv
  | slice t x lo hi mx =>
    simp only [opA] at h
    split at h
    · simp only [Option.map_eq_some_iff, Prod.mk.injEq] at h
      obtain ⟨v', hv, rfl, rfl⟩ := h
      obtain ⟨h1, h2⟩ := sliceA_loc wf hv
      refine local_same h1 fun H2 h3 => ?_
      simp only [opA, h2 H2 h3, Option.map_some]
    · cases h
  | indexAddr t x i =>
    simp only [opA] at h
    split at h
    · rename_i k i' hi
      simp only [Option.map_eq_some_iff, Prod.mk.injEq] at h
      obtain ⟨v', hv, rfl, rfl⟩ := h
      obtain ⟨h1, h2⟩ := indexAddrA_loc wf hv
      refine local_same h1 fun H2 h3 => ?_
      simp only [opA, hi, h2 H2 h3, Option.map_some]
    · cases h
  | fieldAddr s x f =>
    simp only [opA, Option.bind_eq_some_iff] at h
    obtain ⟨of, hof, h⟩ := h
    split at h
    · rename_i id gen off hx
      simp only [Option.map_eq_some_iff, Prod.mk.injEq] at h
      obtain ⟨ec, hl, rfl, rfl⟩ := h
      have hfp : fpO P G ρ H.next (.fieldAddr s x f) = ⟨[], [id]⟩ := by simp only [fpO, hx, idsV]
      rw [hfp]
      refine local_same (one_lt (live_lt wf hl)) fun H2 h2 => ?_
      simp only [opA, hof, Option.bind_some, hx, live_eq (h2 id (by simp)), hl, Option.map_some]
    · rename_i cells off hx
      simp only [Option.some.injEq, Prod.mk.injEq] at h
      obtain ⟨rfl, rfl⟩ := h
      have hfp : fpO P G ρ H.next (.fieldAddr s x f) = ⟨[], []⟩ := by simp only [fpO, hx, idsV]
      rw [hfp]
      refine local_same nil_lt fun H2 _ => ?_
      simp only [opA, hof, Option.bind_some, hx]
    · cases h
  | call c =>
    have h0 := h
    simp only [opA] at h
    split at h
    · rename_i b hb
      unfold builtinA at h
      split at h
      · rename_i t x hats hargs
        simp only [Option.map_eq_some_iff, Prod.mk.injEq] at h
        obtain ⟨v', hv, rfl, rfl⟩ := h
        obtain ⟨h1, h2⟩ := lenA_loc wf hv
        have hfp : fpO P G ρ H.next (.call c) = ⟨[], lenIds P t x⟩ := by simp only [fpO, hb, hats, hargs, fpB]
        rw [hfp]
        refine local_same h1 fun H2 h3 => ?_
        simp only [opA, hb, hats, hargs, builtinA, h2 H2 h3, Option.map_some]
      · rename_i hats hargs; exact appendA_local wf hb hats hargs h
      · rename_i hats hargs; exact copyA_local wf hb hats hargs h
      · rename_i hats
        simp only [Option.bind_eq_some_iff, Option.map_eq_some_iff, Prod.mk.injEq] at h
        obtain ⟨vs, h1, v', h2, rfl, rfl⟩ := h
        have hfp : fpO P G ρ H.next (.call c) = ⟨[], []⟩ := by simp only [fpO, hb, fpB]
        rw [hfp]
        refine local_same nil_lt fun H2 _ => ?_
        simp only [opA, hb, builtinA, h1, h2, Option.bind_some, Option.map_some]
      · rename_i hats
        simp only [Option.bind_eq_some_iff, Option.map_eq_some_iff, Prod.mk.injEq] at h
        obtain ⟨vs, h1, v', h2, rfl, rfl⟩ := h
        have hfp : fpO P G ρ H.next (.call c) = ⟨[], []⟩ := by simp only [fpO, hb, fpB]
        rw [hfp]
        refine local_same nil_lt fun H2 _ => ?_
        simp only [opA, hb, builtinA, h1, h2, Option.bind_some, Option.map_some]
      · cases h
    · cases h
  | pick c a b =>
    simp only [opA] at h
    split at h
    · rename_i t ht
      simp only [Option.some.injEq, Prod.mk.injEq] at h
      obtain ⟨rfl, rfl⟩ := h
      refine local_same nil_lt fun H2 _ => ?_
      simp only [opA, ht]
    · cases h
  | makeFunc fn f c =>
    simp only [opA] at h
    split at h
    · simp only [Option.some.injEq, Prod.mk.injEq] at h
      obtain ⟨rfl, rfl⟩ := h
      exact local_same nil_lt fun H2 _ => by simp only [opA]
    · cases h
  | makeInterface t x =>
    simp only [opA] at h
    split at h
    · rename_i y hy
      simp only [Option.map_eq_some_iff, Prod.mk.injEq] at h
      obtain ⟨v', hv, rfl, rfl⟩ := h
      refine local_same nil_lt fun H2 _ => ?_
      simp only [opA, hy, hv, Option.map_some]
    · cases h
  | field s x f =>
    simp only [opA, Option.bind_eq_some_iff] at h
    obtain ⟨of, hof, h⟩ := h
    split at h
    · rename_i hx
      simp only [Option.map_eq_some_iff, Prod.mk.injEq] at h
      obtain ⟨v', hv, rfl, rfl⟩ := h
      refine local_same nil_lt fun H2 _ => ?_
      simp only [opA, hof, Option.bind_some, hx, hv, Option.map_some]
    · rename_i hx
      simp only [Option.map_eq_some_iff, Prod.mk.injEq] at h
      obtain ⟨v', hv, rfl, rfl⟩ := h
      refine local_same nil_lt fun H2 _ => ?_
      simp only [opA, hof, Option.bind_some, hx, hv, Option.map_some]
    · cases h
  | move x => simp only [opA, Option.some.injEq, Prod.mk.injEq] at h; obtain ⟨rfl, rfl⟩ := h; exact local_same nil_lt fun H2 _ => by simp only [opA]
  | assign x => simp only [opA, Option.some.injEq, Prod.mk.injEq] at h; obtain ⟨rfl, rfl⟩ := h; exact local_same nil_lt fun H2 _ => by simp only [opA]
  | build t p => simp only [opA, Option.map_eq_some_iff, Prod.mk.injEq] at h; obtain ⟨v', hv, rfl, rfl⟩ := h; exact local_same nil_lt fun H2 _ => by simp only [opA, hv, Option.map_some]
  | binOp a b c d e => simp only [opA, Option.map_eq_some_iff, Prod.mk.injEq] at h; obtain ⟨v', hv, rfl, rfl⟩ := h; exact local_same nil_lt fun H2 _ => by simp only [opA, hv, Option.map_some]
  | unOp a b c => simp only [opA, Option.map_eq_some_iff, Prod.mk.injEq] at h; obtain ⟨v', hv, rfl, rfl⟩ := h; exact local_same nil_lt fun H2 _ => by simp only [opA, hv, Option.map_some]
  | convert a b c => simp only [opA, Option.map_eq_some_iff, Prod.mk.injEq] at h; obtain ⟨v', hv, rfl, rfl⟩ := h; exact local_same nil_lt fun H2 _ => by simp only [opA, hv, Option.map_some]
  | index a b c => simp only [opA, Option.map_eq_some_iff, Prod.mk.injEq] at h; obtain ⟨v', hv, rfl, rfl⟩ := h; exact local_same nil_lt fun H2 _ => by simp only [opA, hv, Option.map_some]
  | extract a b => simp only [opA, Option.map_eq_some_iff, Prod.mk.injEq] at h; obtain ⟨v', hv, rfl, rfl⟩ := h; exact local_same nil_lt fun H2 _ => by simp only [opA, hv, Option.map_some]
  | _ => simp [opA] at h

/-- What an operation does hangs on its operands alone. -/
theorem opA_env {ρ ρ' : Env} {o : Op} {id : Nat} (h : ∀ x, x ∈ o.operands → evA G ρ x = evA G ρ' x) : opA P G ρ H id o = opA P G ρ' H id o := by
  have hparts : ∀ (ps : Array (Nat × Operand)), (∀ x, x ∈ (ps.toList.map (·.2)).toArray → evA G ρ x = evA G ρ' x) → ps.toList.map (fun p => (p.1, evA G ρ p.2)) = ps.toList.map (fun p => (p.1, evA G ρ' p.2)) := by
    intro ps hp
    refine List.map_congr_left fun p hpm => ?_
    rw [hp p.2 (by simpa using ⟨p.1, by simpa using hpm⟩)]
  have hlist : ∀ (ps : Array Operand), (∀ x, x ∈ ps → evA G ρ x = evA G ρ' x) → ps.toList.map (evA G ρ) = ps.toList.map (evA G ρ') := by
    intro ps hp
    exact List.map_congr_left fun p hpm => hp p (by simpa using hpm)
  cases o with
  | build t ps => simp only [opA]; rw [hparts ps h]
  | buildSlice t len ps => simp only [opA]; rw [hparts ps h]
  | makeFunc fn f c =>
    simp only [opA]
    rw [hlist f fun x hx => h x (by simp [Op.operands, hx]), hlist c fun x hx => h x (by simp [Op.operands, hx])]
  | slice t x lo hi mx =>
    have hx := h x (by simp [Op.operands])
    have hlo : lo.map (evA G ρ) = lo.map (evA G ρ') := by
      cases lo with
      | none => rfl
      | some l => simp only [Option.map_some]; rw [h l (by simp [Op.operands])]
    have hhi : hi.map (evA G ρ) = hi.map (evA G ρ') := by
      cases hi with
      | none => rfl
      | some l => simp only [Option.map_some]; rw [h l (by simp [Op.operands])]
    simp only [opA, hx, hlo, hhi]
  | call c =>
    simp only [opA]
    rw [hlist c.args fun x hx => h x (by
      simp only [Op.operands, Call.operands]
      split <;> simp [hx])]
  | pick c a b => simp only [opA, h c (by simp [Op.operands]), h a (by simp [Op.operands]), h b (by simp [Op.operands])]
  | store t a x => simp only [opA, h a (by simp [Op.operands]), h x (by simp [Op.operands])]
  | binOp op t x y u => simp only [opA, h x (by simp [Op.operands]), h y (by simp [Op.operands])]
  | makeSlice t l c => simp only [opA, h l (by simp [Op.operands]), h c (by simp [Op.operands])]
  | indexAddr t x i => simp only [opA, h x (by simp [Op.operands]), h i (by simp [Op.operands])]
  | index t x i => simp only [opA, h x (by simp [Op.operands]), h i (by simp [Op.operands])]
  | move x => simp only [opA, h x (by simp [Op.operands])]
  | assign x => simp only [opA, h x (by simp [Op.operands])]
  | box e x => simp only [opA, h x (by simp [Op.operands])]
  | load e x => simp only [opA, h x (by simp [Op.operands])]
  | nilCheck x => simp only [opA, h x (by simp [Op.operands])]
  | unOp a b x => simp only [opA, h x (by simp [Op.operands])]
  | convert a b x => simp only [opA, h x (by simp [Op.operands])]
  | makeInterface t x => simp only [opA, h x (by simp [Op.operands])]
  | fieldAddr s x f => simp only [opA, h x (by simp [Op.operands])]
  | field s x f => simp only [opA, h x (by simp [Op.operands])]
  | extract x i => simp only [opA, h x (by simp [Op.operands])]
  | _ => rfl

end Go.Hx
