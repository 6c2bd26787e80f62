/-
  The evaluator is right, second part: what it does with an operation. Own work: no program stands in this text.
-/
import Derived.Test.YtcccmbeolcjacaaHxZp
namespace Go.Hx
variable {E : EP} {ih : EvT} {rd : Option Nat} {d : Option Tmp} {k : BT AVal → EH → R} {env : BT AVal} {h : EH} {r : RR}

theorem ok_eff_new {v : AVal} {g : Nat} {e : TypeId} {c : List AVal} : ORok (.eff v h.nx g e c true) h := rfl

theorem parts_zip (parts : Array (Nat × Operand)) (f : Operand → AVal) : (parts.toList.map (·.1)).zip ((parts.toList.map (·.2)).map f) = parts.toList.map fun p => (p.1, f p.2) := by
  induction parts.toList with
  | nil => rfl
  | cons p l ih => simp only [List.map_cons, List.zip_cons_cons, ih]

theorem lay_new {H H' : AHeap} {b : Blk} (h : H.lay H.next b = some H') : H' = ⟨fun j => if j = H.next then some b else H.get j, H.next + 1⟩ := by
  unfold AHeap.lay at h
  rw [if_pos rfl] at h
  exact (Option.some.inj h).symm

theorem optH_new {x : Option (AVal × AHeap)} {v : AVal} {H' : AHeap} (hx : ∀ u H2, x = some (u, H2) → ∃ g e c, H2 = ⟨fun j => if j = h.nx then some (.arr g e c) else (toH h).get j, h.nx + 1⟩) :
    ORok (optH h.nx true x) h ∧ (ORrel (optH h.nx true x) h v H' → x = some (v, H')) := by
  unfold optH
  split
  · rename_i u H2
    obtain ⟨g, e, c, rfl⟩ := hx u H2 rfl
    simp only [effH, if_true]
    refine ⟨rfl, fun hr => ?_⟩
    obtain ⟨rfl, rfl⟩ := hr
    rfl
  · exact ⟨trivial, fun hr => hr.elim⟩

theorem plain_move {x : Operand} (hv : VH h) (hr : rMove x E ih rd d k env h = some r) : Plain E.P E.G (.move x) d k env h r := by
  unfold rMove at hr
  rw [evO_eq] at hr
  exact plain_putE hv rfl hr
theorem plain_assign {x : Operand} (hv : VH h) (hr : rMove x E ih rd d k env h = some r) : Plain E.P E.G (.assign x) d k env h r := by
  unfold rMove at hr
  rw [evO_eq] at hr
  exact plain_putE hv rfl hr
theorem plain_box {e : TypeId} {x : Operand} (hv : VH h) (hr : rBox e x E ih rd d k env h = some r) : Plain E.P E.G (.box e x) d k env h r := by
  unfold rBox at hr
  rw [evO_eq] at hr
  refine plain_putK hv ok_eff_new (fun v H' hx => ?_) hr
  obtain ⟨rfl, rfl⟩ := hx
  show ((toH h).lay (toH h).next (.arr 0 e (evA E.G (toE env) x).cells)).map (fun H' => (AVal.ptr h.nx 0 0, H')) = _
  unfold AHeap.lay
  rw [if_pos rfl]
  rfl
theorem plain_build {t : TypeId} {parts : Array (Nat × Operand)} (hv : VH h) (hr : rBuild t parts E ih rd d k env h = some r) : Plain E.P E.G (.build t parts) d k env h r := by
  unfold rBuild at hr
  rw [evOs_eq, parts_zip] at hr
  exact plain_opt hv rfl hr
theorem plain_buildSlice {t : TypeId} {len : Nat} {parts : Array (Nat × Operand)} (hv : VH h) (hr : rBuildSlice t len parts E ih rd d k env h = some r) : Plain E.P E.G (.buildSlice t len parts) d k env h r := by
  unfold rBuildSlice at hr
  rw [evOs_eq, parts_zip] at hr
  have hform : ∀ u H2, buildSliceA E.P (toH h) h.nx t len (parts.toList.map fun p => (p.1, evA E.G (toE env) p.2)) = some (u, H2) → ∃ e c, H2 = ⟨fun j => if j = h.nx then some (.arr 0 e c) else (toH h).get j, h.nx + 1⟩ := by
    intro u H2 hb
    unfold buildSliceA at hb
    split at hb
    · split at hb
      · simp only [Option.bind_eq_some_iff, Option.map_eq_some_iff, Prod.mk.injEq] at hb
        obtain ⟨z, _, c, _, H3, hl, _, rfl⟩ := hb
        exact ⟨_, _, lay_new hl⟩
      · cases hb
    · cases hb
  refine plain_putK hv ?_ (fun v H' hx => ?_) hr
  · unfold genF
    split
    · trivial
    · rename_i u H2 hb
      obtain ⟨e, c, rfl⟩ := hform _ _ hb
      simp only [if_true, show Nat.beq h.nx h.nx = true from Nat.beq_refl _]
      rfl
  · unfold genF at hx
    split at hx
    · exact hx.elim
    · rename_i u H2 hb
      obtain ⟨e, c, rfl⟩ := hform _ _ hb
      simp only [if_true, show Nat.beq h.nx h.nx = true from Nat.beq_refl _] at hx
      obtain ⟨rfl, rfl⟩ := hx
      exact hb
theorem plain_load {t : TypeId} {a : Operand} (hv : VH h) (hr : rLoad t a E ih rd d k env h = some r) : Plain E.P E.G (.load t a) d k env h r := by
  unfold rLoad at hr
  rw [evO_eq] at hr
  refine plain_putK hv (ORok_opt _ _) (fun v H' hx => ?_) hr
  obtain ⟨h1, rfl⟩ := ORrel_opt hx
  show (loadA E.P (toH h) t (evA E.G (toE env) a)).map _ = _
  rw [loadF_some h1]
  rfl
theorem storeF_ok {P : Program} {t : TypeId} {a v : AVal} (hv : VH h) : ORok (storeF P h t a v) h := by
  unfold storeF
  split
  · rename_i id gen off
    split
    · rename_i g e cells hg
      cases hb : Nat.beq g gen with
      | false => trivial
      | true =>
        simp only
        split
        · show id < h.nx
          exact hv _ _ hg
        · trivial
    · trivial
  · trivial
theorem plain_store {t : TypeId} {a x : Operand} (hv : VH h) (hr : rStore t a x E ih rd d k env h = some r) : Plain E.P E.G (.store t a x) d k env h r := by
  unfold rStore at hr
  cases hu : (E.P.underlying t).isSome with
  | false => rw [hu] at hr; cases hr
  | true =>
    rw [hu] at hr
    have hr' : (evO E.G env a fun a => evO E.G env x fun v => putK d k env (storeF E.P h t a v) h) = some r := hr
    rw [evO_eq, evO_eq] at hr'
    refine plain_putK hv ?_ (fun v H' hx => ?_) hr'
    · exact storeF_ok hv
    · obtain ⟨rfl, h2⟩ := storeF_rel hx
      show (if (E.P.underlying t).isSome then (storeA E.P (toH h) t (evA E.G (toE env) a) (evA E.G (toE env) x)).map (fun H' => (AVal.lit undef, H')) else none) = _
      rw [if_pos hu, h2]
      rfl
/-- A slice beside nil. -/
def NilCmp (P : Program) (G : Nat → Option (List AVal)) (o : Op) (d : Option Tmp) (k : BT AVal → EH → R) (env : BT AVal) (h : EH) (r : RR) : Prop :=
  ∃ op t x y u env', o = .binOp op t x y u ∧ nilOf op (evA G (toE env) x) (evA G (toE env) y) = some true ∧ sliceT (P.underlying t) = true ∧ toE env' = putA (toE env) d (.lit (.bool (op == .neq))) ∧ k env' h = some r

theorem plain_bin {op : BinOp} {t : TypeId} {x y : Operand} {u : TypeId} (hv : VH h) (hr : rBin op t x y u E ih rd d k env h = some r) : Plain E.P E.G (.binOp op t x y u) d k env h r ∨ NilCmp E.P E.G (.binOp op t x y u) d k env h r := by
  unfold rBin at hr
  rw [evO_eq, evO_eq] at hr
  have hop : opA E.P E.G (toE env) (toH h) h.nx (.binOp op t x y u) = (binA E.P op t x y (evA E.G (toE env) x) (evA E.G (toE env) y)).map fun v => (v, toH h) := rfl
  unfold binK at hr
  split at hr
  · rename_i kd a kd' b ha hb
    rw [ha, hb] at hop
    left
    cases hk : Nat.beq (kindN kd) (kindN kd') with
    | false => rw [hk] at hr; exact plain_opt hv hop hr
    | true =>
      rw [hk] at hr
      obtain rfl := kindN_inj hk
      have hr' : Option.rec (motive := fun _ => R) (binG E op t x y (.lit (.int kd a)) (.lit (.int kd b)) d k env h) (fun f => f kd a b d k env h) (intsR op) = some r := hr
      cases hi : intsR op with
      | none =>
        rw [hi] at hr'
        exact plain_opt hv hop hr'
      | some f =>
        rw [hi] at hr'
        obtain ⟨v, env', h1, h2, h3⟩ := intsR_some (P := E.P) (t := t) (x := x) (y := y) hi hr'
        refine ⟨v, env', h, ?_, hv, h2, h3⟩
        rw [hop, h1]
        rfl
  · unfold binN at hr
    split at hr
    · exact .inl (plain_opt hv hop hr)
    · rename_i hn
      right
      cases hs : sliceT (E.P.underlying t) with
      | false => rw [hs] at hr; cases hr
      | true =>
        rw [hs] at hr
        obtain ⟨env', h1, h2⟩ := putB_some (show putB d k env h (op == .neq) = some r from hr)
        exact ⟨op, t, x, y, u, env', rfl, hn, hs, h1, h2⟩
    · cases hr
theorem plain_make {fn : Fn} {first cap : Array Operand} (hv : VH h) (hr : rMake fn first cap E ih rd d k env h = some r) : Plain E.P E.G (.makeFunc fn first cap) d k env h r := by
  unfold rMake at hr
  split at hr
  · rw [evOs_eq, evOs_eq] at hr
    exact plain_putE hv rfl hr
  · cases hr
theorem plain_indexAddr {t : TypeId} {x i : Operand} (hv : VH h) (hr : rIndexAddr t x i E ih rd d k env h = some r) : Plain E.P E.G (.indexAddr t x i) d k env h r := by
  unfold rIndexAddr at hr
  rw [evO_eq, evO_eq] at hr
  refine plain_opt hv ?_ hr
  simp only [opA, indexAddrV]
  split
  · rename_i heq; rw [heq]
  · rename_i hne
    split
    · rename_i heq; exact absurd heq (hne _ _)
    · rfl
theorem plain_pick {c a b : Operand} (hv : VH h) (hr : rPick c a b E ih rd d k env h = some r) : Plain E.P E.G (.pick c a b) d k env h r := by
  unfold rPick at hr
  rw [evO_eq] at hr
  split at hr
  · rename_i t hc
    have hop : ∀ t', evA E.G (toE env) c = .lit (.bool t') → opA E.P E.G (toE env) (toH h) h.nx (.pick c a b) = some (if t' then evA E.G (toE env) a else evA E.G (toE env) b, toH h) := fun t' ht => by
      simp only [opA, ht]
    cases t with
    | false =>
      have hr' : (evO E.G env b fun v => putE env d v fun env => k env h) = some r := hr
      rw [evO_eq] at hr'
      exact plain_putE hv (hop _ hc) hr'
    | true =>
      have hr' : (evO E.G env a fun v => putE env d v fun env => k env h) = some r := hr
      rw [evO_eq] at hr'
      exact plain_putE hv (hop _ hc) hr'
  · cases hr
theorem plain_alloc {e : TypeId} (hv : VH h) (hr : rAlloc e E ih rd d k env h = some r) : Plain E.P E.G (.alloc e) d k env h r := by
  unfold rAlloc at hr
  split at hr
  · rename_i z hz
    refine plain_putK hv ok_eff_new (fun v H' hx => ?_) hr
    obtain ⟨rfl, rfl⟩ := hx
    show ((zeroA E.P e).bind fun z => ((toH h).lay (toH h).next (.arr 0 e z)).map fun H' => (AVal.ptr h.nx 0 0, H')) = _
    rw [hz]
    show ((toH h).lay (toH h).next (.arr 0 e z)).map _ = _
    unfold AHeap.lay
    rw [if_pos rfl]
    rfl
  · cases hr
theorem plain_nilCheck {x : Operand} (hv : VH h) (hr : rNilCheck x E ih rd d k env h = some r) : Plain E.P E.G (.nilCheck x) d k env h r := by
  unfold rNilCheck at hr; rw [evO_eq] at hr; exact plain_opt hv rfl hr
theorem plain_un {op : UnOp} {t : TypeId} {x : Operand} (hv : VH h) (hr : rUn op t x E ih rd d k env h = some r) : Plain E.P E.G (.unOp op t x) d k env h r := by
  unfold rUn at hr; rw [evO_eq] at hr; exact plain_opt hv rfl hr
theorem plain_conv {s t : TypeId} {x : Operand} (hv : VH h) (hr : rConv s t x E ih rd d k env h = some r) : Plain E.P E.G (.convert s t x) d k env h r := by
  unfold rConv at hr; rw [evO_eq] at hr; exact plain_opt hv rfl hr
theorem plain_extract {t : Operand} {i : Nat} (hv : VH h) (hr : rExtract t i E ih rd d k env h = some r) : Plain E.P E.G (.extract t i) d k env h r := by
  unfold rExtract at hr; rw [evO_eq] at hr; exact plain_opt hv rfl hr
theorem plain_index {t : TypeId} {x i : Operand} (hv : VH h) (hr : rIndex t x i E ih rd d k env h = some r) : Plain E.P E.G (.index t x i) d k env h r := by
  unfold rIndex at hr; rw [evO_eq, evO_eq] at hr; exact plain_opt hv rfl hr
theorem plain_field {t : TypeId} {x : Operand} {f : Nat} (hv : VH h) (hr : rField t x f E ih rd d k env h = some r) : Plain E.P E.G (.field t x f) d k env h r := by
  unfold rField at hr; rw [evO_eq] at hr
  refine plain_opt hv ?_ hr
  simp only [opA, fieldVA]
  cases fieldA E.P t f with
  | none => rfl
  | some of =>
    simp only [Option.bind_some]
    generalize evA E.G (toE env) x = v
    cases v with
    | lit v => cases v <;> rfl
    | _ => rfl
theorem plain_fieldAddr {t : TypeId} {x : Operand} {f : Nat} (hv : VH h) (hr : rFieldAddr t x f E ih rd d k env h = some r) : Plain E.P E.G (.fieldAddr t x f) d k env h r := by
  unfold rFieldAddr at hr; rw [evO_eq] at hr
  refine plain_opt hv ?_ hr
  simp only [opA, fieldAddrA]
  cases fieldA E.P t f with
  | none => rfl
  | some of =>
    simp only [Option.bind_some]
    generalize evA E.G (toE env) x = v
    cases v with
    | ptr id gen off =>
      show Option.map _ ((toH h).live id gen) = Option.map _ (Option.map _ ((toH h).live id gen))
      rw [Option.map_map]
      rfl
    | _ => rfl
theorem plain_makeSlice {t : TypeId} {l c : Operand} (hv : VH h) (hr : rMakeSlice t l c E ih rd d k env h = some r) : Plain E.P E.G (.makeSlice t l c) d k env h r := by
  unfold rMakeSlice at hr; rw [evO_eq, evO_eq] at hr
  have hform : ∀ u H2, makeSliceA E.P (toH h) h.nx t (evA E.G (toE env) l) (evA E.G (toE env) c) = some (u, H2) → ∃ g e c, H2 = ⟨fun j => if j = h.nx then some (.arr g e c) else (toH h).get j, h.nx + 1⟩ := by
    intro u H2 hb
    unfold makeSliceA at hb
    split at hb
    · split at hb
      · simp only [Option.bind_eq_some_iff, Option.map_eq_some_iff, Prod.mk.injEq] at hb
        obtain ⟨z, _, H3, hl, _, rfl⟩ := hb
        exact ⟨_, _, _, lay_new hl⟩
      · cases hb
    · cases hb
  exact plain_putK hv (optH_new (v := .lit undef) (H' := toH h) hform).1 (fun v H' hx => (optH_new hform).2 hx) hr
theorem plain_slice {t : TypeId} {x : Operand} {l u m : Option Operand} (hv : VH h) (hr : rSlice t x l u m E ih rd d k env h = some r) : Plain E.P E.G (.slice t x l u m) d k env h r := by
  unfold rSlice at hr
  split at hr
  · rw [evO_eq, evOo_eq, evOo_eq] at hr
    exact plain_opt hv rfl hr
  · cases hr
theorem plain_len {c : Call} {t : TypeId} {x : Operand} (hb : c.callee = .builtin .len) (ht : c.argTypes.toList = [t]) (ha : c.args.toList = [x]) (hv : VH h) (hr : rLen t x E ih rd d k env h = some r) : Plain E.P E.G (.call c) d k env h r := by
  unfold rLen at hr; rw [evO_eq] at hr
  refine plain_opt hv ?_ hr
  simp only [opA, hb, ht, ha]
  rfl

theorem append_own {P : Program} {H H' : AHeap} {nx : Nat} {t u : TypeId} {id g o l z : Nat} {x v : AVal} (hr : appendA P H nx t u (.own id g o l z) x = some (v, H')) :
    (v = .own id g o l z ∧ H' = H) ∨ ∃ l' e c, v = .own id (g + 1) 0 l' z ∧ H' = H.upd id (.arr (g + 1) e c) ∧ ∃ e0 c0, H.live id g = some (e0, c0) := by
  unfold appendA at hr
  split at hr
  · split at hr
    · simp only [Option.bind_eq_some_iff] at hr
      obtain ⟨_, _, nx', _, ec, hl, hr⟩ := hr
      split at hr
      · split at hr
        · simp only [Option.some.injEq, Prod.mk.injEq] at hr
          exact .inl ⟨hr.1.symm, hr.2.symm⟩
        · simp only [Option.some.injEq, Prod.mk.injEq] at hr
          exact .inr ⟨_, _, _, hr.1.symm, hr.2.symm, ec.1, ec.2, hl⟩
      · cases hr
    · cases hr
  · cases hr
theorem append_nil {P : Program} {H H' : AHeap} {t u : TypeId} {s x v : AVal} (hs : ∀ a b c d e, s ≠ .own a b c d e) (hr : appendA P H H.next t u s x = some (v, H')) :
    (v = .lit (.slice none 0 0) ∧ H' = H) ∨ ∃ l z e c, v = .own H.next 0 0 l z ∧ H' = ⟨fun j => if j = H.next then some (.arr 0 e c) else H.get j, H.next + 1⟩ := by
  unfold appendA at hr
  split at hr
  · split at hr
    · simp only [Option.bind_eq_some_iff] at hr
      obtain ⟨_, _, nx', _, hr⟩ := hr
      split at hr
      · split at hr
        · simp only [Option.some.injEq, Prod.mk.injEq] at hr
          exact .inl ⟨hr.1.symm, hr.2.symm⟩
        · split at hr
          · simp only [Option.map_eq_some_iff, Prod.mk.injEq] at hr
            obtain ⟨H3, hl, h1, rfl⟩ := hr
            exact .inr ⟨_, _, _, _, h1.symm, lay_new hl⟩
          · cases hr
      · exact absurd rfl (hs _ _ _ _ _)
      · cases hr
    · cases hr
  · cases hr

theorem plain_app {c : Call} {t u : TypeId} {s x : Operand} (hb : c.callee = .builtin .append) (ht : c.argTypes.toList = [t, u]) (ha : c.args.toList = [s, x]) (hv : VH h) (hr : rApp t u s x E ih rd d k env h = some r) : Plain E.P E.G (.call c) d k env h r := by
  unfold rApp at hr; rw [evO_eq, evO_eq] at hr
  have hop : opA E.P E.G (toE env) (toH h) h.nx (.call c) = appendA E.P (toH h) h.nx t u (evA E.G (toE env) s) (evA E.G (toE env) x) := by
    simp only [opA, hb, ht, ha]
    rfl
  generalize evA E.G (toE env) s = sv at hr hop
  generalize evA E.G (toE env) x = xv at hr hop
  unfold appK at hr
  split at hr
  · rename_i id g o l z
    split at hr
    · rename_i g' o' l' z' H' happ
      rename_i id'
      have happ0 := happ
      rcases append_own happ with ⟨h1, rfl⟩ | ⟨l2, e, c2, h1, rfl, e0, c0, hlive⟩
      · simp only [AVal.own.injEq] at h1
        obtain ⟨rfl, rfl, rfl, rfl, rfl⟩ := h1
        have hb2 : Nat.beq g' g' = true := Nat.beq_refl _
        rw [hb2] at hr
        refine plain_putK (x := .val (.own id' g' o' l' z')) hv trivial (fun v H'' hx => ?_) hr
        obtain ⟨rfl, rfl⟩ := hx
        rw [hop, happ0]
      · simp only [AVal.own.injEq] at h1
        obtain ⟨rfl, rfl, rfl, rfl, rfl⟩ := h1
        have hne : Nat.beq (g + 1) g = false := by
          cases hbq : Nat.beq (g + 1) g with
          | false => rfl
          | true => have := Nat.eq_of_beq_eq_true hbq; omega
        rw [hne] at hr
        have hr' : putK d k env (effH (.own id' (g + 1) 0 l' z') id' false (((toH h).upd id' (.arr (g + 1) e c2)).get id')) h = some r := hr
        have hget : ((toH h).upd id' (.arr (g + 1) e c2)).get id' = some (.arr (g + 1) e c2) := by simp [AHeap.upd]
        rw [hget] at hr'
        refine plain_putK (x := .eff (.own id' (g + 1) 0 l' z') id' (g + 1) e c2 false) hv ?_ (fun v H'' hx => ?_) hr'
        · show id' < h.nx
          exact live_lt hv.wf hlive
        · obtain ⟨rfl, rfl⟩ := hx
          rw [hop, happ0]
          rfl
    · cases hr
  · rename_i hs
    split at hr
    · rename_i id' g' o' l' z' H' happ
      rcases append_nil (H := toH h) (fun a b c d e he => hs a b c d e he) happ with ⟨h1, _⟩ | ⟨l2, z2, e, c2, h1, h2⟩
      · cases h1
      · have hget : H'.get h.nx = some (.arr 0 e c2) := by
          rw [h2]
          show (if h.nx = h.nx then some (Blk.arr 0 e c2) else _) = _
          rw [if_pos rfl]
        rw [hget] at hr
        refine plain_putK (x := .eff (.own id' g' o' l' z') h.nx 0 e c2 true) hv rfl (fun v H'' hx => ?_) hr
        obtain ⟨rfl, rfl⟩ := hx
        rw [hop, happ, h2]
        rfl
    · rename_i v H' happ
      rcases append_nil (H := toH h) (fun a b c d e he => hs a b c d e he) happ with ⟨h1, h2⟩ | ⟨l2, z2, e, c2, h1, h2⟩
      · refine plain_putK (x := .val (.lit v)) hv trivial (fun v H'' hx => ?_) hr
        obtain ⟨rfl, rfl⟩ := hx
        rw [hop, happ, h2]
      · cases h1
    · cases hr

theorem rBuiltin_cases (c : Call) (b : Builtin) : (∃ t x, b = .len ∧ c.argTypes.toList = [t] ∧ c.args.toList = [x] ∧ rBuiltin c b = rLen t x) ∨
    (∃ t u s x, b = .append ∧ c.argTypes.toList = [t, u] ∧ c.args.toList = [s, x] ∧ rBuiltin c b = rApp t u s x) ∨ rBuiltin c b = rGen (.call c) := by
  unfold rBuiltin
  split
  · rename_i t x h1 h2; exact .inl ⟨t, x, rfl, h1, h2, rfl⟩
  · rename_i t u s x h1 h2; exact .inr (.inl ⟨t, u, s, x, rfl, h1, h2, rfl⟩)
  · exact .inr (.inr rfl)

/-- What the evaluator does with an operation. -/
theorem runOp_cases {o : Op} (hv : VH h) (hr : runOp o E ih rd d k env h = some r) :
    Plain E.P E.G o d k env h r ∨ NilCmp E.P E.G o d k env h r ∨ (∃ fv args ats, o = .call ⟨.value fv, args, ats⟩ ∧ rValue fv args E ih rd d k env h = some r) ∨ (∃ x, o = .panic x ∧ rPanic x E ih rd d k env h = some r) := by
  cases o with
  | move x => exact .inl (plain_move hv (show rMove x E ih rd d k env h = some r from hr))
  | assign x => exact .inl (plain_assign hv (show rMove x E ih rd d k env h = some r from hr))
  | pick c a b => exact .inl (plain_pick hv (show rPick c a b E ih rd d k env h = some r from hr))
  | alloc e => exact .inl (plain_alloc hv (show rAlloc e E ih rd d k env h = some r from hr))
  | box e x => exact .inl (plain_box hv (show rBox e x E ih rd d k env h = some r from hr))
  | build t parts => exact .inl (plain_build hv (show rBuild t parts E ih rd d k env h = some r from hr))
  | buildSlice t l parts => exact .inl (plain_buildSlice hv (show rBuildSlice t l parts E ih rd d k env h = some r from hr))
  | load t a => exact .inl (plain_load hv (show rLoad t a E ih rd d k env h = some r from hr))
  | store t a x => exact .inl (plain_store hv (show rStore t a x E ih rd d k env h = some r from hr))
  | nilCheck x => exact .inl (plain_nilCheck hv (show rNilCheck x E ih rd d k env h = some r from hr))
  | binOp op t x y u => exact (plain_bin hv (show rBin op t x y u E ih rd d k env h = some r from hr)).elim .inl fun h => .inr (.inl h)
  | unOp op t x => exact .inl (plain_un hv (show rUn op t x E ih rd d k env h = some r from hr))
  | convert s t x => exact .inl (plain_conv hv (show rConv s t x E ih rd d k env h = some r from hr))
  | makeInterface t x => exact .inl (plain_gen hv (show rGen (.makeInterface t x) E ih rd d k env h = some r from hr))
  | makeFunc fn a b => exact .inl (plain_make hv (show rMake fn a b E ih rd d k env h = some r from hr))
  | makeSlice t l c => exact .inl (plain_makeSlice hv (show rMakeSlice t l c E ih rd d k env h = some r from hr))
  | slice t x l u m => exact .inl (plain_slice hv (show rSlice t x l u m E ih rd d k env h = some r from hr))
  | fieldAddr t x f => exact .inl (plain_fieldAddr hv (show rFieldAddr t x f E ih rd d k env h = some r from hr))
  | field t x f => exact .inl (plain_field hv (show rField t x f E ih rd d k env h = some r from hr))
  | indexAddr t x i => exact .inl (plain_indexAddr hv (show rIndexAddr t x i E ih rd d k env h = some r from hr))
  | index t x i => exact .inl (plain_index hv (show rIndex t x i E ih rd d k env h = some r from hr))
  | extract t i => exact .inl (plain_extract hv (show rExtract t i E ih rd d k env h = some r from hr))
  | panic x => exact .inr (.inr (.inr ⟨x, rfl, hr⟩))
  | call c =>
    have hr' : rCall c E ih rd d k env h = some r := hr
    obtain ⟨callee, args, ats⟩ := c
    cases callee with
    | value fv => exact .inr (.inr (.inl ⟨fv, args, ats, rfl, hr'⟩))
    | builtin b =>
      refine .inl ?_
      have hr2 : rBuiltin ⟨.builtin b, args, ats⟩ b E ih rd d k env h = some r := hr'
      rcases rBuiltin_cases ⟨.builtin b, args, ats⟩ b with ⟨t, x, rfl, h1, h2, h3⟩ | ⟨t, u, s, x, rfl, h1, h2, h3⟩ | h3
      · rw [h3] at hr2; exact plain_len rfl h1 h2 hv hr2
      · rw [h3] at hr2; exact plain_app rfl h1 h2 hv hr2
      · rw [h3] at hr2; exact plain_gen hv hr2
    | invoke a b => cases hr'
  | _ => cases hr
end Go.Hx
