/- Own work: contracts. -/
import Derived.Test.YtikgmgmphkalkaaDoorConB
import Derived.Test.YtikgmgmphkalkaaDoorConC
set_option linter.all false
set_option maxRecDepth 100000
namespace Go.Hx
open Go.Proofs (get_lt get_of_lt)
variable {P : Program} {H : AHeap} {G : Nat → Option (List AVal)}
def OwnD2 (lo : Nat) (H : AHeap) (e1 e0 : TypeId) (v : AVal) (rows : List (List AVal)) : Prop :=
  ∃ cs : List AVal, OwnG lo H e1 v cs ∧ cs.length = rows.length ∧ (∀ (j : Nat) (r : List AVal) (c : AVal), rows[j]? = some r → cs[j]? = some c → OwnG lo H e0 c r) ∧ ∀ (i j a g g' n n' : Nat), cs[i]? = some (.own a g 0 n 1) → cs[j]? = some (.own a g' 0 n' 1) → i = j
theorem OwnD2.nil {lo : Nat} {e1 e0 : TypeId} : OwnD2 lo H e1 e0 (.lit (.slice none 0 0)) [] := ⟨[], .nil, rfl, fun j r c h => by simp at h, fun i j a g g' n n' h => by simp at h⟩
theorem OwnD2.toG {lo : Nat} {e1 e0 : TypeId} {v : AVal} {rows : List (List AVal)} (h : OwnD2 lo H e1 e0 v rows) : OwnG2 lo H e1 e0 v rows :=
  let ⟨cs, a, b, c, _⟩ := h; ⟨cs, a, b, c⟩
theorem OwnD2.lo {lo lo' : Nat} {e1 e0 : TypeId} {v : AVal} {rows : List (List AVal)} (h : OwnD2 lo H e1 e0 v rows) (hl : lo' ≤ lo) : OwnD2 lo' H e1 e0 v rows :=
  let ⟨cs, a, b, c, d⟩ := h; ⟨cs, a.keep hl (Nat.le_refl _) fun _ _ _ _ _ _ => rfl, b, fun j r q h1 h2 => (c j r q h1 h2).keep hl (Nat.le_refl _) fun _ _ _ _ _ _ => rfl, d⟩
theorem OwnD2.app {Hx : AHeap} {lo n : Nat} {e1 e0 : TypeId} {v x : AVal} {rows : List (List AVal)} {r : List AVal} {t : TypeId} {z : List AVal} (ht : P.underlying t = some (.slice e1)) (hz : P.cellsOf e1 = 1) (hzero : zeroA P e1 = some z) (hby : P.bytesOf e1 = 24) (hne : e1 ≠ e0)
    (hb : rows.length < 2 ^ 40) (h : OwnD2 lo Hx e1 e0 v rows) (ho : Over Hx H) (hlo : lo ≤ Hx.next) (hx : OwnG Hx.next H e0 x r) (hn : n = H.next + 1) :
    ∃ v' H', appendA P (ext H [.arr 0 e1 [x]]) n t t v (.own H.next 0 0 1 1) = some (v', H') ∧ OwnD2 lo H' e1 e0 v' (rows ++ [r]) ∧ H.next ≤ H'.next ∧ (∀ k, k < H.next → k < lo → H'.get k = H.get k) := by
  obtain ⟨cs, h1, h2, h3, h4⟩ := h
  have hon := ho.next
  have h1' := h1.over ho
  obtain ⟨v', H', hA, hO, hL, hp⟩ := app_oneG (P := P) (t := t) ht hz hzero hx.one (by rw [hby, h2]; omega) h1' (by omega) hn
  have key : ∀ lo' u l, OwnG lo' H e0 u l → OwnG lo' H' e0 u l := fun lo' u l hu => h1'.otherE hu hne hL hp
  have split : ∀ (j : Nat) (c : AVal), (cs ++ [x])[j]? = some c → (j < cs.length ∧ cs[j]? = some c) ∨ (j = cs.length ∧ c = x) := fun j c hc => by
    rcases Nat.lt_or_ge j cs.length with hj | hj
    · rw [List.getElem?_append_left hj] at hc
      exact .inl ⟨hj, hc⟩
    · have := get_lt hc
      rw [List.length_append, List.length_singleton] at this
      have hj : j = cs.length := by omega
      subst hj
      rw [List.getElem?_append_right (Nat.le_refl _), Nat.sub_self] at hc
      exact .inr ⟨rfl, (Option.some.inj hc).symm⟩
  have old : ∀ (j a g m : Nat), cs[j]? = some (.own a g 0 m 1) → a < Hx.next := fun j a g m hc => by
    obtain ⟨r', hr'⟩ : ∃ r', rows[j]? = some r' := ⟨_, List.getElem?_eq_getElem (by rw [← h2]; exact get_lt hc)⟩
    rcases h3 j r' _ hr' hc with ⟨e, _⟩ | ⟨i, g', _, b, e, _⟩
    · cases e
    · rw [(AVal.own.inj e).1]; exact b
  have new : ∀ a g m, x = .own a g 0 m 1 → Hx.next ≤ a := fun a g m he => by
    rcases hx with ⟨e, _⟩ | ⟨i, g', b, _, e, _⟩
    · rw [e] at he; cases he
    · rw [e] at he; rw [← (AVal.own.inj he).1]; exact b
  refine ⟨v', H', hA, ⟨cs ++ [x], hO, by simp [h2], fun j r' c hr hc => ?_, fun i j a g g' m m' hi hj => ?_⟩, hL, fun k hk hkl => hp k hk (h1.ne hkl)⟩
  · rcases split j c hc with ⟨a, b⟩ | ⟨a, b⟩
    · rw [List.getElem?_append_left (by omega)] at hr
      exact key _ _ _ ((h3 j r' c hr b).over ho)
    · rw [a, h2, List.getElem?_append_right (Nat.le_refl _), Nat.sub_self] at hr
      cases hr
      rw [b]
      exact key _ _ _ (hx.keep hlo (Nat.le_refl _) fun _ _ _ _ _ _ => rfl)
  · rcases split i _ hi with ⟨a1, b1⟩ | ⟨a1, b1⟩ <;> rcases split j _ hj with ⟨a2, b2⟩ | ⟨a2, b2⟩
    · exact h4 i j a g g' m m' b1 b2
    · have := old i a g m b1
      have := new a g' m' b2.symm
      omega
    · have := old j a g' m' b2
      have := new a g m b1.symm
      omega
    · omega
theorem OwnD2.row {lo : Nat} {e1 e0 : TypeId} {v : AVal} {rows : List (List AVal)} (h : OwnD2 lo H e1 e0 v rows) (hne : e1 ≠ e0) {k : Nat} {r : List AVal} (hr : rows[k]? = some r) (h0 : r ≠ []) :
    ∃ idt gt idr gr cells, v = .own idt gt 0 rows.length 1 ∧ H.get idt = some (.arr gt e1 cells) ∧ cells.length = rows.length ∧ lo ≤ idt ∧ idt < H.next ∧ cells[k]? = some (.own idr gr 0 r.length 1) ∧ H.get idr = some (.arr gr e0 r) ∧ lo ≤ idr ∧ idr < H.next ∧
      ∀ r' : List AVal, r'.length = r.length → OwnD2 lo (H.upd idr (.arr gr e0 r')) e1 e0 v (rows.set k r') := by
  obtain ⟨cs, h1, h2, h3, h4⟩ := h
  have hk := get_lt hr
  obtain ⟨c, hc⟩ := get_of_lt (l := cs) (i := k) (by omega)
  rcases h3 k r c hr hc with ⟨_, e⟩ | ⟨idr, gr, a1, a2, e, a4⟩
  · exact absurd e h0
  rcases h1 with ⟨_, e'⟩ | ⟨idt, gt, b1, b2, e', b4⟩
  · rw [e'] at h2; simp at h2; omega
  subst e
  have hit : idt ≠ idr := fun e => by rw [e, a4] at b4; cases b4; exact hne rfl
  refine ⟨idt, gt, idr, gr, cs, by rw [e', h2], b4, h2, b1, b2, hc, a4, a1, a2, fun r' hl => ⟨cs, .inr ⟨idt, gt, b1, by rw [upd_next]; exact b2, e', by rw [upd_get, if_neg hit]; exact b4⟩, by rw [List.length_set]; exact h2, fun j q c' hj hc' => ?_, h4⟩⟩
  by_cases e : j = k
  · subst e
    rw [List.getElem?_set_self hk] at hj
    rw [hc] at hc'
    cases hj
    cases hc'
    exact .inr ⟨idr, gr, a1, by rw [upd_next]; exact a2, by rw [hl], by rw [upd_get, if_pos rfl]⟩
  · rw [List.getElem?_set_ne (fun h => e h.symm)] at hj
    refine (h3 j q c' hj hc').keep (Nat.le_refl _) (by rw [upd_next]; exact Nat.le_refl _) fun i g _ _ _ hv => ?_
    rw [upd_get, if_neg]
    rintro rfl
    rw [hv] at hc'
    exact e (h4 j k i g gr _ _ hc' hc)
theorem WeakS.cutE (hG : GOk G) {s : St} {n t0 : Nat} {v' : AVal} (hv : Fz (fun id => n ≤ id) s.H s.H.next (s.ρ t0) v') : WeakS P G s ⟨fun t => if t = t0 then v' else s.ρ t, s.H.cut n⟩ := by
  intro m wb Γ a w hs
  refine WeakS.freeze (s := s) (s' := ⟨fun t => if t = t0 then v' else s.ρ t, s.H.cut n⟩) hG (fzH_cut hs.heap.clo n) (fun t => ?_) m wb Γ a w hs
  by_cases h : t = t0
  · subst h
    simp only [if_true]
    exact hv
  · simp only [h, if_false]
    exact .dead (hs.env t).belowN
end Go.Hx
namespace Go.Proofs
open Go.Hx
theorem fz_rows {S : Nat → Prop} {lo nx : Nat} {H : AHeap} {e1 e0 : TypeId} {v : AVal} {ps : List (List Int)} (h : OwnG2 lo H e1 e0 v (ps.map ints)) (hS : ∀ i, lo ≤ i → S i) : Fz S H nx v (vecV ps) := by
  have := h.fz (S := S) (nx := nx) (rows' := ps.map ints) hS rfl fun j r r' h1 h2 => by
    rw [h1] at h2
    cases h2
    refine ⟨rfl, fun i hi _ => ?_⟩
    rw [List.getElem?_map] at h1
    obtain ⟨z, _, rfl⟩ := Option.map_eq_some_iff.1 h1
    have e0 : (ints z)[i]? = some (ints z)[i] := List.getElem?_eq_getElem hi
    generalize (ints z)[i] = a at e0 ⊢
    rw [ints_get] at e0
    obtain ⟨b, _, rfl⟩ := Option.map_eq_some_iff.1 e0
    exact .lit _
  rw [List.length_map, List.map_map] at this
  have e : (ps.map ((fun r : List AVal => AVal.vec r.length r) ∘ ints)) = ps.map vecI := List.map_congr_left fun z _ => by simp [Function.comp, vecI, ints_length]
  rw [e] at this
  exact this
end Go.Proofs
namespace Go.Hx
variable {P : Program} {G : Nat → Option (List AVal)}
def AHeap.meltN (H : AHeap) (n ob : Nat) (b : Blk) : AHeap := ⟨fun id => if n ≤ id then none else if id = ob then some b else H.get id, H.next⟩
theorem meltN_ob {H : AHeap} {n ob : Nat} {b : Blk} (h : ob < n) : (H.meltN n ob b).get ob = some b := by simp [AHeap.meltN, Nat.not_le.2 h]
theorem meltN_other {H : AHeap} {n ob id : Nat} {b : Blk} (h : id < n) (h2 : id ≠ ob) : (H.meltN n ob b).get id = H.get id := by simp [AHeap.meltN, Nat.not_le.2 h, h2]
theorem fzH_meltN {H : AHeap} (hc : Clo H) {n ob g : Nat} {e : TypeId} {cells cells' : List AVal} (hob : H.get ob = some (.arr g e cells)) (hlt : ob < n) (hl : cells'.length = cells.length)
    (hcell : ∀ i (h : i < cells.length) (h' : i < cells'.length), Fz (fun id => n ≤ id) H H.next cells[i] cells'[i]) : FzH (fun id => n ≤ id) H (H.meltN n ob (.arr g e cells')) where
  gone id hs := by simp [AHeap.meltN, hs]
  kept id b hs hb := by
    have hbb := hc.below id b hb
    refine ⟨hc.lt id b hb, ?_⟩
    by_cases h : id = ob
    · subst h
      rw [hob] at hb
      cases hb
      exact ⟨.arr g e cells', by simp [AHeap.meltN, hs], rfl, rfl, hl, hcell⟩
    · refine ⟨b, by simp [AHeap.meltN, hs, h, hb], ?_⟩
      cases b with
      | rsv => trivial
      | mp => rfl
      | arr g e cells => exact ⟨rfl, rfl, rfl, fun i h _ => .dead (hbb i h)⟩
      | loop st pend n env ps asg body => exact ⟨rfl, rfl, rfl, rfl, rfl, rfl, rfl, fun t ht => .dead (hbb t ht)⟩
  none id hs hb := by
    by_cases h : id = ob
    · subst h; rw [hob] at hb; cases hb
    · simp [AHeap.meltN, hs, h, hb]
theorem WeakS.meltN (hG : GOk G) {s : St} {n ob g : Nat} {e : TypeId} {cells cells' : List AVal} (hob : s.H.get ob = some (.arr g e cells)) (hlt : ob < n) (hl : cells'.length = cells.length)
    (hcell : ∀ i (h : i < cells.length) (h' : i < cells'.length), Fz (fun id => n ≤ id) s.H s.H.next cells[i] cells'[i]) : WeakS P G s ⟨s.ρ, s.H.meltN n ob (.arr g e cells')⟩ := by
  intro n' wb Γ a w hs
  exact WeakS.freeze (s := s) (s' := ⟨s.ρ, s.H.meltN n ob (.arr g e cells')⟩) hG (fzH_meltN hs.heap.clo hob hlt hl hcell) (fun t => .dead (hs.env t).belowN) n' wb Γ a w hs
theorem OwnG2.upd {lo : Nat} {H : AHeap} {e1 e0 : TypeId} {v : AVal} {rows : List (List AVal)} (h : OwnG2 lo H e1 e0 v rows) {k : Nat} {b : Blk} (hk : k < lo) : OwnG2 lo (H.upd k b) e1 e0 v rows := by
  obtain ⟨cs, c1, c2, c3⟩ := h
  refine ⟨cs, c1.keep (Nat.le_refl _) (by rw [upd_next]; exact Nat.le_refl _) fun id _ h1 _ _ _ => by rw [upd_get, if_neg (by omega)], c2, fun j r c hr hc => (c3 j r c hr hc).keep (Nat.le_refl _) (by rw [upd_next]; exact Nat.le_refl _) fun id _ h1 _ _ _ => by rw [upd_get, if_neg (by omega)]⟩
end Go.Hx
namespace Go.Hx
variable {P : Program} {G : Nat → Option (List AVal)}
theorem fzH_id {H : AHeap} (hc : Clo H) : FzH (fun _ => False) H H where
  gone id hs := hs.elim
  kept id b _ hb := by
    have hbb := hc.below id b hb
    refine ⟨hc.lt id b hb, b, hb, ?_⟩
    cases b with
    | rsv => trivial
    | mp => rfl
    | arr g e cells => exact ⟨rfl, rfl, rfl, fun i h _ => .dead (hbb i h)⟩
    | loop st pend n env ps asg body => exact ⟨rfl, rfl, rfl, rfl, rfl, rfl, rfl, fun t ht => .dead (hbb t ht)⟩
  none id _ hb := hb
theorem ACall.weakArgs {H : AHeap} {f : FuncId} {args args' : List AVal} {K : ARes → AHeap → Prop} (hG : GOk G) (hl : args'.length = args.length) (hv : ∀ i (h : i < args.length) (h' : i < args'.length), Fz (fun _ => False) H H.next args[i] args'[i])
    (h : ACall P G f args' H K) : ACall P G f args H K := by
  refine ⟨h.1, fun Γ w cargs R hr => ?_⟩
  have F := fzH_id R.clo
  have R0 := F.rel hG R
  have E0 : Evo Γ H w (gamF (fun _ => False) Γ) H w := F.evo
  refine (h.2 _ w cargs R0 ⟨by have := hr.1; omega, fun i h1 h2 => (hv i (by omega) h1).sound R F (hr.2 i (by omega) h2)⟩).mono ?_
  rintro e w' ⟨r, H', Γ', h1, h2, h3, h4, h5⟩
  exact ⟨r, H', Γ', h1, h2, h3, E0.trans (Nat.le_refl _) h4, h5⟩
end Go.Hx
namespace Go.Hx
variable {P : Program}
structure Own2 (lo : Nat) (H : AHeap) (e : TypeId) (v : AVal) (l : List AVal) (u : AVal) (m : List AVal) : Prop where
  a : OwnG lo H e v l
  b : OwnG lo H e u m
  ne : ∀ i g n g' n', v = .own i g 0 n 1 → u ≠ .own i g' 0 n' 1
theorem Own2.symm {lo : Nat} {H : AHeap} {e : TypeId} {v u : AVal} {l m : List AVal} (h : Own2 lo H e v l u m) : Own2 lo H e u m v l := ⟨h.b, h.a, fun i g n g' n' h1 h2 => h.ne i g' n' g n h2 h1⟩
theorem Own2.nil {lo : Nat} {H : AHeap} {e : TypeId} : Own2 lo H e (.lit (.slice none 0 0)) [] (.lit (.slice none 0 0)) [] := ⟨.nil, .nil, fun _ _ _ _ _ h => (by cases h)⟩
theorem Own2.keep {lo : Nat} {H H' : AHeap} {e : TypeId} {v u : AVal} {l m : List AVal} (h : Own2 lo H e v l u m) (hn : H.next ≤ H'.next) (hk : ∀ id, lo ≤ id → id < H.next → H'.get id = H.get id) : Own2 lo H' e v l u m :=
  ⟨h.a.keep (Nat.le_refl _) hn fun id _ h1 h2 _ _ => hk id h1 h2, h.b.keep (Nat.le_refl _) hn fun id _ h1 h2 _ _ => hk id h1 h2, h.ne⟩
theorem Own2.app {lo n : Nat} {H : AHeap} {e t : TypeId} {v u x : AVal} {l m z : List AVal} (ht : P.underlying t = some (.slice e)) (hz : P.cellsOf e = 1) (hzero : zeroA P e = some z) (hx : x.one = true)
    (hb : (l.length + 1) * P.bytesOf e ≤ 2 ^ 46 ∧ l.length + 1 ≤ 2 ^ 46) (h : Own2 lo H e v l u m) (hlo : lo ≤ H.next) (hn : n = H.next + 1) :
    ∃ v' H', appendA P (ext H [.arr 0 e [x]]) n t t v (.own H.next 0 0 1 1) = some (v', H') ∧ Own2 lo H' e v' (l ++ [x]) u m ∧ H.next ≤ H'.next ∧ (∀ k, k < lo → H'.get k = H.get k) := by
  have hsrc : sourceA (ext H [.arr 0 e [x]]) 1 (.own H.next 0 0 1 1) = some (1, [x]) := by
    unfold sourceA
    have := get_live (H := ext H [.arr 0 e [x]]) (g := 0) (ext1_get_new (b := .arr 0 e [x]))
    simp [this]
  have hne : (ext H [Blk.arr 0 e [x]]).next = H.next + 1 := rfl
  obtain ⟨ha, hbb, hnn⟩ := h
  rcases ha with ⟨rfl, rfl⟩ | ⟨i, g, h1, h2, rfl, h4⟩
  · have n2 : (ext (ext H [.arr 0 e [x]]) [.arr 0 e [x]]).next = H.next + 2 := rfl
    have old : ∀ k, k < H.next → (ext (ext H [.arr 0 e [x]]) [.arr 0 e [x]]).get k = H.get k := fun k hk => by rw [ext1_get_old (by rw [hne]; omega), ext1_get_old hk]
    refine ⟨.own (H.next + 1) 0 0 1 1, ext (ext H [.arr 0 e [x]]) [.arr 0 e [x]], ?_, ⟨.inr ⟨H.next + 1, 0, by omega, by rw [n2]; omega, by simp, ?_⟩, hbb.keep (Nat.le_refl _) (by rw [n2]; omega) fun id _ _ hid _ _ => old id hid, fun i g n g' n' he hu => ?_⟩, by rw [n2]; omega, fun k hk => old k (by omega)⟩
    · unfold appendA; rw [ht]
      simp only [hzero, hz, Option.bind_some, hsrc]
      rw [if_neg (by decide), if_pos (by simpa using hb), lay_at (by rw [hn, hne]), hn]
      rfl
    · rw [← hne]; exact ext1_get_new
    · have := (AVal.own.inj he).1
      rcases hbb with ⟨rfl, _⟩ | ⟨j, g2, _, a2, rfl, _⟩
      · cases hu
      · have := (AVal.own.inj hu).1
        omega
  · have h4' : (ext H [.arr 0 e [x]]).get i = some (.arr g e l) := by rw [ext1_get_old h2]; exact h4
    refine ⟨.own i (g + 1) 0 (l.length + 1) 1, (ext H [.arr 0 e [x]]).upd i (.arr (g + 1) e (l ++ [x])), ?_, ⟨.inr ⟨i, g + 1, h1, by rw [upd_next, hne]; omega, by simp, by rw [upd_get, if_pos rfl]⟩, hbb.keep (Nat.le_refl _) (by rw [upd_next, hne]; omega) fun id g3 _ hid _ hu => ?_, fun i' g' n' g'' n'' he hu => hnn i g l.length g'' n'' rfl (by rw [hu, (AVal.own.inj he).1])⟩, by rw [upd_next, hne]; omega, fun k hk => ?_⟩
    · unfold appendA; rw [ht]
      have hl := get_live h4'
      simp only [hzero, hz, Option.bind_some, hsrc, hl]
      rw [if_pos ⟨trivial, trivial, by omega, hb.1, hb.2, by simp [hx]⟩]
      simp
    · rw [upd_get, if_neg, ext1_get_old hid]
      rintro rfl
      exact hnn id g l.length g3 _ rfl hu
    · rw [upd_get, if_neg (by omega), ext1_get_old (by omega)]
end Go.Hx
namespace Go.Proofs
open Go.Hx
set_option maxHeartbeats 2000000 in
theorem same05_refl (g : Int) (ns : List NodeP) (hf : NetFit ns) (H : AHeap) (K : ARes → AHeap → Prop) (hK : K (.ret (.lit (.bool true))) H) : ACall Tryd.prog G0 24 [netV g ns, netV g ns] H K := by
  refine ACall.clo ⟨_, Tryd.func24, rfl, rfl⟩ fun hcl => ?_
  have hl := hf.1
  refine ACall.of_bodyW (n := 81) (rs := [.tmp 4]) Tryd.func24 rfl rfl rfl (by decide) (by simp) ?_
  refine W.seq (vc_sound _ _ _ (by rfl) ?_)
  simp (config := { maxSteps := 1000000 }) only [go_sem, netV, nodesV, appendA_U]
  obtain ⟨R, hR⟩ : ∃ R, R = ext H [.arr 0 61 [.lit (.int .i64 g), .vec ns.length (nodesC ns)], .arr 0 61 [.lit (.int .i64 g), .vec ns.length (nodesC ns)]] := ⟨_, rfl⟩
  have oR : Over H R := by rw [hR]; exact .ext _ _
  have nR : R.next = H.next + 2 := by rw [hR]; rfl
  have l0 : R.live H.next 0 = some (61, [.lit (.int .i64 g), .vec ns.length (nodesC ns)]) := by rw [hR]; exact get_live (get_ext0 ..)
  have l1 : R.live (H.next + 1) 0 = some (61, [.lit (.int .i64 g), .vec ns.length (nodesC ns)]) := by rw [hR]; exact get_live (get_ext H _ 1 (by simp))
  rw [← hR]
  clear hR
  refine W.env fun E hE => ?_
  have e2 : E 2 = .ptr H.next 0 0 := by rw [hE]; simp (config := { maxSteps := 1000000 }) only [go_sem, appendA_U]
  have e3 : E 3 = .ptr (H.next + 1) 0 0 := by rw [hE]; simp (config := { maxSteps := 1000000 }) only [go_sem, appendA_U]
  clear hE
  refine W.seq (vc_sound _ _ _ (by rfl) ?_)
  simp (config := { maxSteps := 1000000 }) only [go_sem, e2, e3, l0, l1, appendA_U]
  refine W.seq ?_
  refine W.seq (vc_sound _ _ _ (by rfl) ?_)
  simp (config := { maxSteps := 1000000 }) only [go_sem, appendA_U]
  refine W.block ?_
  refine W.env fun E1 hE1 => ?_
  have f2 : E1 2 = .ptr H.next 0 0 := by rw [hE1]; simp (config := { maxSteps := 1000000 }) only [go_sem, e2, appendA_U]
  have f3 : E1 3 = .ptr (H.next + 1) 0 0 := by rw [hE1]; simp (config := { maxSteps := 1000000 }) only [go_sem, e3, appendA_U]
  have f5 : E1 5 = lin 0 := by rw [hE1]; simp (config := { maxSteps := 1000000 }) only [go_sem, appendA_U]
  clear hE1
  refine W.loop0 2417851639229258341024240 (by rfl) (fun ρ Hx => ∃ k : Nat, ρ 5 = lin k ∧ k ≤ ns.length ∧ Over R Hx) (fun ρ H => ns.length - (iv (ρ 5)).toNat) ?_ ?_
  · simp (config := { maxSteps := 1000000 }) only [go_sem, f5, appendA_U]
    exact ⟨0, rfl, by omega, .refl _⟩
  rintro ρ Hx ⟨k, h5, hk, ov⟩
  refine W.env fun E2 hE2 => ?_
  have a2 : E2 2 = .ptr H.next 0 0 := by rw [hE2]; simp (config := { maxSteps := 1000000 }) only [go_sem, f2, appendA_U]
  have a3 : E2 3 = .ptr (H.next + 1) 0 0 := by rw [hE2]; simp (config := { maxSteps := 1000000 }) only [go_sem, f3, appendA_U]
  have a5 : E2 5 = lin k := by rw [hE2]; simp (config := { maxSteps := 1000000 }) only [go_sem, h5, appendA_U]
  clear hE2
  have x0 := (ov.live (g := 0) (by omega : H.next < R.next)).trans l0
  have x1 := (ov.live (g := 0) (by omega : H.next + 1 < R.next)).trans l1
  by_cases hb : (k : Int) < ns.length
  rotate_left
  · refine vc_sound _ _ _ (by rfl) ?_
    simp (config := { maxSteps := 1000000 }) only [go_sem, a2, a5, x0, hb, appendA_U]
    refine vc_sound _ _ _ (by rfl) ?_
    simp (config := { maxSteps := 1000000 }) only [go_sem, appendA_U]
    exact FinV.dropO G0_ok hcl (oR.trans ov) (.lit _) hK
  obtain ⟨x, hx⟩ := get_of_lt (l := ns) (i := k) (by omega)
  obtain ⟨g1, g2, g3⟩ := hf.2 x (List.mem_of_getElem? hx)
  have p0 := nodesC_part hx
  have pne := nodesC_ne hx
  have p1 : k * 3 + 3 ≤ (nodesC ns).length := by rw [nodesC_len]; omega
  have w1 := IntWalk.i64_in ((k : Int) + 1) (by omega)
  refine W.seq (vc_sound _ _ _ (by rfl) ?_)
  simp (config := { maxSteps := 1000000 }) only [go_sem, a2, a5, x0, hb, appendA_U]
  refine W.seq (W.block (W.seq ?_))
  obtain ⟨zb, hzb⟩ : ∃ zb : Blk, zb = .arr 0 91 [.lit (.int .i64 0), .lit (.slice none 0 0), .lit (.slice none 0 0)] := ⟨_, rfl⟩
  have z0 : (ext (ext Hx [.arr 0 91 [.lit (.int .i64 0), .lit (.slice none 0 0), .lit (.slice none 0 0)]]) [.arr 0 91 [.lit (.int .i64 0), .lit (.slice none 0 0), .lit (.slice none 0 0)]]).live Hx.next 0 = some (91, [.lit (.int .i64 0), .lit (.slice none 0 0), .lit (.slice none 0 0)]) := by rw [ext_ext]; exact get_live (get_ext Hx _ 0 (by simp))
  have z1 : ∀ b, ((ext (ext Hx [.arr 0 91 [.lit (.int .i64 0), .lit (.slice none 0 0), .lit (.slice none 0 0)]]) [.arr 0 91 [.lit (.int .i64 0), .lit (.slice none 0 0), .lit (.slice none 0 0)]]).upd Hx.next b).live (Hx.next + 1) 0 = some (91, [.lit (.int .i64 0), .lit (.slice none 0 0), .lit (.slice none 0 0)]) := fun b => by rw [live_upd_other (by omega), ext_ext]; exact get_live (get_ext Hx _ 1 (by simp))
  have hnx := ov.next
  refine W.draw 13 [0, 1, 0, 7, 15, 0, 32, 0, 224, 480, 0, 0, 3103] Tryd.mixed (by kernel_rfl) (by kernel_rfl) ?_
  simp (config := { maxSteps := 1000000 }) only [go_sem, a2, a3, a5, x0, x1, hb, p0, p1, pne, vecV, z0, z1, appendA_U]
  refine ⟨by repeat' (first | refine And.intro ?_ ?_ | (intro x hx; omega)), by repeat' (first | refine And.intro ?_ ?_ | (intro x hx; omega)), ?_⟩
  refine ⟨by repeat' (first | refine And.intro ?_ ?_ | (intro x hx; omega)), ?_⟩
  obtain ⟨H2, hH2⟩ : ∃ H2, H2 = ((ext (ext Hx [.arr 0 91 [.lit (.int .i64 0), .lit (.slice none 0 0), .lit (.slice none 0 0)]]) [.arr 0 91 [.lit (.int .i64 0), .lit (.slice none 0 0), .lit (.slice none 0 0)]]).upd Hx.next (.arr 0 91 [.lit (.int .i64 x.card), .vec x.parents.length (ints x.parents), .vec x.rows.length (x.rows.map vecI)])).upd (Hx.next + 1) (.arr 0 91 [.lit (.int .i64 x.card), .vec x.parents.length (ints x.parents), .vec x.rows.length (x.rows.map vecI)]) := ⟨_, rfl⟩
  have o2 : Over Hx H2 := ⟨by rw [hH2, upd_next, upd_next, ext_ext, ext_next]; omega, fun i h => by rw [hH2, upd_get, if_neg (by omega), upd_get, if_neg (by omega), ext_ext]; exact get_ext_old _ _ _ h⟩
  have q0 : H2.live Hx.next 0 = some (91, [.lit (.int .i64 x.card), .vec x.parents.length (ints x.parents), .vec x.rows.length (x.rows.map vecI)]) := by rw [hH2, live_upd_other (by omega)]; exact live_upd_same
  have q1 : H2.live (Hx.next + 1) 0 = some (91, [.lit (.int .i64 x.card), .vec x.parents.length (ints x.parents), .vec x.rows.length (x.rows.map vecI)]) := by rw [hH2]; exact live_upd_same
  refine W.env fun E3 hE3 => ?_
  have b2 : E3 2 = .ptr H.next 0 0 := by rw [hE3]; simp (config := { maxSteps := 1000000 }) only [go_sem, a2, appendA_U]
  have b3 : E3 3 = .ptr (H.next + 1) 0 0 := by rw [hE3]; simp (config := { maxSteps := 1000000 }) only [go_sem, a3, appendA_U]
  have b5 : E3 5 = lin k := by rw [hE3]; simp (config := { maxSteps := 1000000 }) only [go_sem, a5, appendA_U]
  have b6 : E3 6 = .ptr Hx.next 0 0 := by rw [hE3]; simp (config := { maxSteps := 1000000 }) only [go_sem, appendA_U]
  have b7 : E3 7 = .ptr (Hx.next + 1) 0 0 := by rw [hE3]; simp (config := { maxSteps := 1000000 }) only [go_sem, appendA_U]
  clear hE3
  rw [← hH2]
  clear hH2
  refine W.seq ?_
  refine W.seq (vc_sound _ _ _ (by rfl) ?_)
  simp (config := { maxSteps := 1000000 }) only [go_sem, b6, b7, q0, q1, guardA_undef, appendA_U]
  refine AApply.clo (same02_spec x.parents x.parents (by omega) _ _ ⟨trivial, ?_⟩)
  simp (config := { maxSteps := 1000000 }) only [go_sem, b6, b7, q0, q1, guardA_undef, appendA_U]
  refine vc_sound _ _ _ (by rfl) ?_
  simp (config := { maxSteps := 1000000 }) only [go_sem, appendA_U]
  refine W.seq (vc_sound _ _ _ (by rfl) ?_)
  simp (config := { maxSteps := 1000000 }) only [go_sem, appendA_U]
  refine W.block ?_
  refine W.env fun E4 hE4 => ?_
  have c2 : E4 2 = .ptr H.next 0 0 := by rw [hE4]; simp (config := { maxSteps := 1000000 }) only [go_sem, b2, appendA_U]
  have c3 : E4 3 = .ptr (H.next + 1) 0 0 := by rw [hE4]; simp (config := { maxSteps := 1000000 }) only [go_sem, b3, appendA_U]
  have c5 : E4 5 = lin k := by rw [hE4]; simp (config := { maxSteps := 1000000 }) only [go_sem, b5, appendA_U]
  have c6 : E4 6 = .ptr Hx.next 0 0 := by rw [hE4]; simp (config := { maxSteps := 1000000 }) only [go_sem, b6, appendA_U]
  have c7 : E4 7 = .ptr (Hx.next + 1) 0 0 := by rw [hE4]; simp (config := { maxSteps := 1000000 }) only [go_sem, b7, appendA_U]
  have c8 : E4 8 = lin 0 := by rw [hE4]; simp (config := { maxSteps := 1000000 }) only [go_sem, appendA_U]
  clear hE4
  refine W.loop0 2417847027543239922024720 (by rfl) (fun ρ2 Hy => Hy = H2 ∧ ∃ j : Nat, ρ2 8 = lin j ∧ j ≤ x.rows.length) (fun ρ2 H => x.rows.length - (iv (ρ2 8)).toNat) ?_ ?_
  · simp (config := { maxSteps := 1000000 }) only [go_sem, c8, appendA_U]
    exact ⟨0, rfl, by omega⟩
  rintro ρ2 Hy ⟨rfl, j, h8, hj⟩
  refine W.env fun E5 hE5 => ?_
  have d5 : E5 5 = lin k := by rw [hE5]; simp (config := { maxSteps := 1000000 }) only [go_sem, c5, appendA_U]
  have d6 : E5 6 = .ptr Hx.next 0 0 := by rw [hE5]; simp (config := { maxSteps := 1000000 }) only [go_sem, c6, appendA_U]
  have d7 : E5 7 = .ptr (Hx.next + 1) 0 0 := by rw [hE5]; simp (config := { maxSteps := 1000000 }) only [go_sem, c7, appendA_U]
  have d8 : E5 8 = lin j := by rw [hE5]; simp (config := { maxSteps := 1000000 }) only [go_sem, h8, appendA_U]
  clear hE5
  by_cases hc : (j : Int) < x.rows.length
  rotate_left
  · refine vc_sound _ _ _ (by rfl) ?_
    simp (config := { maxSteps := 1000000 }) only [go_sem, d6, d8, q0, hc, appendA_U]
    refine vc_sound _ _ _ (by rfl) ?_
    simp (config := { maxSteps := 1000000 }) only [go_sem, d5, w1, appendA_U]
    exact ⟨Nat.le_trans ov.next o2.next, ⟨k + 1, rfl, by omega, ov.trans o2⟩, by rw [h5]; simp only [lin, iv_int]; omega⟩
  obtain ⟨l, hl⟩ := get_of_lt (l := x.rows) (i := j) (by omega)
  have hll := g3 l (List.mem_of_getElem? hl)
  have hlg : (x.rows.map vecI)[j]? = some (vecI l) := by rw [List.getElem?_map, hl]; rfl
  have hln := ne_of_get hl
  have w2 := IntWalk.i64_in ((j : Int) + 1) (by omega)
  refine W.seq (vc_sound _ _ _ (by rfl) ?_)
  simp (config := { maxSteps := 1000000 }) only [go_sem, d6, d8, q0, hc, appendA_U]
  refine W.seq (W.block (W.seq ?_))
  refine W.draw 10 [0, 1, 0, 7, 15, 0, 32, 0, 224, 480] Tryd.mixed (by kernel_rfl) (by kernel_rfl) ?_
  simp (config := { maxSteps := 1000000 }) only [go_sem, d6, d7, d8, q0, q1, hc, hlg, hln, appendA_U]
  refine AApply.clo (same02_spec l l (by omega) _ _ ⟨trivial, ?_⟩)
  simp (config := { maxSteps := 1000000 }) only [go_sem, appendA_U]
  refine vc_sound _ _ _ (by rfl) ?_
  simp (config := { maxSteps := 1000000 }) only [go_sem, appendA_U]
  refine vc_sound _ _ _ (by rfl) ?_
  simp (config := { maxSteps := 1000000 }) only [go_sem, d8, w2, appendA_U]
  exact ⟨⟨j + 1, rfl, by omega⟩, by rw [h8]; simp only [lin, iv_int]; omega⟩
def dataV (cs : List Int) (xs : List (List Int)) : AVal := .agg [vecI cs, vecV xs]
def CaseOk (cs r : List Int) : Prop := r.length = cs.length ∧ ∀ (v : Nat) (c x : Int), cs[v]? = some c → r[v]? = some x → -1 ≤ x ∧ x < c
structure DataOk (cs : List Int) (xs : List (List Int)) : Prop where
  c1 : 1 ≤ cs.length ∧ cs.length ≤ 6
  x1 : xs.length ≤ 40
  card : ∀ c ∈ cs, 2 ≤ c ∧ c ≤ 4
  size : prodL cs ≤ 1024
  row : ∀ r ∈ xs, CaseOk cs r
noncomputable def dataB (cs : List Int) (xs : List (List Int)) : Bool := @decide (DataOk cs xs) (Classical.propDecidable _)
theorem dataB_true {cs : List Int} {xs : List (List Int)} (h : DataOk cs xs) : dataB cs xs = true := by unfold dataB; exact @decide_eq_true _ (Classical.propDecidable _) h
theorem dataB_false {cs : List Int} {xs : List (List Int)} (h : ¬ DataOk cs xs) : dataB cs xs = false := by unfold dataB; exact @decide_eq_false _ (Classical.propDecidable _) h
theorem dataB_iff {cs : List Int} {xs : List (List Int)} : dataB cs xs = true ↔ DataOk cs xs := by unfold dataB; exact @decide_eq_true_iff _ (Classical.propDecidable _)
def DataFit (cs : List Int) (xs : List (List Int)) : Prop := (cs.length : Int) < 2 ^ 38 ∧ (xs.length : Int) < 2 ^ 38 ∧ ∀ r ∈ xs, (r.length : Int) < 2 ^ 38
theorem vecV_get {xs : List (List Int)} {k : Nat} {r : List Int} (h : xs[k]? = some r) : (xs.map vecI)[k]? = some (.vec r.length (ints r)) := by rw [List.getElem?_map, h]; rfl
theorem small4 {l : List Int} (h : ∀ c ∈ l, 2 ≤ c ∧ c ≤ 4) (hl : l.length ≤ 6) : 1 ≤ prodL l ∧ prodL l ≤ 4096 := by
  have h1 := prodL_le_pow (b := 4) (by omega) (l := l) fun x hx => by have := h x hx; omega
  have h2 := prodL_pos (l := l) fun x hx => by have := h x hx; omega
  have h3 : (4 : Nat) ^ l.length ≤ 4 ^ 6 := Nat.pow_le_pow_right (by decide) hl
  have h4 : ((4 : Int) ^ l.length) ≤ 4 ^ 6 := by exact_mod_cast h3
  have : (4 : Int) ^ 6 = 4096 := by decide
  omega
theorem CaseOk.of {cs r : List Int} (hl : r.length = cs.length) (h : ∀ (v : Nat) (c x : Int), v < r.length → cs[v]? = some c → r[v]? = some x → -1 ≤ x ∧ x < c) : CaseOk cs r := ⟨hl, fun v c x h1 h2 => h v c x (get_lt h2) h1 h2⟩
set_option maxHeartbeats 1000000 in
theorem check25_spec (cs : List Int) (xs : List (List Int)) (hf : DataFit cs xs) (H : AHeap) (K : ARes → AHeap → Prop) (hK : K (.ret (lin (if dataB cs xs then 0 else 250))) H) : ACall Tryd.prog G0 52 [dataV cs xs] H K := by
  refine ACall.clo ⟨_, Tryd.func52, rfl, rfl⟩ fun hcl => ?_
  have no : ¬ DataOk cs xs → ∀ H', Over H H' → FinV Tryd.prog G0 H K (lin 250) H' := fun h H' ov => FinV.dropO G0_ok hcl ov (.lit _) (by rw [dataB_false h] at hK; exact hK)
  obtain ⟨f1, f2, f3⟩ := hf
  refine ACall.of_body (n := 80) (rs := [.tmp 2]) Tryd.func52 rfl rfl rfl (by decide) (by kernel_rfl) (by simp) ?_
  simp (config := { maxSteps := 1000000 }) only [go_sem, dataV, vecV, appendA_U]
  obtain ⟨H1, hH1⟩ : ∃ H1, H1 = ext H [.arr 0 50 [.vec cs.length (ints cs), .vec xs.length (xs.map vecI)]] := ⟨_, rfl⟩
  have l1 : H1.live H.next 0 = some (50, [.vec cs.length (ints cs), .vec xs.length (xs.map vecI)]) := by rw [hH1]; exact get_live (get_ext0 ..)
  have o1 : Over H H1 := by rw [hH1]; exact .ext _ _
  rw [← hH1]
  by_cases c1 : (cs.length : Int) < 1
  · simp (config := { maxSteps := 1000000 }) only [go_sem, l1, c1, guardA_undef, appendA_U]
    exact no (fun h => by have := h.c1; omega) _ o1
  by_cases c2 : (cs.length : Int) > 6
  · simp (config := { maxSteps := 1000000 }) only [go_sem, l1, c1, c2, guardA_undef, appendA_U]
    exact no (fun h => by have := h.c1; omega) _ o1
  by_cases c3 : (xs.length : Int) > 40
  · simp (config := { maxSteps := 1000000 }) only [go_sem, l1, c1, c2, c3, guardA_undef, appendA_U]
    exact no (fun h => by have := h.x1; omega) _ o1
  simp (config := { maxSteps := 1000000 }) only [go_sem, l1, c1, c2, c3, guardA_undef, appendA_U]
  refine W.loop0 17591112302636 (by rfl) (fun ρ H' => H' = H1 ∧ ∃ k : Nat, ρ 30 = lin k ∧ k ≤ cs.length ∧ (∀ c ∈ cs.take k, 2 ≤ c ∧ c ≤ 4) ∧ ρ 3 = lin (prodL (cs.take k))) (fun ρ H => cs.length - (iv (ρ 30)).toNat) ?_ ?_
  · simp (config := { maxSteps := 1000000 }) only [go_sem, appendA_U]
    exact ⟨0, rfl, by omega, by simp, by simp [prodL_nil]⟩
  rintro ρ H' ⟨rfl, k, h30, hk, hall, h3⟩
  refine vc_sound _ _ _ (by rfl) ?_
  by_cases hb : (k : Int) < cs.length
  · obtain ⟨c, hc⟩ := get_of_lt (l := cs) (i := k) (by omega)
    have hne := ne_of_get hc
    have hcm := List.mem_of_getElem? hc
    by_cases d1 : c < 2
    · simp (config := { maxSteps := 1000000 }) only [go_sem, h30, hb, hne, hc, d1, guardA_undef, appendA_U]
      exact no (fun h => by have := h.card c hcm; omega) _ o1
    by_cases d2 : c > 4
    · simp (config := { maxSteps := 1000000 }) only [go_sem, h30, hb, hne, hc, d1, d2, guardA_undef, appendA_U]
      exact no (fun h => by have := h.card c hcm; omega) _ o1
    have hall' : ∀ y ∈ cs.take (k + 1), 2 ≤ y ∧ y ≤ 4 := fun y hy => by
      rw [take_succ_get hc] at hy
      rcases List.mem_append.1 hy with hy | hy
      · exact hall y hy
      · obtain rfl := List.mem_singleton.1 hy; omega
    have b1 := small4 hall' (by simp; omega)
    rw [take_succ_get hc, prodL_snoc] at b1
    have w1 := IntWalk.i64_in ((k : Int) + 1) (by omega)
    have w2 := IntWalk.i64_in (prodL (cs.take k) * c) (by omega)
    simp (config := { maxSteps := 1000000 }) only [go_sem, h30, h3, hb, hne, hc, d1, d2, w1, w2, guardA_undef, appendA_U]
    exact ⟨⟨k + 1, rfl, by omega, hall', by rw [take_succ_get hc, prodL_snoc]⟩, by omega⟩
  rw [List.take_of_length_le (by omega)] at hall h3
  by_cases c4 : prodL cs > 1024
  · simp (config := { maxSteps := 1000000 }) only [go_sem, h30, h3, hb, c4, appendA_U]
    exact no (fun h => by have := h.size; omega) _ o1
  simp (config := { maxSteps := 1000000 }) only [go_sem, h30, h3, hb, c4, l1, appendA_U]
  refine W.loop0 604462909244364633933632 (by rfl) (fun ρ Ha => Ha = H' ∧ ∃ k : Nat, ρ 49 = lin k ∧ k ≤ xs.length ∧ (∀ r ∈ xs.take k, CaseOk cs r) ∧ ρ 6 = lin 0) (fun ρ H => xs.length - (iv (ρ 49)).toNat) ?_ ?_
  · simp (config := { maxSteps := 1000000 }) only [go_sem, appendA_U]
    exact ⟨0, rfl, by omega, by simp⟩
  rintro ρ' Ha ⟨rfl, i, h49, hi, hrows, h6⟩
  refine vc_sound _ _ _ (by rfl) ?_
  by_cases hb2 : (i : Int) < xs.length
  rotate_left
  · simp (config := { maxSteps := 1000000 }) only [go_sem, h49, h6, hb2, appendA_U]
    rw [List.take_of_length_le (by omega)] at hrows
    rw [dataB_true ⟨by omega, by omega, hall, by omega, hrows⟩] at hK
    exact FinV.dropO G0_ok hcl o1 (.lit _) hK
  obtain ⟨r, hr⟩ := get_of_lt (l := xs) (i := i) (by omega)
  have hrm := List.mem_of_getElem? hr
  have hr' := vecV_get hr
  have hrn := ne_of_get hr'
  by_cases hl : (r.length : Int) = cs.length
  rotate_left
  · simp (config := { maxSteps := 1000000 }) only [go_sem, h49, hb2, hr', hrn, l1, hl, appendA_U]
    exact no (fun h => hl (by have := (h.row r hrm).1; omega)) _ o1
  simp (config := { maxSteps := 1000000 }) only [go_sem, h49, h6, hb2, hr', hrn, l1, hl, appendA_U]
  refine W.loop0 302229149060648079984192 (by rfl) (fun ρ2 Hb => Hb = Ha ∧ ∃ j : Nat, ρ2 61 = lin j ∧ j ≤ r.length ∧ (∀ (v : Nat) (c x : Int), v < j → cs[v]? = some c → r[v]? = some x → -1 ≤ x ∧ x < c) ∧ ρ2 6 = lin 0) (fun ρ2 H => r.length - (iv (ρ2 61)).toNat) ?_ ?_
  · simp (config := { maxSteps := 1000000 }) only [go_sem, h6, appendA_U]
    exact ⟨0, rfl, by omega, fun v _ _ h => by omega⟩
  rintro ρ2 Hb ⟨rfl, j, h61, hj, hin, h6'⟩
  refine vc_sound _ _ _ (by rfl) ?_
  have w1 := IntWalk.i64_in ((i : Int) + 1) (by omega)
  by_cases hb3 : (j : Int) < cs.length
  · obtain ⟨x, hx⟩ := get_of_lt (l := r) (i := j) (by omega)
    obtain ⟨c, hc⟩ := get_of_lt (l := cs) (i := j) (by omega)
    have hxn := ne_of_get hx
    have hcn := ne_of_get hc
    by_cases d1 : x < -1
    · simp (config := { maxSteps := 1000000 }) only [go_sem, h61, hb3, hl, hx, hxn, d1, guardA_undef, appendA_U]
      exact no (fun h => by have := (h.row r hrm).2 j c x hc hx; omega) _ o1
    by_cases d2 : x ≥ c
    · simp (config := { maxSteps := 1000000 }) only [go_sem, h61, hb3, hl, hx, hxn, hc, hcn, l1, d1, d2, guardA_undef, appendA_U]
      exact no (fun h => by have := (h.row r hrm).2 j c x hc hx; omega) _ o1
    have w2 := IntWalk.i64_in ((j : Int) + 1) (by omega)
    simp (config := { maxSteps := 1000000 }) only [go_sem, h61, h6', hb3, hl, hx, hxn, hc, hcn, l1, d1, d2, w2, guardA_undef, appendA_U]
    refine ⟨⟨j + 1, rfl, by omega, fun v c' x' hv h1 h2 => ?_⟩, by omega⟩
    rcases Nat.lt_or_ge v j with h | h
    · exact hin v c' x' h h1 h2
    · obtain rfl : v = j := by omega
      rw [hc] at h1; rw [hx] at h2
      cases h1; cases h2; omega
  · simp (config := { maxSteps := 1000000 }) only [go_sem, h61, h6', h49, hb3, hl, w1, appendA_U]
    refine ⟨⟨i + 1, rfl, by omega, fun q hq => ?_⟩, by omega⟩
    rw [take_succ_get hr] at hq
    rcases List.mem_append.1 hq with hq | hq
    · exact hrows q hq
    · obtain rfl := List.mem_singleton.1 hq
      exact .of (by omega) fun v c x hv => hin v c x (by omega)
set_option maxHeartbeats 1000000 in
theorem right25_spec (cs : List Int) (xs : List (List Int)) (hf : DataFit cs xs) (H : AHeap) (K : ARes → AHeap → Prop) (hK : K (.ret (.lit (.bool (dataB cs xs)))) H) : ACall Tryd.prog G0 20 [dataV cs xs] H K := by
  refine ACall.clo ⟨_, Tryd.func20, rfl, rfl⟩ fun hcl => ?_
  have no : ¬ DataOk cs xs → ∀ H', Over H H' → FinV Tryd.prog G0 H K (.lit (.bool false)) H' := fun h H' ov => FinV.dropO G0_ok hcl ov (.lit _) (by rw [dataB_false h] at hK; exact hK)
  obtain ⟨f1, f2, f3⟩ := hf
  refine ACall.of_body (n := 102) (rs := [.tmp 2]) Tryd.func20 rfl rfl rfl (by decide) (by kernel_rfl) (by simp) ?_
  simp (config := { maxSteps := 1000000 }) only [go_sem, dataV, vecV, appendA_U]
  obtain ⟨H1, hH1⟩ : ∃ H1, H1 = ext H [.arr 0 50 [.vec cs.length (ints cs), .vec xs.length (xs.map vecI)]] := ⟨_, rfl⟩
  have l1 : H1.live H.next 0 = some (50, [.vec cs.length (ints cs), .vec xs.length (xs.map vecI)]) := by rw [hH1]; exact get_live (get_ext0 ..)
  have o1 : Over H H1 := by rw [hH1]; exact .ext _ _
  rw [← hH1]
  by_cases c1 : (cs.length : Int) < 1
  · simp (config := { maxSteps := 1000000 }) only [go_sem, l1, c1, guardA_undef, appendA_U]
    exact no (fun h => by have := h.c1; omega) _ o1
  by_cases c2 : (cs.length : Int) > 6
  · simp (config := { maxSteps := 1000000 }) only [go_sem, l1, c1, c2, guardA_undef, appendA_U]
    exact no (fun h => by have := h.c1; omega) _ o1
  by_cases c3 : (xs.length : Int) > 40
  · simp (config := { maxSteps := 1000000 }) only [go_sem, l1, c1, c2, c3, guardA_undef, appendA_U]
    exact no (fun h => by have := h.x1; omega) _ o1
  simp (config := { maxSteps := 1000000 }) only [go_sem, l1, c1, c2, c3, guardA_undef, appendA_U]
  refine W.loop0 2251799805296668 (by rfl) (fun ρ H' => H' = H1 ∧ ∃ k : Nat, ρ 4 = lin k ∧ k ≤ cs.length ∧ (∀ c ∈ cs.take k, 2 ≤ c ∧ c ≤ 4) ∧ ρ 3 = lin (prodL (cs.take k))) (fun ρ H => cs.length - (iv (ρ 4)).toNat) ?_ ?_
  · simp (config := { maxSteps := 1000000 }) only [go_sem, appendA_U]
    exact ⟨0, rfl, by omega, by simp, by simp [prodL_nil]⟩
  rintro ρ H' ⟨rfl, k, h30, hk, hall, h3⟩
  refine vc_sound _ _ _ (by rfl) ?_
  by_cases hb : (k : Int) < cs.length
  · obtain ⟨c, hc⟩ := get_of_lt (l := cs) (i := k) (by omega)
    have hne := ne_of_get hc
    have hcm := List.mem_of_getElem? hc
    by_cases d1 : c < 2
    · simp (config := { maxSteps := 1000000 }) only [go_sem, h30, hb, hne, hc, d1, l1, guardA_undef, appendA_U]
      exact no (fun h => by have := h.card c hcm; omega) _ o1
    by_cases d2 : c > 4
    · simp (config := { maxSteps := 1000000 }) only [go_sem, h30, hb, hne, hc, d1, d2, l1, guardA_undef, appendA_U]
      exact no (fun h => by have := h.card c hcm; omega) _ o1
    have hall' : ∀ y ∈ cs.take (k + 1), 2 ≤ y ∧ y ≤ 4 := fun y hy => by
      rw [take_succ_get hc] at hy
      rcases List.mem_append.1 hy with hy | hy
      · exact hall y hy
      · obtain rfl := List.mem_singleton.1 hy; omega
    have b1 := small4 hall' (by simp; omega)
    rw [take_succ_get hc, prodL_snoc] at b1
    have w1 := IntWalk.i64_in ((k : Int) + 1) (by omega)
    have w2 := IntWalk.i64_in (prodL (cs.take k) * c) (by omega)
    simp (config := { maxSteps := 1000000 }) only [go_sem, h30, h3, hb, hne, hc, d1, d2, w1, w2, l1, guardA_undef, appendA_U]
    exact ⟨⟨k + 1, rfl, by omega, hall', by rw [take_succ_get hc, prodL_snoc]⟩, by omega⟩
  rw [List.take_of_length_le (by omega)] at hall h3
  simp (config := { maxSteps := 1000000 }) only [go_sem, h30, h3, hb, l1, appendA_U]
  refine W.loop0 1267650600228227149696889520228 (by rfl) (fun ρ' Ha => Ha = H' ∧ ∃ k : Nat, ρ' 5 = lin k ∧ k ≤ xs.length ∧ ∀ r ∈ xs.take k, CaseOk cs r) (fun ρ' H => xs.length - (iv (ρ' 5)).toNat) ?_ ?_
  · simp (config := { maxSteps := 1000000 }) only [go_sem, appendA_U]
    exact ⟨0, rfl, by omega, by simp⟩
  rintro ρ' Ha ⟨rfl, i, h5, hi, hrows⟩
  refine vc_sound _ _ _ (by rfl) ?_
  by_cases hb2 : (i : Int) < xs.length
  rotate_left
  · rw [List.take_of_length_le (by omega)] at hrows
    by_cases c4 : prodL cs ≤ 1024
    · simp (config := { maxSteps := 1000000 }) only [go_sem, h5, h3, hb2, l1, c4, appendA_U]
      rw [dataB_true ⟨by omega, by omega, hall, by omega, hrows⟩] at hK
      exact FinV.dropO G0_ok hcl o1 (.lit _) hK
    · simp (config := { maxSteps := 1000000 }) only [go_sem, h5, h3, hb2, l1, c4, appendA_U]
      exact no (fun h => by have := h.size; omega) _ o1
  obtain ⟨r, hr⟩ := get_of_lt (l := xs) (i := i) (by omega)
  have hrm := List.mem_of_getElem? hr
  have hr' := vecV_get hr
  have hrn := ne_of_get hr'
  simp (config := { maxSteps := 1000000 }) only [go_sem, h5, hb2, l1, appendA_U]
  refine W.draw 9 [0, 1, 0, 7, 15, 31, 0, 64, 192] Tryd.mixed (by kernel_rfl) (by kernel_rfl) ?_
  by_cases hl : (r.length : Int) = cs.length
  rotate_left
  · simp (config := { maxSteps := 1000000 }) only [go_sem, h5, hb2, hr', hrn, l1, hl, appendA_U]
    exact no (fun h => hl (by have := (h.row r hrm).1; omega)) _ o1
  simp (config := { maxSteps := 1000000 }) only [go_sem, h5, hb2, hr', hrn, l1, hl, appendA_U]
  refine W.loop0 1267650599933081496317350379588 (by rfl) (fun ρ2 Hb => Hb = Ha ∧ ∃ j : Nat, ρ2 6 = lin j ∧ j ≤ r.length ∧ (∀ (v : Nat) (c x : Int), v < j → cs[v]? = some c → r[v]? = some x → -1 ≤ x ∧ x < c)) (fun ρ2 H => r.length - (iv (ρ2 6)).toNat) ?_ ?_
  · simp (config := { maxSteps := 1000000 }) only [go_sem, appendA_U]
    exact ⟨0, rfl, by omega, fun v _ _ h => by omega⟩
  rintro ρ2 Hb ⟨rfl, j, h6, hj, hin⟩
  refine vc_sound _ _ _ (by rfl) ?_
  have w1 := IntWalk.i64_in ((i : Int) + 1) (by omega)
  by_cases hb3 : (j : Int) < cs.length
  · obtain ⟨x, hx⟩ := get_of_lt (l := r) (i := j) (by omega)
    obtain ⟨c, hc⟩ := get_of_lt (l := cs) (i := j) (by omega)
    have hxn := ne_of_get hx
    have hcn := ne_of_get hc
    simp (config := { maxSteps := 1000000 }) only [go_sem, h6, hb3, l1, appendA_U]
    refine W.draw 23 [0, 1, 0, 7, 15, 0, 63, 127, 255, 511, 1023, 2047, 1023, 8191, 16383, 1023, 65535, 131071, 1023, 263167, 1023, 1836031, 3933183] Tryd.mixed (by kernel_rfl) (by kernel_rfl) ?_
    by_cases d1 : x < -1
    · simp (config := { maxSteps := 1000000 }) only [go_sem, h6, h5, hb2, hr', hrn, hb3, hl, hx, hxn, l1, d1, guardA_undef, appendA_U]
      exact no (fun h => by have := (h.row r hrm).2 j c x hc hx; omega) _ o1
    by_cases d2 : x ≥ c
    · simp (config := { maxSteps := 1000000 }) only [go_sem, h6, h5, hb2, hr', hrn, hb3, hl, hx, hxn, hc, hcn, l1, d1, d2, guardA_undef, appendA_U]
      exact no (fun h => by have := (h.row r hrm).2 j c x hc hx; omega) _ o1
    have w2 := IntWalk.i64_in ((j : Int) + 1) (by omega)
    simp (config := { maxSteps := 1000000 }) only [go_sem, h6, h5, hb2, hr', hrn, hb3, hl, hx, hxn, hc, hcn, l1, d1, d2, w2, guardA_undef, appendA_U]
    refine ⟨⟨j + 1, rfl, by omega, fun v c' x' hv h1 h2 => ?_⟩, by omega⟩
    rcases Nat.lt_or_ge v j with h | h
    · exact hin v c' x' h h1 h2
    · obtain rfl : v = j := by omega
      rw [hc] at h1; rw [hx] at h2
      cases h1; cases h2; omega
  · simp (config := { maxSteps := 1000000 }) only [go_sem, h6, h5, hb3, hl, l1, w1, appendA_U]
    refine ⟨⟨i + 1, rfl, by omega, fun q hq => ?_⟩, by omega⟩
    rw [take_succ_get hr] at hq
    rcases List.mem_append.1 hq with hq | hq
    · exact hrows q hq
    · obtain rfl := List.mem_singleton.1 hq
      exact .of (by omega) fun v c x hv => hin v c x (by omega)
theorem fz_data {S : Nat → Prop} {H : AHeap} {nx : Nat} {cv xv : AVal} {cs : List Int} {xs : List (List Int)} (h1 : Fz S H nx cv (vecI cs)) (h2 : Fz S H nx xv (vecV xs)) : Fz S H nx (.agg [cv, xv]) (dataV cs xs) := by
  refine .agg rfl fun i hi _ => ?_
  match i, hi with
  | 0, _ => exact h1
  | 1, _ => exact h2
theorem OwnG.fzRows {S : Nat → Prop} {lo nx : Nat} {H : AHeap} {e : TypeId} {v : AVal} {q : List (List Int)} (h : OwnG lo H e v (q.map vecI)) (hS : ∀ i, lo ≤ i → S i) : Fz S H nx v (vecV q) := by
  have := h.fz (S := S) (nx := nx) (cs' := q.map vecI) hS rfl fun i hi _ => by simp only [List.getElem_map]; exact .keepInts _
  rw [List.length_map] at this
  exact this
def prm (i : Nat) : Int := primesL.getD i 2
def cntQ (q : Int) : Nat → Int → Nat
  | 0, _ => 0
  | f + 1, n => if n % q = 0 then cntQ q f (n / q) + 1 else 0
def rstQ (q : Int) : Nat → Int → Int
  | 0, n => n
  | f + 1, n => if n % q = 0 then rstQ q f (n / q) else n
def leftP (n : Int) : Nat → Int
  | 0 => n
  | i + 1 => rstQ (prm i) 6 (leftP n i)
def expN (n : Int) (i : Nat) : Nat := cntQ (prm i) 6 (leftP n i)
def addP (e : List Int) (t n : Int) : List Int := (List.range 18).map fun k => e.getD k 0 + t * (expN n k : Int)
def zeroP : List Int := List.replicate 18 0
theorem cnt_le (q : Int) : ∀ (f : Nat) (n : Int), cntQ q f n ≤ f := by
  intro f
  induction f with
  | zero => intro n; exact Nat.le_refl _
  | succ f ih =>
    intro n
    unfold cntQ
    split
    · have := ih (n / q); omega
    · omega
theorem exp_le (n : Int) (i : Nat) : expN n i ≤ 6 := cnt_le _ _ _
def InB (e : List Int) (b : Int) : Prop := ∀ x ∈ e, -b ≤ x ∧ x ≤ b
theorem InB.getD {e : List Int} {b : Int} (h : InB e b) (hb : 0 ≤ b) (k : Nat) : -b ≤ e.getD k 0 ∧ e.getD k 0 ≤ b := by
  rw [List.getD_eq_getElem?_getD]
  cases hk : e[k]? with
  | none => exact ⟨by simp; omega, by simpa using hb⟩
  | some x => exact h x (List.mem_of_getElem? hk)
theorem sgn_mul {t : Int} (ht : t = 1 ∨ t = -1) {c : Nat} (hc : c ≤ 6) : -6 ≤ t * (c : Int) ∧ t * (c : Int) ≤ 6 := by
  rcases ht with rfl | rfl <;> omega
theorem InB.add {e : List Int} {b t : Int} (h : InB e b) (hb : 0 ≤ b) (ht : t = 1 ∨ t = -1) (n : Int) : InB (addP e t n) (b + 6) := fun x hx => by
  obtain ⟨k, _, rfl⟩ := List.mem_map.1 hx
  have := h.getD hb k
  have := sgn_mul ht (exp_le n k)
  omega
theorem InB.zero : InB zeroP 0 := fun x hx => by
  obtain rfl := List.eq_of_mem_replicate hx
  omega
structure D25 where
  cards : List Int
  cases : List (List Int)
  follow : Int
  miss : List Int
def casesC (l : List (List Int)) : List AVal := (l.map bytesL).flatten
def D25.cells (d : D25) : List AVal := [.vec d.cards.length (bytesL d.cards), .vec d.cases.length (casesC d.cases), .lit (.int .u8 d.follow), .vec d.miss.length (bytesL d.miss)]
structure D25.Ok (d : D25) : Prop where
  cl : (d.cards.length : Int) < 2 ^ 63
  c8 : ∀ x ∈ d.cards, U8 x
  xl : (d.cases.length : Int) < 2 ^ 63
  x8 : ∀ r ∈ d.cases, r.length = 5 ∧ ∀ x ∈ r, U8 x
  f8 : U8 d.follow
  ml : (d.miss.length : Int) < 2 ^ 63
  m8 : ∀ x ∈ d.miss, U8 x
theorem casesC_get {l : List (List Int)} (h : ∀ r ∈ l, r.length = 5) {i j : Nat} {r : List Int} {x : Int} (hr : l[i]? = some r) (hx : r[j]? = some x) : (casesC l)[i * 5 + j]? = some (.lit (.int .u8 x)) := by
  induction l generalizing i with
  | nil => simp at hr
  | cons a l ih =>
    have ha : (bytesL a).length = 5 := by rw [bytesL_len]; exact h a (by simp)
    simp only [casesC, List.map_cons, List.flatten_cons]
    cases i with
    | zero =>
      obtain rfl : a = r := by simpa using hr
      have hj := get_lt hx
      rw [Nat.zero_mul, Nat.zero_add, List.getElem?_append_left (by rw [bytesL_len]; exact hj), bytesL_get hx]
    | succ i =>
      rw [show (i + 1) * 5 + j = 5 + (i * 5 + j) by omega, List.getElem?_append_right (by omega), ha, show 5 + (i * 5 + j) - 5 = i * 5 + j by omega]
      exact ih (fun r hr => h r (by simp [hr])) (by simpa using hr)
theorem casesC_len {l : List (List Int)} (h : ∀ r ∈ l, r.length = 5) : (casesC l).length = l.length * 5 := by
  induction l with
  | nil => rfl
  | cons a l ih =>
    have ha : (bytesL a).length = 5 := by rw [bytesL_len]; exact h a (by simp)
    have := ih fun r hr => h r (by simp [hr])
    simp only [casesC, List.map_cons, List.flatten_cons, List.length_append, List.length_cons] at this ⊢
    omega
def cardsK (l : List Int) : List Int := (l.take 5).map fun x => 2 + x % 2
def cardsD (d : D25) : List Int := if cardsK d.cards = [] then [2] else cardsK d.cards
def caseS (cs : List Int) (f : Int) (raw : List Int) : Nat → List Int
  | 0 => []
  | v + 1 => caseS cs f raw v ++ [(if 0 < v ∧ raw.getD v 0 % 8 < f % 8 then (caseS cs f raw v).getD (v - 1) 0 else raw.getD v 0) % cs.getD v 2]
def casesD (d : D25) : List (List Int) := (d.cases.take 40).map fun r => caseS (cardsD d) d.follow r (cardsD d).length
def missS (xs : List (List Int)) (m : Int) : List (List Int) :=
  let i := (m / 5 % (xs.length : Int)).toNat
  let r := xs.getD i []
  xs.set i (r.set (m % (r.length : Int)).toNat (-1))
def missD (d : D25) : List (List Int) := d.miss.foldl missS (casesD d)
theorem cardsK_rng (l : List Int) : ∀ c ∈ cardsK l, 2 ≤ c ∧ c ≤ 3 := fun c h => by
  obtain ⟨x, _, rfl⟩ := List.mem_map.1 h
  omega
theorem cardsD_rng (d : D25) : ∀ c ∈ cardsD d, 2 ≤ c ∧ c ≤ 3 := fun c h => by
  unfold cardsD at h
  split at h
  · obtain rfl := List.mem_singleton.1 h; omega
  · exact cardsK_rng _ c h
theorem cardsD_len (d : D25) : 1 ≤ (cardsD d).length ∧ (cardsD d).length ≤ 5 := by
  unfold cardsD
  split
  · exact ⟨by simp, by simp⟩
  · rename_i h
    refine ⟨List.length_pos_iff.2 h, ?_⟩
    simp only [cardsK, List.length_map, List.length_take]
    omega
theorem caseS_len (cs : List Int) (f : Int) (raw : List Int) : ∀ v, (caseS cs f raw v).length = v
  | 0 => rfl
  | v + 1 => by simp [caseS, caseS_len cs f raw v]
theorem getD_nn {l : List Int} (h : ∀ x ∈ l, 0 ≤ x) (k : Nat) : 0 ≤ l.getD k 0 := by
  rw [List.getD_eq_getElem?_getD]
  cases hk : l[k]? with
  | none => exact Int.le_refl _
  | some x => exact h x (List.mem_of_getElem? hk)
theorem caseS_rng {cs : List Int} (hc : ∀ c ∈ cs, 2 ≤ c ∧ c ≤ 3) {f : Int} {raw : List Int} (hr : ∀ x ∈ raw, 0 ≤ x) : ∀ v k x, (caseS cs f raw v)[k]? = some x → 0 ≤ x ∧ x < cs.getD k 2 := by
  have cp : ∀ k, 2 ≤ cs.getD k 2 := fun k => by
    rw [List.getD_eq_getElem?_getD]
    cases hk : cs[k]? with
    | none => exact Int.le_refl _
    | some c => exact (hc c (List.mem_of_getElem? hk)).1
  intro v
  induction v with
  | zero => intro k x h; simp [caseS] at h
  | succ v ih =>
    intro k x h
    unfold caseS at h
    rcases Nat.lt_or_ge k v with hk | hk
    · rw [List.getElem?_append_left (by rw [caseS_len]; exact hk)] at h
      exact ih k x h
    · have := get_lt h
      rw [List.length_append, List.length_singleton, caseS_len] at this
      obtain rfl : k = v := by omega
      rw [List.getElem?_append_right (by rw [caseS_len]; exact Nat.le_refl _), caseS_len, Nat.sub_self] at h
      obtain rfl := Option.some.inj h
      exact ⟨Int.emod_nonneg _ (by have := cp k; omega), Int.emod_lt_of_pos _ (by have := cp k; omega)⟩
theorem caseS_nn {cs : List Int} (hc : ∀ c ∈ cs, 2 ≤ c ∧ c ≤ 3) {f : Int} {raw : List Int} (hr : ∀ x ∈ raw, 0 ≤ x) (v : Nat) : ∀ x ∈ caseS cs f raw v, 0 ≤ x := fun x hx => by
  obtain ⟨k, hk⟩ := List.getElem?_of_mem hx
  exact (caseS_rng hc hr v k x hk).1
theorem casesD_fit {d : D25} : (casesD d).length ≤ 40 ∧ ∀ r ∈ casesD d, r.length = (cardsD d).length := by
  refine ⟨by unfold casesD; rw [List.length_map, List.length_take]; omega, fun r hr => ?_⟩
  obtain ⟨q, _, rfl⟩ := List.mem_map.1 hr
  exact caseS_len ..
def RowsN (n : Nat) (xs : List (List Int)) : Prop := ∀ r ∈ xs, r.length = n
theorem RowsN.set {n : Nat} {xs : List (List Int)} (h : RowsN n xs) {i : Nat} {r : List Int} (hr : r.length = n) : RowsN n (xs.set i r) := fun q hq => by
  rcases List.mem_or_eq_of_mem_set hq with h' | rfl
  · exact h q h'
  · exact hr
theorem missS_ok {n : Nat} {xs : List (List Int)} (h : RowsN n xs) (m : Int) : (missS xs m).length = xs.length ∧ RowsN n (missS xs m) := by
  refine ⟨by simp [missS], ?_⟩
  unfold missS
  intro q hq
  rcases List.mem_or_eq_of_mem_set hq with h' | rfl
  · exact h q h'
  · rw [List.length_set]
    rw [List.getD_eq_getElem?_getD]
    cases hk : xs[(m / 5 % (xs.length : Int)).toNat]? with
    | none =>
      exfalso
      have hm : xs.set (m / 5 % (xs.length : Int)).toNat (((xs.getD (m / 5 % (xs.length : Int)).toNat []).set (m % ((xs.getD (m / 5 % (xs.length : Int)).toNat []).length : Int)).toNat (-1))) = xs := by
        apply List.set_eq_of_length_le
        exact List.getElem?_eq_none_iff.1 hk
      rcases Nat.eq_zero_or_pos xs.length with h0 | h0
      · rw [List.eq_nil_of_length_eq_zero h0] at hq
        simp at hq
      · have := Int.emod_lt_of_pos (m / 5) (show (0 : Int) < xs.length by omega)
        have := Int.emod_nonneg (m / 5) (show (xs.length : Int) ≠ 0 by omega)
        have := List.getElem?_eq_none_iff.1 hk
        omega
    | some r => exact h r (List.mem_of_getElem? hk)
theorem missF_ok {n : Nat} (ms : List Int) : ∀ {xs : List (List Int)}, RowsN n xs → (ms.foldl missS xs).length = xs.length ∧ RowsN n (ms.foldl missS xs) := by
  induction ms with
  | nil => intro xs h; exact ⟨rfl, h⟩
  | cons m ms ih =>
    intro xs h
    obtain ⟨a, b⟩ := missS_ok h m
    obtain ⟨c, e⟩ := ih b
    exact ⟨c.trans a, e⟩
theorem missD_ok (d : D25) : (missD d).length ≤ 40 ∧ RowsN (cardsD d).length (missD d) := by
  obtain ⟨a, b⟩ := casesD_fit (d := d)
  obtain ⟨c, e⟩ := missF_ok d.miss (xs := casesD d) b
  exact ⟨by unfold missD; omega, e⟩
theorem app_intG {lo : Nat} {H' : AHeap} {v : AVal} {l : List Int} (x : Int) (h : OwnG lo H' 3 v (ints l)) (hlo : lo ≤ H'.next) (hl : l.length < 2 ^ 40) :
    ∃ v' H2, appendA Tryd.prog (ext H' [.arr 0 3 [.lit (.int .i64 x)]]) (H'.next + 1) 22 22 v (.own H'.next 0 0 1 1) = some (v', H2) ∧ OwnG lo H2 3 v' (ints (l ++ [x])) ∧ H'.next ≤ H2.next ∧ (∀ k, k < H'.next → (∀ g n, v ≠ .own k g 0 n 1) → H2.get k = H'.get k) := by
  obtain ⟨v', H2, hA, hO, hn2, hp⟩ := app_oneG (P := Tryd.prog) (H := H') (t := 22) (x := lin x) (n := H'.next + 1) Tryd.underlying22 Tryd.cells3 Tryd.zero3 rfl (by rw [Tryd.bytes3, ints_length]; omega) h hlo rfl
  simp only [lin] at hA
  exact ⟨v', H2, hA, by simpa [ints, lin] using hO, hn2, hp⟩
theorem ownD2_one {lo : Nat} {H : AHeap} {e1 e0 : TypeId} {v : AVal} {rows : List (List AVal)} (h : OwnD2 lo H e1 e0 v rows) : v.one = true ∧ v.cells = [v] := let ⟨_, a, _⟩ := h; ⟨a.one, a.cells⟩
theorem ownD2_upd {lo : Nat} {H : AHeap} {e1 e0 : TypeId} {v : AVal} {rows : List (List AVal)} (h : OwnD2 lo H e1 e0 v rows) {k : Nat} {b : Blk} (hk : k < lo) : OwnD2 lo (H.upd k b) e1 e0 v rows :=
  let ⟨cs, a, b', c, e⟩ := h
  have u : ∀ {u : AVal} {e : TypeId} {l : List AVal}, OwnG lo H e u l → OwnG lo (H.upd k b) e u l := fun h => h.keep (Nat.le_refl _) (by rw [upd_next]; exact Nat.le_refl _) fun i _ h1 _ _ _ => by rw [upd_get, if_neg (by omega)]
  ⟨cs, u a, b', fun j r q h1 h2 => u (c j r q h1 h2), e⟩
abbrev data25B (d : D25) : Blk := .arr 0 37 [.vec d.cards.length (bytesL d.cards), .vec d.cases.length (casesC d.cases), .lit (.int .u8 d.follow), .vec d.miss.length (bytesL d.miss)]
abbrev dBlk (a b : AVal) : Blk := .arr 0 50 [a, b]
set_option maxHeartbeats 4000000 in
theorem data25_spec (d : D25) (hd : d.Ok) (H : AHeap) (K : ARes → AHeap → Prop) (hK : K (.ret (dataV (cardsD d) (missD d))) H) : ACall Tryd.prog G0 15 [.agg d.cells] H K := by
  refine ACall.clo ⟨_, Tryd.func15, rfl, rfl⟩ fun hcl => ?_
  refine ACall.of_bodyW (n := 139) (rs := [.cell 2 50]) Tryd.func15 rfl rfl rfl (by decide) (by simp) ?_
  refine W.seq (vc_sound _ _ _ (by rfl) ?_)
  simp (config := { maxSteps := 1000000 }) only [go_sem, D25.cells, appendA_U]
  refine W.seq (vc_sound _ _ _ (by rfl) ?_)
  simp (config := { maxSteps := 1000000 }) only [go_sem, appendA_U]
  obtain ⟨H1, hH1⟩ : ∃ H1, H1 = ext H [data25B d, dBlk (.lit (.slice none 0 0)) (.lit (.slice none 0 0)), dBlk (.lit (.slice none 0 0)) (.lit (.slice none 0 0))] := ⟨_, rfl⟩
  have b0 : H1.get H.next = some (data25B d) := by rw [hH1]; exact get_ext0 ..
  have b1 : H1.get (H.next + 1) = some (dBlk (.lit (.slice none 0 0)) (.lit (.slice none 0 0))) := by rw [hH1]; exact get_ext H _ 1 (by simp)
  have b2 : H1.get (H.next + 2) = some (dBlk (.lit (.slice none 0 0)) (.lit (.slice none 0 0))) := by rw [hH1]; exact get_ext H _ 2 (by simp)
  have n1 : H1.next = H.next + 3 := by rw [hH1]; rfl
  have o1 : Over H H1 := by rw [hH1]; exact .ext _ _
  refine W.env fun E hE => ?_
  have e1 : E 1 = .ptr H.next 0 0 := by rw [hE]; simp (config := { maxSteps := 1000000 }) only [go_sem, appendA_U]
  have e2 : E 2 = .ptr (H.next + 1) 0 0 := by rw [hE]; simp (config := { maxSteps := 1000000 }) only [go_sem, appendA_U]
  have e3 : E 3 = .ptr (H.next + 2) 0 0 := by rw [hE]; simp (config := { maxSteps := 1000000 }) only [go_sem, appendA_U]
  clear hE
  rw [← hH1]
  clear hH1
  refine W.midN (fun s' => s'.ρ 1 = .ptr H.next 0 0 ∧ s'.ρ 2 = .ptr (H.next + 1) 0 0 ∧ s'.ρ 3 = .ptr (H.next + 2) 0 0 ∧ H.next + 3 ≤ s'.H.next ∧ (∀ id, id < H.next + 2 → s'.H.get id = H1.get id) ∧ ∃ cv, s'.H.get (H.next + 2) = some (dBlk cv (.lit (.slice none 0 0))) ∧ OwnG (H.next + 3) s'.H 3 cv (ints (cardsK d.cards))) ?_ ?_
  · refine W.seq (vc_sound _ _ _ (by rfl) ?_)
    simp (config := { maxSteps := 1000000 }) only [go_sem, appendA_U]
    refine W.block ?_
    refine W.loop0 34359736336 (by rfl) (fun ρ Hx => ∃ (k : Nat) (cv : AVal), ρ 4 = lin k ∧ k ≤ d.cards.length ∧ k ≤ 5 ∧ H.next + 3 ≤ Hx.next ∧ (∀ id, id < H.next + 2 → Hx.get id = H1.get id) ∧ Hx.get (H.next + 2) = some (dBlk cv (.lit (.slice none 0 0))) ∧ OwnG (H.next + 3) Hx 3 cv (ints ((d.cards.take k).map fun x => 2 + x % 2))) (fun ρ H => 5 - (iv (ρ 4)).toNat) ?_ ?_
    · simp (config := { maxSteps := 1000000 }) only [go_sem, appendA_U]
      exact ⟨0, _, rfl, by omega, by omega, by omega, b2, .nil⟩
    rintro ρ Hx ⟨k, cv, h4, hk, hk5, hn, hold, hb2, hO⟩
    refine vc_sound _ _ _ (by rfl) ?_
    have l0 := get_live ((hold _ (by omega)).trans b0)
    have l2 := get_live hb2
    by_cases c1 : (k : Int) < d.cards.length
    rotate_left
    · simp (config := { maxSteps := 1000000 }) only [go_sem, e1, e2, e3, h4, l0, c1, guardA_undef, appendA_U]
      rw [List.take_of_length_le (by omega)] at hO
      refine ⟨by omega, hold, cv, hb2, ?_⟩
      unfold cardsK
      rw [List.take_of_length_le (by omega)]
      exact hO
    by_cases c2 : (k : Int) < 5
    rotate_left
    · simp (config := { maxSteps := 1000000 }) only [go_sem, e1, e2, e3, h4, l0, c1, c2, guardA_undef, appendA_U]
      obtain rfl : k = 5 := by omega
      exact ⟨by omega, hold, cv, hb2, hO⟩
    obtain ⟨x, hx⟩ := get_of_lt (l := d.cards) (i := k) (by omega)
    have x8 := hd.c8 x (List.mem_of_getElem? hx)
    unfold U8 at x8
    have hx' := bytesL_get hx
    have hxn := ne_of_get hx'
    have m2 : x.tmod 2 = x % 2 := Int.tmod_eq_emod_of_nonneg x8.1
    have u1 : IntKind.u8.wrap (x % 2) = x % 2 := IntWalk.u8_in _ (by omega)
    have u2 := IntWalk.i64_in (x % 2) (by omega)
    have u3 := IntWalk.i64_in (2 + x % 2) (by omega)
    have w1 := IntWalk.i64_in ((k : Int) + 1) (by omega)
    obtain ⟨cv2, H3, hA, hO3, hn3, hp⟩ := app_intG (2 + x % 2) hO hn (by rw [List.length_map, List.length_take]; omega)
    have hcells := hO3.cells
    have hone := hO3.one
    have g3 := (hp _ (by omega) (hO.ne (by omega))).trans hb2
    have l3 := get_live g3
    simp (config := { maxSteps := 1000000 }) only [go_sem, e1, e2, e3, h4, l0, c1, c2, guardA_undef, appendA_U]
    refine W.draw 11 [0, 1, 0, 4, 0, 28, 60, 124, 252, 508, 1020] Tryd.mixed (by kernel_rfl) (by kernel_rfl) ?_
    simp (config := { maxSteps := 1000000 }) only [go_sem, e1, e2, e3, h4, l0, l2, c1, hx', hxn, m2, u1, u2, u3, w1, hA, l3, hcells, hone]
    repeat (refine And.intro (by first | omega | (simp; done) | (simp; omega) | (intros; omega) | exact ⟨rfl, by omega, by omega, all_one_ints _⟩) ?_)
    refine ⟨by rw [upd_next]; omega, ⟨k + 1, cv2, rfl, by omega, by omega, by rw [upd_next]; omega, fun id h => by rw [upd_get, if_neg (by omega), hp id (by omega) (hO.ne (by omega))]; exact hold id h, by rw [upd_get, if_pos rfl], ?_⟩, by omega⟩
    rw [take_succ_get hx, List.map_append]
    exact hO3.keep (Nat.le_refl _) (by rw [upd_next]; omega) fun id g h1 _ _ _ => by rw [upd_get, if_neg (by omega)]
  rintro ⟨ρ1, Ha⟩ ⟨p1, p2, p3, hn, hold, cv, hb2, hO⟩
  simp only at p1 p2 p3 hn hold hb2 hO
  refine W.midN (fun s' => s'.ρ 1 = .ptr H.next 0 0 ∧ s'.ρ 2 = .ptr (H.next + 1) 0 0 ∧ s'.ρ 3 = .ptr (H.next + 2) 0 0 ∧ H.next + 3 ≤ s'.H.next ∧ (∀ id, id < H.next + 2 → s'.H.get id = H1.get id) ∧ s'.H.get (H.next + 2) = some (dBlk (vecI (cardsD d)) (.lit (.slice none 0 0)))) (W.postWeak (Q' := fun e s' => e = .normal ∧ s'.ρ 1 = .ptr H.next 0 0 ∧ s'.ρ 2 = .ptr (H.next + 1) 0 0 ∧ s'.ρ 3 = .ptr (H.next + 2) 0 0 ∧ H.next + 3 ≤ s'.H.next ∧ (∀ id, id < H.next + 2 → s'.H.get id = H1.get id) ∧ ∃ cv, s'.H.get (H.next + 2) = some (dBlk cv (.lit (.slice none 0 0))) ∧ OwnG (H.next + 3) s'.H 3 cv (ints (cardsD d))) ?_ ?_) ?_
  · have l2 := get_live hb2
    have hone := hO.one
    have hlen := own_len hO (d := some (.slice 3)) rfl
    rw [ints_length] at hlen
    refine vc_sound _ _ _ (by rfl) ?_
    by_cases hc : cardsK d.cards = []
    · have hl0 : ((cardsK d.cards).length : Int) = 0 := by rw [hc]; rfl
      have l2e : ∀ L, (ext Ha L).live (H.next + 2) 0 = _ := fun L => (ext_live_old (by omega)).trans l2
      simp (config := { maxSteps := 1000000 }) only [go_sem, p1, p2, p3, l2, l2e, hlen, hl0, appendA_U]
      refine ⟨by rw [upd_next, ext_next]; omega, fun id h => by rw [upd_get, if_neg (by omega), get_ext_old _ _ _ (by omega)]; exact hold id h, .own Ha.next 0 0 1 1, by rw [upd_get, if_pos rfl], ?_⟩
      unfold cardsD
      rw [if_pos hc]
      exact .inr ⟨Ha.next, 0, hn, by rw [upd_next, ext_next]; simp, rfl, by rw [upd_get, if_neg (by omega)]; exact ext1_get_new⟩
    · have hl0 : ¬ ((cardsK d.cards).length : Int) = 0 := fun h => hc (List.eq_nil_of_length_eq_zero (by omega))
      simp (config := { maxSteps := 1000000 }) only [go_sem, p1, p2, p3, l2, hlen, hl0, appendA_U]
      refine ⟨hn, hold, cv, hb2, ?_⟩
      unfold cardsD
      rw [if_neg hc]
      exact hO
  · rintro e ⟨ρ2, Hb⟩ ⟨rfl, q1, q2, q3, qn, qold, cv2, qb, qO⟩
    simp only at q1 q2 q3 qn qold qb qO
    refine ⟨⟨ρ2, Hb.meltN (H.next + 3) (H.next + 2) (dBlk (vecI (cardsD d)) (.lit (.slice none 0 0)))⟩, WeakS.meltN G0_ok qb (by omega) rfl (fun i hi _ => ?_), Nat.le_refl _, trivial, rfl, q1, q2, q3, qn, fun id h => by rw [meltN_other (by omega) (by omega)]; exact qold id h, meltN_ob (by omega)⟩
    match i, hi with
    | 0, _ => exact qO.fzI fun i h => h
    | 1, _ => exact .lit _
  rintro ⟨ρ2, Hb⟩ ⟨p1, p2, p3, hn, hold, hb2⟩
  simp only at p1 p2 p3 hn hold hb2

  obtain ⟨cs, hcs⟩ : ∃ cs, cs = cardsD d := ⟨_, rfl⟩
  obtain ⟨n, hnl⟩ : ∃ n, n = cs.length := ⟨_, rfl⟩
  have n5 : 1 ≤ n ∧ n ≤ 5 := by rw [hnl, hcs]; exact cardsD_len d
  have crng : ∀ c ∈ cs, 2 ≤ c ∧ c ≤ 3 := by rw [hcs]; exact cardsD_rng d
  have hrow : casesD d = (d.cases.take 40).map fun r => caseS cs d.follow r n := by unfold casesD; rw [← hcs, ← hnl]
  rw [← hcs] at hb2
  have clen := casesC_len (l := d.cases) fun r hr => (hd.x8 r hr).1
  have f8 := hd.f8
  unfold U8 at f8
  have fm : d.follow.tmod 8 = d.follow % 8 := Int.tmod_eq_emod_of_nonneg f8.1
  have fu : IntKind.u8.wrap (d.follow % 8) = d.follow % 8 := IntWalk.u8_in _ (by omega)
  have fi := IntWalk.i64_in (d.follow % 8) (by omega)
  refine W.midN (fun s' => s'.ρ 1 = .ptr H.next 0 0 ∧ s'.ρ 2 = .ptr (H.next + 1) 0 0 ∧ s'.ρ 3 = .ptr (H.next + 2) 0 0 ∧ H.next + 3 ≤ s'.H.next ∧ (∀ id, id < H.next + 2 → s'.H.get id = H1.get id) ∧ ∃ xv, s'.H.get (H.next + 2) = some (dBlk (vecI cs) xv) ∧ OwnD2 (H.next + 3) s'.H 22 3 xv ((casesD d).map ints)) ?_ ?_
  · refine W.seq (vc_sound _ _ _ (by rfl) ?_)
    simp (config := { maxSteps := 1000000 }) only [go_sem, appendA_U]
    refine W.block ?_
    refine W.loop0 633825300114114698549328347616 (by rfl) (fun ρ Hi => ∃ (i : Nat) (xv : AVal), ρ 5 = lin i ∧ i ≤ d.cases.length ∧ i ≤ 40 ∧ Hb.next ≤ Hi.next ∧ (∀ id, id < H.next + 2 → Hi.get id = H1.get id) ∧ Hi.get (H.next + 2) = some (dBlk (vecI cs) xv) ∧ OwnD2 (H.next + 3) Hi 22 3 xv (((d.cases.take i).map fun r => caseS cs d.follow r n).map ints)) (fun ρ H => 40 - (iv (ρ 5)).toNat) ?_ ?_
    · simp (config := { maxSteps := 1000000 }) only [go_sem, appendA_U]
      exact ⟨0, _, rfl, by omega, by omega, hold, hb2, .nil⟩
    rintro ρ Hi ⟨i, xv, h5, hi, hi4, hni', holdi, hbi, hD⟩
    have hni : H.next + 3 ≤ Hi.next := by omega
    refine W.env fun E hE => ?_
    have a1 : E 1 = .ptr H.next 0 0 := by rw [hE]; simp (config := { maxSteps := 1000000 }) only [go_sem, p1, appendA_U]
    have a2 : E 2 = .ptr (H.next + 1) 0 0 := by rw [hE]; simp (config := { maxSteps := 1000000 }) only [go_sem, p2, appendA_U]
    have a3 : E 3 = .ptr (H.next + 2) 0 0 := by rw [hE]; simp (config := { maxSteps := 1000000 }) only [go_sem, p3, appendA_U]
    have a5 : E 5 = lin i := by rw [hE]; simp (config := { maxSteps := 1000000 }) only [go_sem, h5, appendA_U]
    clear hE
    have l0 := get_live ((holdi _ (by omega)).trans b0)
    have l2 := get_live hbi
    by_cases c1 : (i : Int) < d.cases.length
    rotate_left
    · refine vc_sound _ _ _ (by rfl) ?_
      simp (config := { maxSteps := 1000000 }) only [go_sem, a1, a2, a3, a5, l0, c1, guardA_undef, appendA_U]
      rw [List.take_of_length_le (by omega)] at hD
      refine ⟨by omega, holdi, xv, hbi, ?_⟩
      rw [hrow, List.take_of_length_le (by omega)]
      exact hD
    by_cases c2 : (i : Int) < 40
    rotate_left
    · refine vc_sound _ _ _ (by rfl) ?_
      simp (config := { maxSteps := 1000000 }) only [go_sem, a1, a2, a3, a5, l0, c1, c2, guardA_undef, appendA_U]
      obtain rfl : i = 40 := by omega
      refine ⟨by omega, holdi, xv, hbi, ?_⟩
      rw [hrow]
      exact hD
    obtain ⟨raw, hraw⟩ := get_of_lt (l := d.cases) (i := i) (by omega)
    obtain ⟨r5, r8⟩ := hd.x8 raw (List.mem_of_getElem? hraw)
    have rnn : ∀ x ∈ raw, 0 ≤ x := fun x hx => (r8 x hx).1
    refine W.seq (vc_sound _ _ _ (by rfl) ?_)
    simp (config := { maxSteps := 1000000 }) only [go_sem, a1, a2, a3, a5, l0, c1, c2, guardA_undef, appendA_U]
    refine W.seq (W.block ?_)
    refine W.seq (vc_sound _ _ _ (by rfl) ?_)
    simp (config := { maxSteps := 1000000 }) only [go_sem, appendA_U]
    refine W.midN (fun s' => s'.ρ 1 = .ptr H.next 0 0 ∧ s'.ρ 2 = .ptr (H.next + 1) 0 0 ∧ s'.ρ 3 = .ptr (H.next + 2) 0 0 ∧ s'.ρ 5 = lin i ∧ Over Hi s'.H ∧ OwnG Hi.next s'.H 3 (s'.ρ 6) (ints (caseS cs d.follow raw n))) ?_ ?_
    · refine W.seq (vc_sound _ _ _ (by rfl) ?_)
      simp (config := { maxSteps := 1000000 }) only [go_sem, appendA_U]
      refine W.block ?_
      refine W.loop0 9903520314278538599565623744 (by rfl) (fun ρ2 Hj => ∃ v : Nat, ρ2 7 = lin v ∧ v ≤ n ∧ Over Hi Hj ∧ OwnG Hi.next Hj 3 (ρ2 6) (ints (caseS cs d.follow raw v))) (fun ρ2 H => n - (iv (ρ2 7)).toNat) ?_ ?_
      · simp (config := { maxSteps := 1000000 }) only [go_sem, appendA_U]
        exact ⟨0, rfl, by omega, .refl _, .nil⟩
      rintro ρ3 Hj ⟨v, h7, hv, ov, hO⟩
      refine W.env fun E2 hE2 => ?_
      have d1 : E2 1 = .ptr H.next 0 0 := by rw [hE2]; simp (config := { maxSteps := 1000000 }) only [go_sem, a1, appendA_U]
      have d2 : E2 2 = .ptr (H.next + 1) 0 0 := by rw [hE2]; simp (config := { maxSteps := 1000000 }) only [go_sem, a2, appendA_U]
      have d3 : E2 3 = .ptr (H.next + 2) 0 0 := by rw [hE2]; simp (config := { maxSteps := 1000000 }) only [go_sem, a3, appendA_U]
      have d5 : E2 5 = lin i := by rw [hE2]; simp (config := { maxSteps := 1000000 }) only [go_sem, a5, appendA_U]
      have d7 : E2 7 = lin v := by rw [hE2]; simp (config := { maxSteps := 1000000 }) only [go_sem, h7, appendA_U]
      obtain ⟨cv, hcv⟩ : ∃ cv, cv = ρ3 6 := ⟨_, rfl⟩
      have d6 : E2 6 = cv := by rw [hE2, hcv]; simp (config := { maxSteps := 1000000 }) only [go_sem, appendA_U]
      rw [← hcv] at hO
      clear hE2
      have m0 := (ov.live (g := 0) (by omega : H.next < Hi.next)).trans l0
      have m2 := (ov.live (g := 0) (by omega : H.next + 2 < Hi.next)).trans l2
      have ovn := ov.next
      by_cases c3 : (v : Int) < cs.length
      rotate_left
      · refine vc_sound _ _ _ (by rfl) ?_
        simp (config := { maxSteps := 1000000 }) only [go_sem, d1, d2, d3, d5, d6, d7, m0, m2, c3, appendA_U]
        obtain rfl : v = n := by omega
        exact ⟨ov, hO⟩
      obtain ⟨x, hx⟩ := get_of_lt (l := raw) (i := v) (by omega)
      obtain ⟨c, hc⟩ := get_of_lt (l := cs) (i := v) (by omega)
      have x8 := r8 x (List.mem_of_getElem? hx)
      unfold U8 at x8
      have hxc := casesC_get (fun r hr => (hd.x8 r hr).1) hraw hx
      have hxn := ne_of_get hxc
      have v5 : (v : Int) < 5 := by omega
      have ux := IntWalk.i64_in x (by omega)
      refine W.seq (vc_sound _ _ _ (by rfl) ?_)
      simp (config := { maxSteps := 1000000 }) only [go_sem, d1, d2, d3, d5, d6, d7, m0, m2, c3, appendA_U]
      refine W.seq (W.block ?_)
      refine W.seq (vc_sound _ _ _ (by rfl) ?_)
      simp (config := { maxSteps := 1000000 }) only [go_sem, d1, d2, d3, d5, d6, d7, m0, m2, c1, hxc, hxn, v5, ux, appendA_U]
      have xm : x.tmod 8 = x % 8 := Int.tmod_eq_emod_of_nonneg x8.1
      have cl := caseS_len cs d.follow raw v
      obtain ⟨y, hy⟩ : ∃ y, y = (if 0 < v ∧ raw.getD v 0 % 8 < d.follow % 8 then (caseS cs d.follow raw v).getD (v - 1) 0 else raw.getD v 0) := ⟨_, rfl⟩
      have hxd := getD_of_get (d := 0) hx
      have y0 : 0 ≤ y := by
        rw [hy]
        split
        · exact getD_nn (caseS_nn crng rnn v) _
        · rw [hxd]; exact x8.1
      have yb : y < 256 := by
        rw [hy]
        split
        · rw [List.getD_eq_getElem?_getD]
          cases hk : (caseS cs d.follow raw v)[v - 1]? with
          | none => decide
          | some z =>
            have h1 := (caseS_rng crng rnn v _ z hk).2
            rw [List.getD_eq_getElem?_getD] at h1
            cases hk2 : cs[v - 1]? with
            | none => rw [hk2] at h1; simp at h1 ⊢; omega
            | some q => rw [hk2] at h1; have := crng q (List.mem_of_getElem? hk2); simp at h1 ⊢; omega
        · rw [hxd]; exact x8.2
      refine W.midN (fun s' => s'.ρ 1 = .ptr H.next 0 0 ∧ s'.ρ 2 = .ptr (H.next + 1) 0 0 ∧ s'.ρ 3 = .ptr (H.next + 2) 0 0 ∧ s'.ρ 5 = lin i ∧ s'.ρ 6 = cv ∧ s'.ρ 7 = lin v ∧ s'.ρ 8 = lin y ∧ s'.H = Hj) ?_ ?_
      · refine vc_sound _ _ _ (by rfl) ?_
        rw [hxd] at hy
        by_cases g1 : (v : Int) > 0
        rotate_left
        · rw [if_neg (by omega)] at hy
          simp (config := { maxSteps := 1000000 }) only [go_sem, d1, d2, d3, d5, d6, d7, m0, m2, g1, guardA_undef, hy, appendA_U]
        by_cases g2 : x % 8 < d.follow % 8
        rotate_left
        · rw [if_neg (by omega)] at hy
          simp (config := { maxSteps := 1000000 }) only [go_sem, d1, d2, d3, d5, d6, d7, m0, m2, g1, xm, fm, fu, fi, g2, guardA_undef, hy, appendA_U]
        rw [if_pos (by omega)] at hy
        obtain ⟨z, hz⟩ := get_of_lt (l := caseS cs d.follow raw v) (i := v - 1) (by omega)
        rw [getD_of_get hz] at hy
        rcases hO with ⟨_, e⟩ | ⟨ic, gc, _, _, e, hgc⟩
        · have := congrArg List.length e
          rw [ints_length, cl, List.length_nil] at this
          omega
        · rw [ints_length, cl] at e
          have lc := get_live hgc
          have zn := ne_of_get hz
          have wv := IntWalk.i64_in ((v - 1 : Nat) : Int) (by omega)
          have ev : (v : Int) - 1 = ((v - 1 : Nat) : Int) := by omega
          have vl : ((v - 1 : Nat) : Int) < v := by omega
          rw [e] at d6
          simp (config := { maxSteps := 1000000 }) only [go_sem, d1, d2, d3, d5, d6, d7, m0, m2, g1, xm, fm, fu, fi, g2, guardA_undef, wv, ev, lc, hz, zn, vl, hy, e, appendA_U]
      rintro ⟨ρ4, H4⟩ ⟨r1, r2, r3, r5', r6, r7, r8', rfl⟩
      simp only at r1 r2 r3 r5' r6 r7 r8'
      have c23 := crng c (List.mem_of_getElem? hc)
      have cz : ¬ c = 0 := by omega
      have cn := ne_of_get hc
      have ym : y.tmod c = y % c := Int.tmod_eq_emod_of_nonneg y0
      have ymr := Int.emod_lt_of_pos y (show 0 < c by omega)
      have ymn := Int.emod_nonneg y (show c ≠ 0 by omega)
      have uy := IntWalk.i64_in (y % c) (by omega)
      have w1 := IntWalk.i64_in ((v : Int) + 1) (by omega)
      obtain ⟨cv2, H5, hA, hO5, hn5, hp⟩ := app_intG (y % c) hO ovn (by rw [cl]; omega)
      refine vc_sound _ _ _ (by rfl) ?_
      simp (config := { maxSteps := 1000000 }) only [go_sem, r1, r2, r3, r5', r6, r7, r8', m0, m2, c3, hc, cn, cz, ym, uy, hA]
      refine vc_sound _ _ _ (by rfl) ?_
      simp (config := { maxSteps := 1000000 }) only [go_sem, r7, w1, appendA_U]
      have o5 : Over Hi H5 := ⟨by omega, fun id h => (hp id (by omega) (hO.ne h)).trans (ov.old id h)⟩
      refine ⟨by omega, ⟨v + 1, rfl, by omega, o5, ?_⟩, by rw [h7]; simp only [lin, iv_int]; omega⟩
      rw [show caseS cs d.follow raw (v + 1) = caseS cs d.follow raw v ++ [y % c] by rw [hy]; show _ ++ [_ % cs.getD v 2] = _; rw [getD_of_get hc]]
      exact hO5
    rintro ⟨ρ4, Hk⟩ ⟨r1, r2, r3, r5', ov, hO⟩
    simp only at r1 r2 r3 r5' ov hO
    obtain ⟨rv, hrv⟩ : ∃ rv, ρ4 6 = rv := ⟨_, rfl⟩
    rw [hrv] at hO
    have ovn := ov.next
    have w1 := IntWalk.i64_in ((i : Int) + 1) (by omega)
    obtain ⟨xv2, H5, hA, hD5, hn5, hp⟩ := OwnD2.app (P := Tryd.prog) (n := Hk.next + 1) (t := 48) Tryd.underlying48 Tryd.cells22 Tryd.zero22 Tryd.bytes22 (by decide) (by rw [List.length_map, List.length_map, List.length_take]; omega) hD ov hni hO rfl
    have k2 := (ov.live (g := 0) (by omega : H.next + 2 < Hi.next)).trans l2
    have k2e : ∀ L, (ext Hk L).live (H.next + 2) 0 = _ := fun L => (ext_live_old (by omega)).trans k2
    have k5 : H5.live (H.next + 2) 0 = _ := get_live ((hp _ (by omega) (by omega)).trans ((ov.old _ (by omega)).trans hbi))
    obtain ⟨xone, xcells⟩ := ownD2_one hD5
    refine vc_sound _ _ _ (by rfl) ?_
    have rvo := hO.one
    have rvc := hO.cells
    simp (config := { maxSteps := 1000000 }) only [go_sem, r1, r2, r3, r5', hrv, k2, k2e, hA, k5, xone, xcells, rvo, rvc]
    refine vc_sound _ _ _ (by rfl) ?_
    simp (config := { maxSteps := 1000000 }) only [go_sem, r5', w1, appendA_U]
    refine ⟨by rw [upd_next]; omega, ⟨i + 1, xv2, rfl, by omega, by omega, by rw [upd_next]; omega, fun id h => by rw [upd_get, if_neg (by omega), hp id (by omega) (by omega), ov.old id (by omega)]; exact holdi id h, by rw [upd_get, if_pos rfl], ?_⟩, by rw [h5]; simp only [lin, iv_int]; omega⟩
    rw [take_succ_get hraw, List.map_append, List.map_append]
    exact ownD2_upd hD5 (by omega)
  rintro ⟨ρ5, Hc⟩ ⟨p1, p2, p3, hn, hold, xv, hb2, hD⟩
  simp only at p1 p2 p3 hn hold hb2 hD
  refine W.seq (vc_sound _ _ _ (by rfl) ?_)
  simp (config := { maxSteps := 1000000 }) only [go_sem, appendA_U]
  have cfit := casesD_fit (d := d)
  rw [← hcs] at cfit
  refine W.loop0 348449143726407161286381483309382296929792 (by rfl) (fun ρ Hi => ∃ (i : Nat) (xv : AVal) (xs : List (List Int)), ρ 9 = lin i ∧ i ≤ d.miss.length ∧ xs = (d.miss.take i).foldl missS (casesD d) ∧ Hc.next ≤ Hi.next ∧ (∀ id, id < H.next + 2 → Hi.get id = H1.get id) ∧ Hi.get (H.next + 2) = some (dBlk (vecI cs) xv) ∧ OwnD2 (H.next + 3) Hi 22 3 xv (xs.map ints)) (fun ρ H => d.miss.length - (iv (ρ 9)).toNat) ?_ ?_
  · simp (config := { maxSteps := 1000000 }) only [go_sem, appendA_U]
    exact ⟨0, _, _, rfl, by omega, rfl, hold, hb2, hD⟩
  rintro ρ Hi ⟨i, xv, xs, h9, hi, hxs, hni', holdi, hbi, hDi⟩
  have hni : H.next + 3 ≤ Hi.next := by omega
  refine vc_sound _ _ _ (by rfl) ?_
  have l0 := get_live ((holdi _ (by omega)).trans b0)
  have l1 := get_live ((holdi _ (by omega)).trans b1)
  have l2 := get_live hbi
  obtain ⟨xone, xcells⟩ := ownD2_one hDi
  obtain ⟨mlen, mrow⟩ := missF_ok (n := cs.length) (d.miss.take i) (xs := casesD d) cfit.2
  rw [← hxs] at mlen mrow
  have fin : missD d = xs → FinV Tryd.prog G0 H K (.agg [vecI cs, xv]) (Hi.upd (H.next + 1) (dBlk (vecI cs) xv)) := fun hm => by
    rw [← hcs, hm] at hK
    refine FinV.dropO G0_ok hcl ⟨by rw [upd_next]; omega, fun id h => by rw [upd_get, if_neg (by omega), holdi id (by omega)]; exact o1.old id h⟩ (fz_data (.keepInts _) (fz_rows (ownD2_upd hDi (by omega)).toG fun i hi => by omega)) hK
  have hlen : ∃ dd, dd = some (TypeDesc.slice 22) ∧ lenU dd Hi xv = some (.lit (.int .i64 xs.length)) := by
    obtain ⟨ocs, oG, oL, _, _⟩ := hDi
    have := own_len oG (d := some (.slice 22)) rfl
    rw [oL, List.length_map] at this
    exact ⟨_, rfl, this⟩
  obtain ⟨_, rfl, hlen⟩ := hlen
  by_cases c1 : (i : Int) < d.miss.length
  rotate_left
  · simp (config := { maxSteps := 1000000 }) only [go_sem, p1, p2, p3, h9, l0, l1, l2, c1, xone, xcells, guardA_undef, appendA_U]
    refine vc_sound _ _ _ (by rfl) ?_
    simp (config := { maxSteps := 1000000 }) only [go_sem, p1, p2, p3, h9, l0, l1, l2, c1, xone, xcells, guardA_undef, appendA_U]
    exact fin (by rw [hxs, List.take_of_length_le (by omega)]; rfl)
  by_cases c2 : (xs.length : Int) > 0
  rotate_left
  · simp (config := { maxSteps := 1000000 }) only [go_sem, p1, p2, p3, h9, l0, l1, l2, c1, c2, hlen, xone, xcells, guardA_undef, appendA_U]
    refine vc_sound _ _ _ (by rfl) ?_
    simp (config := { maxSteps := 1000000 }) only [go_sem, p1, p2, p3, h9, l0, l1, l2, c1, xone, xcells, guardA_undef, appendA_U]
    refine fin ?_
    have h1 := (missF_ok (n := cs.length) d.miss (xs := casesD d) cfit.2).1
    rw [List.eq_nil_of_length_eq_zero (l := xs) (by omega)]
    exact List.eq_nil_of_length_eq_zero (by unfold missD; omega)
  obtain ⟨m, hm⟩ := get_of_lt (l := d.miss) (i := i) (by omega)
  have m8 := hd.m8 m (List.mem_of_getElem? hm)
  unfold U8 at m8
  have hm' := bytesL_get hm
  have hmn := ne_of_get hm'
  have kr := Int.emod_lt_of_pos (m / 5) (show (0 : Int) < xs.length by omega)
  have kn := Int.emod_nonneg (m / 5) (show (xs.length : Int) ≠ 0 by omega)
  obtain ⟨k, hk⟩ := Int.eq_ofNat_of_zero_le kn
  obtain ⟨r, hr⟩ := get_of_lt (l := xs) (i := k) (by omega)
  have rl := mrow r (List.mem_of_getElem? hr)
  have jr := Int.emod_lt_of_pos m (show (0 : Int) < r.length by omega)
  have jn := Int.emod_nonneg m (show (r.length : Int) ≠ 0 by omega)
  obtain ⟨j, hj⟩ := Int.eq_ofNat_of_zero_le jn
  obtain ⟨idt, gt, idr, gr, cells, hxv, hgt, hcl2, it1, it2, hck, hgr, ir1, ir2, hset⟩ := OwnD2.row hDi (by decide) (k := k) (r := ints r) (by rw [List.getElem?_map, hr]; rfl) (by intro e; have := congrArg List.length e; rw [ints_length, List.length_nil] at this; omega)
  rw [List.length_map] at hxv hcl2
  rw [ints_length] at hck
  have lt := get_live hgt
  have lr := get_live hgr
  have cne := ne_of_get hck
  have q5 : m.tdiv 5 = m / 5 := Int.tdiv_eq_ediv_of_nonneg m8.1
  have u1 : IntKind.u8.wrap (m / 5) = m / 5 := IntWalk.u8_in _ (by omega)
  have u2 := IntWalk.i64_in (m / 5) (by omega)
  have u3 : (m / 5).tmod (xs.length : Int) = k := by rw [Int.tmod_eq_emod_of_nonneg (by omega)]; exact hk
  have u4 := IntWalk.i64_in (k : Int) (by omega)
  have u5 := IntWalk.i64_in m (by omega)
  have u6 : m.tmod (r.length : Int) = j := by rw [Int.tmod_eq_emod_of_nonneg (by omega)]; exact hj
  have u7 := IntWalk.i64_in (j : Int) (by omega)
  have x0 : ¬ (xs.length : Int) = 0 := by omega
  have r0 : ¬ (r.length : Int) = 0 := by omega
  have kl : (k : Int) < xs.length := by omega
  have jl : (j : Int) < r.length := by omega
  have ml := hd.ml
  have w1 := IntWalk.i64_in ((i : Int) + 1) (by omega)
  rw [hxv] at l2 hlen
  simp (config := { maxSteps := 1000000 }) only [go_sem, p1, p2, p3, h9, l0, l1, l2, c1, c2, hlen, guardA_undef, appendA_U]
  refine W.draw 13 [0, 1, 0, 4, 0, 28, 60, 124, 252, 0, 512, 1536, 4092] Tryd.mixed (by kernel_rfl) (by kernel_rfl) ?_
  simp (config := { maxSteps := 1000000 }) only [go_sem, p1, p2, p3, h9, l0, l1, l2, c1, hm', hmn, q5, u1, u2, u3, u4, u5, u6, u7, x0, r0, kl, jl, lt, lr, hck, cne, w1, appendA_U]
  refine ⟨by omega, by rw [upd_next]; omega, ⟨i + 1, xv, xs.set k (r.set j (-1)), rfl, by omega, ?_, by rw [upd_next]; omega, fun id h => by rw [upd_get, if_neg (by omega)]; exact holdi id h, ?_, ?_⟩, by omega⟩
  · rw [take_succ_get hm, List.foldl_append, ← hxs]
    show _ = missS xs m
    unfold missS
    simp only [hk, Int.ofNat_eq_natCast, Int.toNat_natCast, getD_of_get hr, hj]
  · rw [upd_get, if_neg (by omega), hbi, hxv]; rfl
  · rw [setAt_ints (by omega), List.map_set]
    exact hset (ints (r.set j (-1))) (by rw [ints_length, ints_length, List.length_set])
end Go.Proofs
