/- Own work: contracts. -/
import Derived.Test.YtikgmgmphkalkaaDoorConF
import Derived.Test.YtikgmgmphkalkaaDoorConC
import Derived.Test.YtikgmgmphkalkaaDoorConB
import Derived.Test.YtikgmgmphkalkaaDoorConD
set_option linter.all false
set_option maxRecDepth 100000
namespace Go.Proofs
open Go.Hx
theorem rowB_ok {c n g : Int} {q : List Int} (hq : q ≠ []) : rowB c n g q ≠ [] ∧ (rowB c n g q).length ≤ q.length + 1 := by
  have hl : 0 < q.length := List.length_pos_iff.2 hq
  have : 0 < (rowB c n g q).length ∧ (rowB c n g q).length ≤ q.length + 1 := by
    unfold rowB
    split
    · rw [List.length_set]; omega
    · split
      · simp
      · split
        · rw [List.length_cons, List.length_replicate]; omega
        · rw [revS_len]; omega
  exact ⟨List.length_pos_iff.1 this.1, this.2⟩
theorem bnodeB_ok {m : Nat} {c r n g : Int} {x : NodeP} (hx : x.parents.length ≤ m ∧ x.rows.length ≤ m ∧ ∀ r ∈ x.rows, r ≠ [] ∧ r.length ≤ m) :
    ((bnodeB c r n g x).1.parents.length ≤ m + 1 ∧ (bnodeB c r n g x).1.rows.length ≤ m + 1 ∧ ∀ r' ∈ (bnodeB c r n g x).1.rows, r' ≠ [] ∧ r'.length ≤ m + 1) ∧ ((bnodeB c r n g x).2 = vecV (bnodeB c r n g x).1.rows ∨ (bnodeB c r n g x).2 = rowsE (bnodeB c r n g x).1) ∧ ((¬ c = 5 ∨ x.rows = []) → (bnodeB c r n g x).2 = rowsE (bnodeB c r n g x).1) := by
  obtain ⟨h1, h2, h3⟩ := hx
  have h3' : ∀ r ∈ x.rows, r ≠ [] ∧ r.length ≤ m + 1 := fun r hr => ⟨(h3 r hr).1, by have := (h3 r hr).2; omega⟩
  unfold bnodeB
  split
  · exact ⟨⟨by show x.parents.length ≤ _; omega, by show x.rows.length ≤ _; omega, h3'⟩, .inr rfl, fun _ => rfl⟩
  · split
    · exact ⟨⟨by simp; omega, by show x.rows.length ≤ _; omega, h3'⟩, .inr rfl, fun _ => rfl⟩
    · split
      · exact ⟨⟨by simp, by show x.rows.length ≤ _; omega, h3'⟩, .inr rfl, fun _ => rfl⟩
      · split
        · refine ⟨⟨by show x.parents.length ≤ _; omega, by simp; omega, fun r hr => ?_⟩, .inr rfl, fun _ => rfl⟩
          rcases List.mem_append.1 hr with h | h
          · exact h3' r h
          · obtain rfl := List.mem_singleton.1 h
            exact ⟨by simp, by simp⟩
        · split
          · exact ⟨⟨by show x.parents.length ≤ _; omega, by show x.rows.length ≤ _; omega, h3'⟩, .inr rfl, fun _ => rfl⟩
          · rename_i q hq
            have hql := get_lt hq
            split
            · rename_i c5
              refine ⟨⟨by show x.parents.length ≤ _; omega, by simp; omega, fun r hr => h3' r (List.mem_of_mem_take hr)⟩, .inl rfl, fun h => ?_⟩
              rcases h with h | h
              · exact absurd c5 h
              · rw [h] at hql; simp at hql
            · have hq2 := h3 q (List.mem_of_getElem? hq)
              have hrb := rowB_ok (c := c) (n := n) (g := g) hq2.1
              have hne : x.rows.set (r % (x.rows.length : Int)).toNat (rowB c n g q) ≠ [] := fun h => by
                have := congrArg List.length h
                rw [List.length_set] at this
                simp at this
                rw [this] at hql
                simp at hql
              refine ⟨⟨by show x.parents.length ≤ _; omega, by show (x.rows.set _ _).length ≤ _; rw [List.length_set]; omega, fun r' hr => ?_⟩, .inl rfl, fun _ => (rowsE_ne (x := { x with rows := x.rows.set (r % (x.rows.length : Int)).toNat (rowB c n g q) }) hne).symm⟩
              rcases List.mem_or_eq_of_mem_set hr with h | rfl
              · exact h3' r' h
              · exact ⟨hrb.1, by omega⟩
theorem nodesQ_self {ns : List NodeP} {A : Nat} {x : NodeP} (hx : ns[A]? = some x) (e : Nat → Prop) : NodesQ e ns (cellsAt ns A (lin x.card) (vecI x.parents) (rowsE x)) := by
  have := nodesQ_set (e := e) (x' := x) (rv := rowsE x) (get_lt hx) (.inr rfl) fun _ => rfl
  rw [set_get_self hx] at this
  exact this
theorem bendN_ok {m A : Nat} {c r n g : Int} {ns : List NodeP} (hs : SmallN m ns) : SmallN (m + 1) (bendN c A r n g ns).2.1 ∧ NodesQ (fun v => ¬ c = 5 ∨ ∀ x, ns[v]? = some x → x.rows = []) (bendN c A r n g ns).2.1 (bendN c A r n g ns).2.2 ∧ (bendN c A r n g ns).2.1.length ≤ ns.length + 1 := by
  have hs1 := hs.mono (Nat.le_succ m)
  unfold bendN
  split
  · exact ⟨⟨by simp, fun x hx => by simp at hx⟩, ⟨rfl, fun v x hx => by simp at hx⟩, by simp⟩
  · rename_i x hx
    have hA := get_lt hx
    have hxm := hs.node x (List.mem_of_getElem? hx)
    have nq := nodesQ_self hx (fun v => ¬ c = 5 ∨ ∀ x, ns[v]? = some x → x.rows = [])
    split
    · exact ⟨hs1, nq, Nat.le_succ _⟩
    · split
      · refine ⟨⟨by have := hs.len; simp; omega, fun y hy => ?_⟩, nq.snoc (x := ⟨1, [], [[g]]⟩) (.inr rfl) fun _ => rfl, by simp⟩
        rcases List.mem_append.1 hy with hy | hy
        · exact hs1.node y hy
        · obtain rfl := List.mem_singleton.1 hy
          exact ⟨by simp, by simp, fun r hr => by simp at hr; subst hr; exact ⟨by simp, by simp⟩⟩
      · split
        · exact ⟨hs1.take _, nq.take _, by simp; omega⟩
        · obtain ⟨b1, b2, b3⟩ := bnodeB_ok (c := c) (r := r) (n := n) (g := g) hxm
          refine ⟨hs1.set b1, nodesQ_set hA b2 fun he => b3 ?_, by rw [List.length_set]; exact Nat.le_succ _⟩
          rcases he with he | he
          · exact .inl he
          · exact .inr (he x hx)
end Go.Proofs
namespace Go.Hx
open Go.Proofs (get_lt get_of_lt)
variable {P : Program} {H : AHeap} {G : Nat → Option (List AVal)}
def OwnD2 (lo : Nat) (H : AHeap) (e1 e0 : TypeId) (v : AVal) (rows : List (List AVal)) : Prop :=
  ∃ cs : List AVal, OwnG lo H e1 v cs ∧ cs.length = rows.length ∧ (∀ (j : Nat) (r : List AVal) (c : AVal), rows[j]? = some r → cs[j]? = some c → OwnG lo H e0 c r) ∧ ∀ (i j a g g' n n' : Nat), cs[i]? = some (.own a g 0 n 1) → cs[j]? = some (.own a g' 0 n' 1) → i = j
theorem OwnD2.nil {lo : Nat} {e1 e0 : TypeId} : OwnD2 lo H e1 e0 (.lit (.slice none 0 0)) [] := ⟨[], .nil, rfl, fun j r c h => by simp at h, fun i j a g g' n n' h => by simp at h⟩
theorem OwnD2.toG {lo : Nat} {e1 e0 : TypeId} {v : AVal} {rows : List (List AVal)} (h : OwnD2 lo H e1 e0 v rows) : OwnG2 lo H e1 e0 v rows :=
  let ⟨cs, a, b, c, _⟩ := h; ⟨cs, a, b, c⟩
theorem OwnD2.lo {lo lo' : Nat} {e1 e0 : TypeId} {v : AVal} {rows : List (List AVal)} (h : OwnD2 lo H e1 e0 v rows) (hl : lo' ≤ lo) : OwnD2 lo' H e1 e0 v rows :=
  let ⟨cs, a, b, c, d⟩ := h; ⟨cs, a.keep hl (Nat.le_refl _) fun _ _ _ _ _ _ => rfl, b, fun j r q h1 h2 => (c j r q h1 h2).keep hl (Nat.le_refl _) fun _ _ _ _ _ _ => rfl, d⟩
theorem OwnD2.app {Hx : AHeap} {lo n : Nat} {e1 e0 : TypeId} {v x : AVal} {rows : List (List AVal)} {r : List AVal} {t : TypeId} {z : List AVal} (ht : P.underlying t = some (.slice e1)) (hz : P.cellsOf e1 = 1) (hzero : zeroA P e1 = some z) (hby : P.bytesOf e1 = 24) (hne : e1 ≠ e0)
    (hb : rows.length < 2 ^ 40) (h : OwnD2 lo Hx e1 e0 v rows) (ho : Over Hx H) (hlo : lo ≤ Hx.next) (hx : OwnG Hx.next H e0 x r) (hn : n = H.next + 1) :
    ∃ v' H', appendA P (ext H [.arr 0 e1 [x]]) n t t v (.own H.next 0 0 1 1) = some (v', H') ∧ OwnD2 lo H' e1 e0 v' (rows ++ [r]) ∧ H.next ≤ H'.next ∧ (∀ k, k < H.next → k < lo → H'.get k = H.get k) := by
  obtain ⟨cs, h1, h2, h3, h4⟩ := h
  have hon := ho.next
  have h1' := h1.over ho
  obtain ⟨v', H', hA, hO, hL, hp⟩ := app_oneG (P := P) (t := t) ht hz hzero hx.one (by rw [hby, h2]; omega) h1' (by omega) hn
  have key : ∀ lo' u l, OwnG lo' H e0 u l → OwnG lo' H' e0 u l := fun lo' u l hu => h1'.otherE hu hne hL hp
  have split : ∀ (j : Nat) (c : AVal), (cs ++ [x])[j]? = some c → (j < cs.length ∧ cs[j]? = some c) ∨ (j = cs.length ∧ c = x) := fun j c hc => by
    rcases Nat.lt_or_ge j cs.length with hj | hj
    · rw [List.getElem?_append_left hj] at hc
      exact .inl ⟨hj, hc⟩
    · have := get_lt hc
      rw [List.length_append, List.length_singleton] at this
      have hj : j = cs.length := by omega
      subst hj
      rw [List.getElem?_append_right (Nat.le_refl _), Nat.sub_self] at hc
      exact .inr ⟨rfl, (Option.some.inj hc).symm⟩
  have old : ∀ (j a g m : Nat), cs[j]? = some (.own a g 0 m 1) → a < Hx.next := fun j a g m hc => by
    obtain ⟨r', hr'⟩ : ∃ r', rows[j]? = some r' := ⟨_, List.getElem?_eq_getElem (by rw [← h2]; exact get_lt hc)⟩
    rcases h3 j r' _ hr' hc with ⟨e, _⟩ | ⟨i, g', _, b, e, _⟩
    · cases e
    · rw [(AVal.own.inj e).1]; exact b
  have new : ∀ a g m, x = .own a g 0 m 1 → Hx.next ≤ a := fun a g m he => by
    rcases hx with ⟨e, _⟩ | ⟨i, g', b, _, e, _⟩
    · rw [e] at he; cases he
    · rw [e] at he; rw [← (AVal.own.inj he).1]; exact b
  refine ⟨v', H', hA, ⟨cs ++ [x], hO, by simp [h2], fun j r' c hr hc => ?_, fun i j a g g' m m' hi hj => ?_⟩, hL, fun k hk hkl => hp k hk (h1.ne hkl)⟩
  · rcases split j c hc with ⟨a, b⟩ | ⟨a, b⟩
    · rw [List.getElem?_append_left (by omega)] at hr
      exact key _ _ _ ((h3 j r' c hr b).over ho)
    · rw [a, h2, List.getElem?_append_right (Nat.le_refl _), Nat.sub_self] at hr
      cases hr
      rw [b]
      exact key _ _ _ (hx.keep hlo (Nat.le_refl _) fun _ _ _ _ _ _ => rfl)
  · rcases split i _ hi with ⟨a1, b1⟩ | ⟨a1, b1⟩ <;> rcases split j _ hj with ⟨a2, b2⟩ | ⟨a2, b2⟩
    · exact h4 i j a g g' m m' b1 b2
    · have := old i a g m b1
      have := new a g' m' b2.symm
      omega
    · have := old j a g' m' b2
      have := new a g m b1.symm
      omega
    · omega
theorem OwnD2.row {lo : Nat} {e1 e0 : TypeId} {v : AVal} {rows : List (List AVal)} (h : OwnD2 lo H e1 e0 v rows) (hne : e1 ≠ e0) {k : Nat} {r : List AVal} (hr : rows[k]? = some r) (h0 : r ≠ []) :
    ∃ idt gt idr gr cells, v = .own idt gt 0 rows.length 1 ∧ H.get idt = some (.arr gt e1 cells) ∧ cells.length = rows.length ∧ lo ≤ idt ∧ idt < H.next ∧ cells[k]? = some (.own idr gr 0 r.length 1) ∧ H.get idr = some (.arr gr e0 r) ∧ lo ≤ idr ∧ idr < H.next ∧
      ∀ r' : List AVal, r'.length = r.length → OwnD2 lo (H.upd idr (.arr gr e0 r')) e1 e0 v (rows.set k r') := by
  obtain ⟨cs, h1, h2, h3, h4⟩ := h
  have hk := get_lt hr
  obtain ⟨c, hc⟩ := get_of_lt (l := cs) (i := k) (by omega)
  rcases h3 k r c hr hc with ⟨_, e⟩ | ⟨idr, gr, a1, a2, e, a4⟩
  · exact absurd e h0
  rcases h1 with ⟨_, e'⟩ | ⟨idt, gt, b1, b2, e', b4⟩
  · rw [e'] at h2; simp at h2; omega
  subst e
  have hit : idt ≠ idr := fun e => by rw [e, a4] at b4; cases b4; exact hne rfl
  refine ⟨idt, gt, idr, gr, cs, by rw [e', h2], b4, h2, b1, b2, hc, a4, a1, a2, fun r' hl => ⟨cs, .inr ⟨idt, gt, b1, by rw [upd_next]; exact b2, e', by rw [upd_get, if_neg hit]; exact b4⟩, by rw [List.length_set]; exact h2, fun j q c' hj hc' => ?_, h4⟩⟩
  by_cases e : j = k
  · subst e
    rw [List.getElem?_set_self hk] at hj
    rw [hc] at hc'
    cases hj
    cases hc'
    exact .inr ⟨idr, gr, a1, by rw [upd_next]; exact a2, by rw [hl], by rw [upd_get, if_pos rfl]⟩
  · rw [List.getElem?_set_ne (fun h => e h.symm)] at hj
    refine (h3 j q c' hj hc').keep (Nat.le_refl _) (by rw [upd_next]; exact Nat.le_refl _) fun i g _ _ _ hv => ?_
    rw [upd_get, if_neg]
    rintro rfl
    rw [hv] at hc'
    exact e (h4 j k i g gr _ _ hc' hc)
end Go.Hx
namespace Go.Proofs
open Go.Hx
theorem fz_rows {S : Nat → Prop} {lo nx : Nat} {H : AHeap} {e1 e0 : TypeId} {v : AVal} {ps : List (List Int)} (h : OwnG2 lo H e1 e0 v (ps.map ints)) (hS : ∀ i, lo ≤ i → S i) : Fz S H nx v (vecV ps) := by
  have := h.fz (S := S) (nx := nx) (rows' := ps.map ints) hS rfl fun j r r' h1 h2 => by
    rw [h1] at h2
    cases h2
    refine ⟨rfl, fun i hi _ => ?_⟩
    rw [List.getElem?_map] at h1
    obtain ⟨z, _, rfl⟩ := Option.map_eq_some_iff.1 h1
    have e0 : (ints z)[i]? = some (ints z)[i] := List.getElem?_eq_getElem hi
    generalize (ints z)[i] = a at e0 ⊢
    rw [ints_get] at e0
    obtain ⟨b, _, rfl⟩ := Option.map_eq_some_iff.1 e0
    exact .lit _
  rw [List.length_map, List.map_map] at this
  have e : (ps.map ((fun r : List AVal => AVal.vec r.length r) ∘ ints)) = ps.map vecI := List.map_congr_left fun z _ => by simp [Function.comp, vecI, ints_length]
  rw [e] at this
  exact this
end Go.Proofs
namespace Go.Hx
variable {P : Program} {G : Nat → Option (List AVal)}
def AHeap.meltN (H : AHeap) (n ob : Nat) (b : Blk) : AHeap := ⟨fun id => if n ≤ id then none else if id = ob then some b else H.get id, H.next⟩
theorem meltN_ob {H : AHeap} {n ob : Nat} {b : Blk} (h : ob < n) : (H.meltN n ob b).get ob = some b := by simp [AHeap.meltN, Nat.not_le.2 h]
theorem meltN_other {H : AHeap} {n ob id : Nat} {b : Blk} (h : id < n) (h2 : id ≠ ob) : (H.meltN n ob b).get id = H.get id := by simp [AHeap.meltN, Nat.not_le.2 h, h2]
theorem fzH_meltN {H : AHeap} (hc : Clo H) {n ob g : Nat} {e : TypeId} {cells cells' : List AVal} (hob : H.get ob = some (.arr g e cells)) (hlt : ob < n) (hl : cells'.length = cells.length)
    (hcell : ∀ i (h : i < cells.length) (h' : i < cells'.length), Fz (fun id => n ≤ id) H H.next cells[i] cells'[i]) : FzH (fun id => n ≤ id) H (H.meltN n ob (.arr g e cells')) where
  gone id hs := by simp [AHeap.meltN, hs]
  kept id b hs hb := by
    have hbb := hc.below id b hb
    refine ⟨hc.lt id b hb, ?_⟩
    by_cases h : id = ob
    · subst h
      rw [hob] at hb
      cases hb
      exact ⟨.arr g e cells', by simp [AHeap.meltN, hs], rfl, rfl, hl, hcell⟩
    · refine ⟨b, by simp [AHeap.meltN, hs, h, hb], ?_⟩
      cases b with
      | rsv => trivial
      | mp => rfl
      | arr g e cells => exact ⟨rfl, rfl, rfl, fun i h _ => .dead (hbb i h)⟩
      | loop st pend n env ps asg body => exact ⟨rfl, rfl, rfl, rfl, rfl, rfl, rfl, fun t ht => .dead (hbb t ht)⟩
  none id hs hb := by
    by_cases h : id = ob
    · subst h; rw [hob] at hb; cases hb
    · simp [AHeap.meltN, hs, h, hb]
theorem WeakS.meltN (hG : GOk G) {s : St} {n ob g : Nat} {e : TypeId} {cells cells' : List AVal} (hob : s.H.get ob = some (.arr g e cells)) (hlt : ob < n) (hl : cells'.length = cells.length)
    (hcell : ∀ i (h : i < cells.length) (h' : i < cells'.length), Fz (fun id => n ≤ id) s.H s.H.next cells[i] cells'[i]) : WeakS P G s ⟨s.ρ, s.H.meltN n ob (.arr g e cells')⟩ := by
  intro n' wb Γ a w hs
  exact WeakS.freeze (s := s) (s' := ⟨s.ρ, s.H.meltN n ob (.arr g e cells')⟩) hG (fzH_meltN hs.heap.clo hob hlt hl hcell) (fun t => .dead (hs.env t).belowN) n' wb Γ a w hs
theorem OwnG2.upd {lo : Nat} {H : AHeap} {e1 e0 : TypeId} {v : AVal} {rows : List (List AVal)} (h : OwnG2 lo H e1 e0 v rows) {k : Nat} {b : Blk} (hk : k < lo) : OwnG2 lo (H.upd k b) e1 e0 v rows := by
  obtain ⟨cs, c1, c2, c3⟩ := h
  refine ⟨cs, c1.keep (Nat.le_refl _) (by rw [upd_next]; exact Nat.le_refl _) fun id _ h1 _ _ _ => by rw [upd_get, if_neg (by omega)], c2, fun j r c hr hc => (c3 j r c hr hc).keep (Nat.le_refl _) (by rw [upd_next]; exact Nat.le_refl _) fun id _ h1 _ _ _ => by rw [upd_get, if_neg (by omega)]⟩
end Go.Hx
namespace Go.Hx
variable {P : Program} {G : Nat → Option (List AVal)}
theorem fzH_id {H : AHeap} (hc : Clo H) : FzH (fun _ => False) H H where
  gone id hs := hs.elim
  kept id b _ hb := by
    have hbb := hc.below id b hb
    refine ⟨hc.lt id b hb, b, hb, ?_⟩
    cases b with
    | rsv => trivial
    | mp => rfl
    | arr g e cells => exact ⟨rfl, rfl, rfl, fun i h _ => .dead (hbb i h)⟩
    | loop st pend n env ps asg body => exact ⟨rfl, rfl, rfl, rfl, rfl, rfl, rfl, fun t ht => .dead (hbb t ht)⟩
  none id _ hb := hb
theorem ACall.weakArgs {H : AHeap} {f : FuncId} {args args' : List AVal} {K : ARes → AHeap → Prop} (hG : GOk G) (hl : args'.length = args.length) (hv : ∀ i (h : i < args.length) (h' : i < args'.length), Fz (fun _ => False) H H.next args[i] args'[i])
    (h : ACall P G f args' H K) : ACall P G f args H K := by
  refine ⟨h.1, fun Γ w cargs R hr => ?_⟩
  have F := fzH_id R.clo
  have R0 := F.rel hG R
  have E0 : Evo Γ H w (gamF (fun _ => False) Γ) H w := F.evo
  refine (h.2 _ w cargs R0 ⟨by have := hr.1; omega, fun i h1 h2 => (hv i (by omega) h1).sound R F (hr.2 i (by omega) h2)⟩).mono ?_
  rintro e w' ⟨r, H', Γ', h1, h2, h3, h4, h5⟩
  exact ⟨r, H', Γ', h1, h2, h3, E0.trans (Nat.le_refl _) h4, h5⟩
end Go.Hx
namespace Go.Proofs
open Go.Hx
def dataV (cs : List Int) (xs : List (List Int)) : AVal := .agg [vecI cs, vecV xs]
def CaseOk (cs r : List Int) : Prop := r.length = cs.length ∧ ∀ (v : Nat) (c x : Int), cs[v]? = some c → r[v]? = some x → -1 ≤ x ∧ x < c
structure DataOk (cs : List Int) (xs : List (List Int)) : Prop where
  c1 : 1 ≤ cs.length ∧ cs.length ≤ 6
  x1 : xs.length ≤ 40
  card : ∀ c ∈ cs, 2 ≤ c ∧ c ≤ 4
  size : prodL cs ≤ 1024
  row : ∀ r ∈ xs, CaseOk cs r
noncomputable def dataB (cs : List Int) (xs : List (List Int)) : Bool := @decide (DataOk cs xs) (Classical.propDecidable _)
theorem dataB_true {cs : List Int} {xs : List (List Int)} (h : DataOk cs xs) : dataB cs xs = true := by unfold dataB; exact @decide_eq_true _ (Classical.propDecidable _) h
theorem dataB_false {cs : List Int} {xs : List (List Int)} (h : ¬ DataOk cs xs) : dataB cs xs = false := by unfold dataB; exact @decide_eq_false _ (Classical.propDecidable _) h
theorem dataB_iff {cs : List Int} {xs : List (List Int)} : dataB cs xs = true ↔ DataOk cs xs := by unfold dataB; exact @decide_eq_true_iff _ (Classical.propDecidable _)
def DataFit (cs : List Int) (xs : List (List Int)) : Prop := (cs.length : Int) < 2 ^ 38 ∧ (xs.length : Int) < 2 ^ 38 ∧ ∀ r ∈ xs, (r.length : Int) < 2 ^ 38
theorem vecV_get {xs : List (List Int)} {k : Nat} {r : List Int} (h : xs[k]? = some r) : (xs.map vecI)[k]? = some (.vec r.length (ints r)) := by rw [List.getElem?_map, h]; rfl
theorem small4 {l : List Int} (h : ∀ c ∈ l, 2 ≤ c ∧ c ≤ 4) (hl : l.length ≤ 6) : 1 ≤ prodL l ∧ prodL l ≤ 4096 := by
  have h1 := prodL_le_pow (b := 4) (by omega) (l := l) fun x hx => by have := h x hx; omega
  have h2 := prodL_pos (l := l) fun x hx => by have := h x hx; omega
  have h3 : (4 : Nat) ^ l.length ≤ 4 ^ 6 := Nat.pow_le_pow_right (by decide) hl
  have h4 : ((4 : Int) ^ l.length) ≤ 4 ^ 6 := by exact_mod_cast h3
  have : (4 : Int) ^ 6 = 4096 := by decide
  omega
theorem CaseOk.of {cs r : List Int} (hl : r.length = cs.length) (h : ∀ (v : Nat) (c x : Int), v < r.length → cs[v]? = some c → r[v]? = some x → -1 ≤ x ∧ x < c) : CaseOk cs r := ⟨hl, fun v c x h1 h2 => h v c x (get_lt h2) h1 h2⟩
def wholeB (r : List Int) : Bool := decide (∀ x ∈ r, ¬ x < 0)
theorem wholeB_no {r : List Int} {k : Nat} {x : Int} (h : r[k]? = some x) (hx : x < 0) : wholeB r = false := by
  unfold wholeB
  exact decide_eq_false fun hh => hh x (List.mem_of_getElem? h) hx
theorem wholeB_yes {r : List Int} (h : ∀ x ∈ r, ¬ x < 0) : wholeB r = true := by unfold wholeB; exact decide_eq_true h
theorem whole_len {xs : List (List Int)} : (xs.filter wholeB).length = xs.length ↔ ∀ r ∈ xs, wholeB r = true := List.length_filter_eq_length_iff
theorem whole_fits {cs : List Int} {r : List Int} (h : CaseOk cs r) (hw : wholeB r = true) : FitsC cs r := ⟨h.1, fun k c v h1 h2 => by
  have := of_decide_eq_true hw v (List.mem_of_getElem? h2)
  have := h.2 k c v h1 h2
  omega⟩
theorem whole_iff {cs r : List Int} (h : CaseOk cs r) : wholeB r = true ↔ (-1 : Int) ∉ r := by
  constructor
  · intro hw hm
    exact of_decide_eq_true hw (-1) hm (by decide)
  · intro hm
    refine wholeB_yes fun x hx hlt => ?_
    obtain ⟨k, hk⟩ := List.getElem?_of_mem hx
    obtain ⟨c, hc⟩ := get_of_lt (l := cs) (i := k) (by rw [← h.1]; exact get_lt hk)
    have := h.2 k c x hc hk
    exact hm (by rw [show (-1 : Int) = x by omega]; exact hx)
set_option maxHeartbeats 1000000 in
theorem check25_spec (cs : List Int) (xs : List (List Int)) (hf : DataFit cs xs) (H : AHeap) (K : ARes → AHeap → Prop) (hK : K (.ret (lin (if dataB cs xs then 0 else 250))) H) : ACall Tryd.prog G0 52 [dataV cs xs] H K := by
  refine ACall.clo ⟨_, Tryd.func52, rfl, rfl⟩ fun hcl => ?_
  have no : ¬ DataOk cs xs → ∀ H', Over H H' → FinV Tryd.prog G0 H K (lin 250) H' := fun h H' ov => FinV.dropO G0_ok hcl ov (.lit _) (by rw [dataB_false h] at hK; exact hK)
  obtain ⟨f1, f2, f3⟩ := hf
  refine ACall.of_body (n := 80) (rs := [.tmp 2]) Tryd.func52 rfl rfl rfl (by decide) (by kernel_rfl) (by simp) ?_
  simp (config := { maxSteps := 1000000 }) only [go_sem, dataV, vecV, appendA_U]
  obtain ⟨H1, hH1⟩ : ∃ H1, H1 = ext H [.arr 0 50 [.vec cs.length (ints cs), .vec xs.length (xs.map vecI)]] := ⟨_, rfl⟩
  have l1 : H1.live H.next 0 = some (50, [.vec cs.length (ints cs), .vec xs.length (xs.map vecI)]) := by rw [hH1]; exact get_live (get_ext0 ..)
  have o1 : Over H H1 := by rw [hH1]; exact .ext _ _
  rw [← hH1]
  by_cases c1 : (cs.length : Int) < 1
  · simp (config := { maxSteps := 1000000 }) only [go_sem, l1, c1, guardA_undef, appendA_U]
    exact no (fun h => by have := h.c1; omega) _ o1
  by_cases c2 : (cs.length : Int) > 6
  · simp (config := { maxSteps := 1000000 }) only [go_sem, l1, c1, c2, guardA_undef, appendA_U]
    exact no (fun h => by have := h.c1; omega) _ o1
  by_cases c3 : (xs.length : Int) > 40
  · simp (config := { maxSteps := 1000000 }) only [go_sem, l1, c1, c2, c3, guardA_undef, appendA_U]
    exact no (fun h => by have := h.x1; omega) _ o1
  simp (config := { maxSteps := 1000000 }) only [go_sem, l1, c1, c2, c3, guardA_undef, appendA_U]
  refine W.loop0 17591112302636 (by rfl) (fun ρ H' => H' = H1 ∧ ∃ k : Nat, ρ 30 = lin k ∧ k ≤ cs.length ∧ (∀ c ∈ cs.take k, 2 ≤ c ∧ c ≤ 4) ∧ ρ 3 = lin (prodL (cs.take k))) (fun ρ H => cs.length - (iv (ρ 30)).toNat) ?_ ?_
  · simp (config := { maxSteps := 1000000 }) only [go_sem, appendA_U]
    exact ⟨0, rfl, by omega, by simp, by simp [prodL_nil]⟩
  rintro ρ H' ⟨rfl, k, h30, hk, hall, h3⟩
  refine vc_sound _ _ _ (by rfl) ?_
  by_cases hb : (k : Int) < cs.length
  · obtain ⟨c, hc⟩ := get_of_lt (l := cs) (i := k) (by omega)
    have hne := ne_of_get hc
    have hcm := List.mem_of_getElem? hc
    by_cases d1 : c < 2
    · simp (config := { maxSteps := 1000000 }) only [go_sem, h30, hb, hne, hc, d1, guardA_undef, appendA_U]
      exact no (fun h => by have := h.card c hcm; omega) _ o1
    by_cases d2 : c > 4
    · simp (config := { maxSteps := 1000000 }) only [go_sem, h30, hb, hne, hc, d1, d2, guardA_undef, appendA_U]
      exact no (fun h => by have := h.card c hcm; omega) _ o1
    have hall' : ∀ y ∈ cs.take (k + 1), 2 ≤ y ∧ y ≤ 4 := fun y hy => by
      rw [take_succ_get hc] at hy
      rcases List.mem_append.1 hy with hy | hy
      · exact hall y hy
      · obtain rfl := List.mem_singleton.1 hy; omega
    have b1 := small4 hall' (by simp; omega)
    rw [take_succ_get hc, prodL_snoc] at b1
    have w1 := IntWalk.i64_in ((k : Int) + 1) (by omega)
    have w2 := IntWalk.i64_in (prodL (cs.take k) * c) (by omega)
    simp (config := { maxSteps := 1000000 }) only [go_sem, h30, h3, hb, hne, hc, d1, d2, w1, w2, guardA_undef, appendA_U]
    exact ⟨⟨k + 1, rfl, by omega, hall', by rw [take_succ_get hc, prodL_snoc]⟩, by omega⟩
  rw [List.take_of_length_le (by omega)] at hall h3
  by_cases c4 : prodL cs > 1024
  · simp (config := { maxSteps := 1000000 }) only [go_sem, h30, h3, hb, c4, appendA_U]
    exact no (fun h => by have := h.size; omega) _ o1
  simp (config := { maxSteps := 1000000 }) only [go_sem, h30, h3, hb, c4, l1, appendA_U]
  refine W.loop0 604462909244364633933632 (by rfl) (fun ρ Ha => Ha = H' ∧ ∃ k : Nat, ρ 49 = lin k ∧ k ≤ xs.length ∧ (∀ r ∈ xs.take k, CaseOk cs r) ∧ ρ 6 = lin 0) (fun ρ H => xs.length - (iv (ρ 49)).toNat) ?_ ?_
  · simp (config := { maxSteps := 1000000 }) only [go_sem, appendA_U]
    exact ⟨0, rfl, by omega, by simp⟩
  rintro ρ' Ha ⟨rfl, i, h49, hi, hrows, h6⟩
  refine vc_sound _ _ _ (by rfl) ?_
  by_cases hb2 : (i : Int) < xs.length
  rotate_left
  · simp (config := { maxSteps := 1000000 }) only [go_sem, h49, h6, hb2, appendA_U]
    rw [List.take_of_length_le (by omega)] at hrows
    rw [dataB_true ⟨by omega, by omega, hall, by omega, hrows⟩] at hK
    exact FinV.dropO G0_ok hcl o1 (.lit _) hK
  obtain ⟨r, hr⟩ := get_of_lt (l := xs) (i := i) (by omega)
  have hrm := List.mem_of_getElem? hr
  have hr' := vecV_get hr
  have hrn := ne_of_get hr'
  by_cases hl : (r.length : Int) = cs.length
  rotate_left
  · simp (config := { maxSteps := 1000000 }) only [go_sem, h49, hb2, hr', hrn, l1, hl, appendA_U]
    exact no (fun h => hl (by have := (h.row r hrm).1; omega)) _ o1
  simp (config := { maxSteps := 1000000 }) only [go_sem, h49, h6, hb2, hr', hrn, l1, hl, appendA_U]
  refine W.loop0 302229149060648079984192 (by rfl) (fun ρ2 Hb => Hb = Ha ∧ ∃ j : Nat, ρ2 61 = lin j ∧ j ≤ r.length ∧ (∀ (v : Nat) (c x : Int), v < j → cs[v]? = some c → r[v]? = some x → -1 ≤ x ∧ x < c) ∧ ρ2 6 = lin 0) (fun ρ2 H => r.length - (iv (ρ2 61)).toNat) ?_ ?_
  · simp (config := { maxSteps := 1000000 }) only [go_sem, h6, appendA_U]
    exact ⟨0, rfl, by omega, fun v _ _ h => by omega⟩
  rintro ρ2 Hb ⟨rfl, j, h61, hj, hin, h6'⟩
  refine vc_sound _ _ _ (by rfl) ?_
  have w1 := IntWalk.i64_in ((i : Int) + 1) (by omega)
  by_cases hb3 : (j : Int) < cs.length
  · obtain ⟨x, hx⟩ := get_of_lt (l := r) (i := j) (by omega)
    obtain ⟨c, hc⟩ := get_of_lt (l := cs) (i := j) (by omega)
    have hxn := ne_of_get hx
    have hcn := ne_of_get hc
    by_cases d1 : x < -1
    · simp (config := { maxSteps := 1000000 }) only [go_sem, h61, hb3, hl, hx, hxn, d1, guardA_undef, appendA_U]
      exact no (fun h => by have := (h.row r hrm).2 j c x hc hx; omega) _ o1
    by_cases d2 : x ≥ c
    · simp (config := { maxSteps := 1000000 }) only [go_sem, h61, hb3, hl, hx, hxn, hc, hcn, l1, d1, d2, guardA_undef, appendA_U]
      exact no (fun h => by have := (h.row r hrm).2 j c x hc hx; omega) _ o1
    have w2 := IntWalk.i64_in ((j : Int) + 1) (by omega)
    simp (config := { maxSteps := 1000000 }) only [go_sem, h61, h6', hb3, hl, hx, hxn, hc, hcn, l1, d1, d2, w2, guardA_undef, appendA_U]
    refine ⟨⟨j + 1, rfl, by omega, fun v c' x' hv h1 h2 => ?_⟩, by omega⟩
    rcases Nat.lt_or_ge v j with h | h
    · exact hin v c' x' h h1 h2
    · obtain rfl : v = j := by omega
      rw [hc] at h1; rw [hx] at h2
      cases h1; cases h2; omega
  · simp (config := { maxSteps := 1000000 }) only [go_sem, h61, h6', h49, hb3, hl, w1, appendA_U]
    refine ⟨⟨i + 1, rfl, by omega, fun q hq => ?_⟩, by omega⟩
    rw [take_succ_get hr] at hq
    rcases List.mem_append.1 hq with hq | hq
    · exact hrows q hq
    · obtain rfl := List.mem_singleton.1 hq
      exact .of (by omega) fun v c x hv => hin v c x (by omega)
set_option maxHeartbeats 1000000 in
theorem right25_spec (cs : List Int) (xs : List (List Int)) (hf : DataFit cs xs) (H : AHeap) (K : ARes → AHeap → Prop) (hK : K (.ret (.lit (.bool (dataB cs xs)))) H) : ACall Tryd.prog G0 20 [dataV cs xs] H K := by
  refine ACall.clo ⟨_, Tryd.func20, rfl, rfl⟩ fun hcl => ?_
  have no : ¬ DataOk cs xs → ∀ H', Over H H' → FinV Tryd.prog G0 H K (.lit (.bool false)) H' := fun h H' ov => FinV.dropO G0_ok hcl ov (.lit _) (by rw [dataB_false h] at hK; exact hK)
  obtain ⟨f1, f2, f3⟩ := hf
  refine ACall.of_body (n := 102) (rs := [.tmp 2]) Tryd.func20 rfl rfl rfl (by decide) (by kernel_rfl) (by simp) ?_
  simp (config := { maxSteps := 1000000 }) only [go_sem, dataV, vecV, appendA_U]
  obtain ⟨H1, hH1⟩ : ∃ H1, H1 = ext H [.arr 0 50 [.vec cs.length (ints cs), .vec xs.length (xs.map vecI)]] := ⟨_, rfl⟩
  have l1 : H1.live H.next 0 = some (50, [.vec cs.length (ints cs), .vec xs.length (xs.map vecI)]) := by rw [hH1]; exact get_live (get_ext0 ..)
  have o1 : Over H H1 := by rw [hH1]; exact .ext _ _
  rw [← hH1]
  by_cases c1 : (cs.length : Int) < 1
  · simp (config := { maxSteps := 1000000 }) only [go_sem, l1, c1, guardA_undef, appendA_U]
    exact no (fun h => by have := h.c1; omega) _ o1
  by_cases c2 : (cs.length : Int) > 6
  · simp (config := { maxSteps := 1000000 }) only [go_sem, l1, c1, c2, guardA_undef, appendA_U]
    exact no (fun h => by have := h.c1; omega) _ o1
  by_cases c3 : (xs.length : Int) > 40
  · simp (config := { maxSteps := 1000000 }) only [go_sem, l1, c1, c2, c3, guardA_undef, appendA_U]
    exact no (fun h => by have := h.x1; omega) _ o1
  simp (config := { maxSteps := 1000000 }) only [go_sem, l1, c1, c2, c3, guardA_undef, appendA_U]
  refine W.loop0 2251799805296668 (by rfl) (fun ρ H' => H' = H1 ∧ ∃ k : Nat, ρ 4 = lin k ∧ k ≤ cs.length ∧ (∀ c ∈ cs.take k, 2 ≤ c ∧ c ≤ 4) ∧ ρ 3 = lin (prodL (cs.take k))) (fun ρ H => cs.length - (iv (ρ 4)).toNat) ?_ ?_
  · simp (config := { maxSteps := 1000000 }) only [go_sem, appendA_U]
    exact ⟨0, rfl, by omega, by simp, by simp [prodL_nil]⟩
  rintro ρ H' ⟨rfl, k, h30, hk, hall, h3⟩
  refine vc_sound _ _ _ (by rfl) ?_
  by_cases hb : (k : Int) < cs.length
  · obtain ⟨c, hc⟩ := get_of_lt (l := cs) (i := k) (by omega)
    have hne := ne_of_get hc
    have hcm := List.mem_of_getElem? hc
    by_cases d1 : c < 2
    · simp (config := { maxSteps := 1000000 }) only [go_sem, h30, hb, hne, hc, d1, l1, guardA_undef, appendA_U]
      exact no (fun h => by have := h.card c hcm; omega) _ o1
    by_cases d2 : c > 4
    · simp (config := { maxSteps := 1000000 }) only [go_sem, h30, hb, hne, hc, d1, d2, l1, guardA_undef, appendA_U]
      exact no (fun h => by have := h.card c hcm; omega) _ o1
    have hall' : ∀ y ∈ cs.take (k + 1), 2 ≤ y ∧ y ≤ 4 := fun y hy => by
      rw [take_succ_get hc] at hy
      rcases List.mem_append.1 hy with hy | hy
      · exact hall y hy
      · obtain rfl := List.mem_singleton.1 hy; omega
    have b1 := small4 hall' (by simp; omega)
    rw [take_succ_get hc, prodL_snoc] at b1
    have w1 := IntWalk.i64_in ((k : Int) + 1) (by omega)
    have w2 := IntWalk.i64_in (prodL (cs.take k) * c) (by omega)
    simp (config := { maxSteps := 1000000 }) only [go_sem, h30, h3, hb, hne, hc, d1, d2, w1, w2, l1, guardA_undef, appendA_U]
    exact ⟨⟨k + 1, rfl, by omega, hall', by rw [take_succ_get hc, prodL_snoc]⟩, by omega⟩
  rw [List.take_of_length_le (by omega)] at hall h3
  simp (config := { maxSteps := 1000000 }) only [go_sem, h30, h3, hb, l1, appendA_U]
  refine W.loop0 1267650600228227149696889520228 (by rfl) (fun ρ' Ha => Ha = H' ∧ ∃ k : Nat, ρ' 5 = lin k ∧ k ≤ xs.length ∧ ∀ r ∈ xs.take k, CaseOk cs r) (fun ρ' H => xs.length - (iv (ρ' 5)).toNat) ?_ ?_
  · simp (config := { maxSteps := 1000000 }) only [go_sem, appendA_U]
    exact ⟨0, rfl, by omega, by simp⟩
  rintro ρ' Ha ⟨rfl, i, h5, hi, hrows⟩
  refine vc_sound _ _ _ (by rfl) ?_
  by_cases hb2 : (i : Int) < xs.length
  rotate_left
  · rw [List.take_of_length_le (by omega)] at hrows
    by_cases c4 : prodL cs ≤ 1024
    · simp (config := { maxSteps := 1000000 }) only [go_sem, h5, h3, hb2, l1, c4, appendA_U]
      rw [dataB_true ⟨by omega, by omega, hall, by omega, hrows⟩] at hK
      exact FinV.dropO G0_ok hcl o1 (.lit _) hK
    · simp (config := { maxSteps := 1000000 }) only [go_sem, h5, h3, hb2, l1, c4, appendA_U]
      exact no (fun h => by have := h.size; omega) _ o1
  obtain ⟨r, hr⟩ := get_of_lt (l := xs) (i := i) (by omega)
  have hrm := List.mem_of_getElem? hr
  have hr' := vecV_get hr
  have hrn := ne_of_get hr'
  simp (config := { maxSteps := 1000000 }) only [go_sem, h5, hb2, l1, appendA_U]
  refine W.draw 9 [0, 1, 0, 7, 15, 31, 0, 64, 192] Tryd.mixed (by kernel_rfl) (by kernel_rfl) ?_
  by_cases hl : (r.length : Int) = cs.length
  rotate_left
  · simp (config := { maxSteps := 1000000 }) only [go_sem, h5, hb2, hr', hrn, l1, hl, appendA_U]
    exact no (fun h => hl (by have := (h.row r hrm).1; omega)) _ o1
  simp (config := { maxSteps := 1000000 }) only [go_sem, h5, hb2, hr', hrn, l1, hl, appendA_U]
  refine W.loop0 1267650599933081496317350379588 (by rfl) (fun ρ2 Hb => Hb = Ha ∧ ∃ j : Nat, ρ2 6 = lin j ∧ j ≤ r.length ∧ (∀ (v : Nat) (c x : Int), v < j → cs[v]? = some c → r[v]? = some x → -1 ≤ x ∧ x < c)) (fun ρ2 H => r.length - (iv (ρ2 6)).toNat) ?_ ?_
  · simp (config := { maxSteps := 1000000 }) only [go_sem, appendA_U]
    exact ⟨0, rfl, by omega, fun v _ _ h => by omega⟩
  rintro ρ2 Hb ⟨rfl, j, h6, hj, hin⟩
  refine vc_sound _ _ _ (by rfl) ?_
  have w1 := IntWalk.i64_in ((i : Int) + 1) (by omega)
  by_cases hb3 : (j : Int) < cs.length
  · obtain ⟨x, hx⟩ := get_of_lt (l := r) (i := j) (by omega)
    obtain ⟨c, hc⟩ := get_of_lt (l := cs) (i := j) (by omega)
    have hxn := ne_of_get hx
    have hcn := ne_of_get hc
    simp (config := { maxSteps := 1000000 }) only [go_sem, h6, hb3, l1, appendA_U]
    refine W.draw 23 [0, 1, 0, 7, 15, 0, 63, 127, 255, 511, 1023, 2047, 1023, 8191, 16383, 1023, 65535, 131071, 1023, 263167, 1023, 1836031, 3933183] Tryd.mixed (by kernel_rfl) (by kernel_rfl) ?_
    by_cases d1 : x < -1
    · simp (config := { maxSteps := 1000000 }) only [go_sem, h6, h5, hb2, hr', hrn, hb3, hl, hx, hxn, l1, d1, guardA_undef, appendA_U]
      exact no (fun h => by have := (h.row r hrm).2 j c x hc hx; omega) _ o1
    by_cases d2 : x ≥ c
    · simp (config := { maxSteps := 1000000 }) only [go_sem, h6, h5, hb2, hr', hrn, hb3, hl, hx, hxn, hc, hcn, l1, d1, d2, guardA_undef, appendA_U]
      exact no (fun h => by have := (h.row r hrm).2 j c x hc hx; omega) _ o1
    have w2 := IntWalk.i64_in ((j : Int) + 1) (by omega)
    simp (config := { maxSteps := 1000000 }) only [go_sem, h6, h5, hb2, hr', hrn, hb3, hl, hx, hxn, hc, hcn, l1, d1, d2, w2, guardA_undef, appendA_U]
    refine ⟨⟨j + 1, rfl, by omega, fun v c' x' hv h1 h2 => ?_⟩, by omega⟩
    rcases Nat.lt_or_ge v j with h | h
    · exact hin v c' x' h h1 h2
    · obtain rfl : v = j := by omega
      rw [hc] at h1; rw [hx] at h2
      cases h1; cases h2; omega
  · simp (config := { maxSteps := 1000000 }) only [go_sem, h6, h5, hb3, hl, l1, w1, appendA_U]
    refine ⟨⟨i + 1, rfl, by omega, fun q hq => ?_⟩, by omega⟩
    rw [take_succ_get hr] at hq
    rcases List.mem_append.1 hq with hq | hq
    · exact hrows q hq
    · obtain rfl := List.mem_singleton.1 hq
      exact .of (by omega) fun v c x hv => hin v c x (by omega)
theorem whole1_spec (r : List Int) (hr : (r.length : Int) < 2 ^ 62) (H : AHeap) (K : ARes → AHeap → Prop) (hK : K (.ret (.lit (.bool (wholeB r)))) H) : ACall Tryd.prog G0 108 [vecI r] H K := by
  refine ACall.of_body (n := 15) (rs := [.tmp 2]) Tryd.func108 rfl rfl rfl (by decide) (by kernel_rfl) (by simp) ?_
  simp (config := { maxSteps := 1000000 }) only [go_sem, appendA_U]
  refine W.loop0 32764 (by rfl) (fun ρ H' => H' = H ∧ ∃ k : Nat, ρ 3 = lin k ∧ k ≤ r.length ∧ ∀ x ∈ r.take k, ¬ x < 0) (fun ρ H => r.length - (iv (ρ 3)).toNat) ?_ ?_
  · simp (config := { maxSteps := 1000000 }) only [go_sem, appendA_U]
    exact ⟨0, rfl, by omega, by simp⟩
  rintro ρ H' ⟨rfl, k, h3, hk, hall⟩
  refine vc_sound _ _ _ (by rfl) ?_
  by_cases hb : (k : Int) < r.length
  · obtain ⟨x, hx⟩ := get_of_lt (l := r) (i := k) (by omega)
    have hne := ne_of_get hx
    by_cases d : x < 0
    · simp (config := { maxSteps := 1000000 }) only [go_sem, h3, hb, hx, hne, d, appendA_U]
      rw [wholeB_no hx d] at hK
      exact FinV.mk (Nat.le_refl _) hK
    have w1 := IntWalk.i64_in ((k : Int) + 1) (by omega)
    simp (config := { maxSteps := 1000000 }) only [go_sem, h3, hb, hx, hne, d, w1, appendA_U]
    refine ⟨⟨k + 1, rfl, by omega, fun y hy => ?_⟩, by omega⟩
    rw [take_succ_get hx] at hy
    rcases List.mem_append.1 hy with hy | hy
    · exact hall y hy
    · obtain rfl := List.mem_singleton.1 hy; exact d
  · simp (config := { maxSteps := 1000000 }) only [go_sem, h3, hb, appendA_U]
    rw [List.take_of_length_le (by omega)] at hall
    rw [wholeB_yes hall] at hK
    exact FinV.mk (Nat.le_refl _) hK
theorem fz_data {S : Nat → Prop} {H : AHeap} {nx : Nat} {cv xv : AVal} {cs : List Int} {xs : List (List Int)} (h1 : Fz S H nx cv (vecI cs)) (h2 : Fz S H nx xv (vecV xs)) : Fz S H nx (.agg [cv, xv]) (dataV cs xs) := by
  refine .agg rfl fun i hi _ => ?_
  match i, hi with
  | 0, _ => exact h1
  | 1, _ => exact h2
theorem OwnG.fzRows {S : Nat → Prop} {lo nx : Nat} {H : AHeap} {e : TypeId} {v : AVal} {q : List (List Int)} (h : OwnG lo H e v (q.map vecI)) (hS : ∀ i, lo ≤ i → S i) : Fz S H nx v (vecV q) := by
  have := h.fz (S := S) (nx := nx) (cs' := q.map vecI) hS rfl fun i hi _ => by simp only [List.getElem_map]; exact .keepInts _
  rw [List.length_map] at this
  exact this
set_option maxHeartbeats 1000000 in
theorem complete_spec (cs : List Int) (xs : List (List Int)) (hf : DataFit cs xs) (H : AHeap) (K : ARes → AHeap → Prop) (hK : K (.ret (dataV cs (xs.filter wholeB))) H) : ACall Tryd.prog G0 89 [dataV cs xs] H K := by
  refine ACall.clo ⟨_, Tryd.func89, rfl, rfl⟩ fun hcl => ?_
  obtain ⟨f1, f2, f3⟩ := hf
  refine ACall.of_body (n := 32) (rs := [.cell 2 50]) Tryd.func89 rfl rfl rfl (by decide) (by kernel_rfl) (by simp) ?_
  simp (config := { maxSteps := 1000000 }) only [go_sem, dataV, vecV, appendA_U]
  obtain ⟨H1, hH1⟩ : ∃ H1, H1 = ext H [.arr 0 50 [.vec cs.length (ints cs), .vec xs.length (xs.map vecI)], .arr 0 50 [.lit (.slice none 0 0), .lit (.slice none 0 0)], .arr 0 50 [.vec cs.length (ints cs), .lit (.slice none 0 0)]] := ⟨_, rfl⟩
  have b0 : H1.get H.next = some (.arr 0 50 [.vec cs.length (ints cs), .vec xs.length (xs.map vecI)]) := by rw [hH1]; exact get_ext0 ..
  have b1 : H1.get (H.next + 1) = some (.arr 0 50 [.lit (.slice none 0 0), .lit (.slice none 0 0)]) := by rw [hH1]; exact get_ext H _ 1 (by simp)
  have b2 : H1.get (H.next + 2) = some (.arr 0 50 [.vec cs.length (ints cs), .lit (.slice none 0 0)]) := by rw [hH1]; exact get_ext H _ 2 (by simp)
  have n1 : H1.next = H.next + 3 := by rw [hH1]; rfl
  have o1 : Over H H1 := by rw [hH1]; exact .ext _ _
  rw [← hH1]
  clear hH1
  refine W.loop0 2147483408 (by rfl) (fun ρ H' => ∃ (k : Nat) (rh : AVal), ρ 4 = lin k ∧ k ≤ xs.length ∧ H.next + 3 ≤ H'.next ∧ (∀ id, id < H.next + 2 → H'.get id = H1.get id) ∧ H'.get (H.next + 2) = some (.arr 0 50 [.vec cs.length (ints cs), rh]) ∧ OwnG (H.next + 3) H' 22 rh (((xs.take k).filter wholeB).map vecI)) (fun ρ H => xs.length - (iv (ρ 4)).toNat) ?_ ?_
  · simp (config := { maxSteps := 1000000 }) only [go_sem, appendA_U]
    exact ⟨0, _, rfl, by omega, by omega, b2, .nil⟩
  rintro ρ H' ⟨k, rh, h4, hk, hn, hold, hb2, hO⟩
  refine vc_sound _ _ _ (by rfl) ?_
  have l0 := get_live ((hold _ (by omega)).trans b0)
  have l2 := get_live hb2
  by_cases hb : (k : Int) < xs.length
  · obtain ⟨r, hr⟩ := get_of_lt (l := xs) (i := k) (by omega)
    have hr' := vecV_get hr
    have hrn := ne_of_get hr'
    have hrl := f3 r (List.mem_of_getElem? hr)
    have w1 := IntWalk.i64_in ((k : Int) + 1) (by omega)
    have fl : ((xs.take k).filter wholeB).length ≤ k := Nat.le_trans (List.length_filter_le _ _) (by simp; omega)
    simp (config := { maxSteps := 1000000 }) only [go_sem, h4, l0, hb, hr', hrn, appendA_U]
    refine AApply.clo (whole1_spec r (by omega) _ _ ⟨trivial, ?_⟩)
    cases hw : wholeB r
    · simp (config := { maxSteps := 1000000 }) only [go_sem, h4, w1, appendA_U]
      refine ⟨by omega, ⟨k + 1, rh, rfl, by omega, hn, hold, hb2, ?_⟩, by omega⟩
      rw [take_succ_get hr, List.filter_append, show [r].filter wholeB = [] by simp [hw], List.append_nil]
      exact hO
    · simp (config := { maxSteps := 1000000 }) only [go_sem, h4, appendA_U]
      obtain ⟨rh2, H3, hA, hO3, hn3, hp⟩ := app_rowG (vecI r) rfl hO (by omega) (by rw [List.length_map]; omega)
      simp only [vecI] at hA
      have hcells := hO3.cells
      have hone := hO3.one
      have g3 : H3.get (H.next + 2) = some (.arr 0 50 [.vec cs.length (ints cs), rh]) := (hp _ (by omega) (hO.ne (by omega))).trans hb2
      have l3 := get_live g3
      refine W.draw 8 [0, 1, 0, 4, 0, 28, 60, 124] Tryd.mixed (by kernel_rfl) (by kernel_rfl) ?_
      simp (config := { maxSteps := 1000000 }) only [go_sem, h4, l0, l2, hb, hr', hrn, hA, l3, hcells, hone, w1]
      repeat (refine And.intro (by first | omega | (simp; done) | (simp; omega) | (intros; omega) | exact ⟨rfl, by omega, by omega, all_one_ints _⟩) ?_)
      refine ⟨by rw [upd_next]; omega, ⟨k + 1, rh2, rfl, by omega, by rw [upd_next]; omega, fun id h => by rw [upd_get, if_neg (by omega), hp id (by omega) (hO.ne (by omega))]; exact hold id h, by rw [upd_get, if_pos rfl], ?_⟩, by omega⟩
      have e : ((xs.take (k + 1)).filter wholeB).map vecI = ((xs.take k).filter wholeB).map vecI ++ [vecI r] := by rw [take_succ_get hr, List.filter_append, show [r].filter wholeB = [r] by simp [hw]]; simp
      rw [e]
      exact hO3.keep (Nat.le_refl _) (by rw [upd_next]; omega) fun id g h1 _ _ _ => by rw [upd_get, if_neg (by omega)]
  · rw [List.take_of_length_le (by omega)] at hO
    have l1 := get_live ((hold _ (by omega)).trans b1)
    have hcells := hO.cells
    have hone := hO.one
    simp (config := { maxSteps := 1000000 }) only [go_sem, h4, l0, l1, l2, hb, hcells, hone, appendA_U]
    exact FinV.dropO G0_ok hcl (⟨by rw [upd_next]; omega, fun id h => by rw [upd_get, if_neg (by omega), hold id (by omega)]; exact o1.old id h⟩) (fz_data (.keepInts _) (OwnG.fzRows (hO.keep (Nat.le_refl _) (by rw [upd_next]; omega) fun id g h1 _ _ _ => by rw [upd_get, if_neg (by omega)]) fun i hi => by omega)) hK
theorem index_int_spec (l : List Int) (v : Int) (hl : (l.length : Int) < 2 ^ 62) (H : AHeap) (K : ARes → AHeap → Prop) (hK : ∀ i : Int, (0 ≤ i ↔ v ∈ l) → K (.ret (lin i)) H) : ACall Tryd.prog G0 88 [vecI l, lin v] H K := by
  refine ACall.of_body (n := 19) (rs := [.tmp 4]) Tryd.func88 rfl rfl rfl (by decide) (by kernel_rfl) (by simp) ?_
  simp (config := { maxSteps := 1000000 }) only [go_sem, appendA_U]
  refine W.loop0 524080 (by rfl) (fun ρ H' => H' = H ∧ ∃ k : Nat, ρ 8 = lin k ∧ k ≤ l.length ∧ v ∉ l.take k) (fun ρ H => l.length - (iv (ρ 8)).toNat) ?_ ?_
  · simp (config := { maxSteps := 1000000 }) only [go_sem, appendA_U]
    exact ⟨0, rfl, by omega, by simp⟩
  rintro ρ H' ⟨rfl, k, h8, hk, hno⟩
  refine vc_sound _ _ _ (by rfl) ?_
  by_cases hb : (k : Int) < l.length
  · obtain ⟨x, hx⟩ := get_of_lt (l := l) (i := k) (by omega)
    have hne := ne_of_get hx
    by_cases d : v = x
    · simp (config := { maxSteps := 1000000 }) only [go_sem, h8, hb, hx, hne, d, appendA_U]
      exact FinV.mk (Nat.le_refl _) (hK k ⟨fun _ => by rw [d]; exact List.mem_of_getElem? hx, fun _ => by omega⟩)
    have w1 := IntWalk.i64_in ((k : Int) + 1) (by omega)
    simp (config := { maxSteps := 1000000 }) only [go_sem, h8, hb, hx, hne, d, w1, appendA_U]
    refine ⟨⟨k + 1, rfl, by omega, fun hm => ?_⟩, by omega⟩
    rw [take_succ_get hx] at hm
    rcases List.mem_append.1 hm with hm | hm
    · exact hno hm
    · exact d (List.mem_singleton.1 hm)
  · simp (config := { maxSteps := 1000000 }) only [go_sem, h8, hb, appendA_U]
    rw [List.take_of_length_le (by omega)] at hno
    exact FinV.mk (Nat.le_refl _) (hK (-1) ⟨fun h => absurd h (by decide), fun h => absurd h hno⟩)
theorem contains_spec (l : List Int) (v : Int) (hl : (l.length : Int) < 2 ^ 62) (H : AHeap) (K : ARes → AHeap → Prop) (hK : K (.ret (.lit (.bool (decide (v ∈ l))))) H) : ACall Tryd.prog G0 68 [vecI l, lin v] H K := by
  refine ACall.of_body (n := 9) (rs := [.tmp 4]) Tryd.func68 rfl rfl rfl (by decide) (by kernel_rfl) (by simp) ?_
  simp (config := { maxSteps := 1000000 }) only [go_sem, appendA_U]
  refine AApply.clo (index_int_spec l v hl _ _ fun i hi => ⟨trivial, ?_⟩)
  by_cases h : v ∈ l
  · have h0 : i ≥ 0 := hi.2 h
    simp (config := { maxSteps := 1000000 }) only [go_sem, h0, appendA_U]
    rw [decide_eq_true h] at hK
    exact FinV.mk (Nat.le_refl _) hK
  · have h0 : ¬ i ≥ 0 := fun h' => h (hi.1 h')
    simp (config := { maxSteps := 1000000 }) only [go_sem, h0, appendA_U]
    rw [decide_eq_false h] at hK
    exact FinV.mk (Nat.le_refl _) hK
set_option maxHeartbeats 1000000 in
theorem alike_spec (g : Int) (ns : List NodeP) (cs : List Int) (xs : List (List Int)) (hn : (ns.length : Int) < 2 ^ 38) (hf : DataFit cs xs) (H : AHeap) (K : ARes → AHeap → Prop) (hK : K (.ret (.lit (.bool (decide (cardsL ns = cs))))) H) : ACall Tryd.prog G0 67 [netV g ns, dataV cs xs] H K := by
  refine ACall.clo ⟨_, Tryd.func67, rfl, rfl⟩ fun hcl => ?_
  obtain ⟨f1, f2, f3⟩ := hf
  refine ACall.of_body (n := 31) (rs := [.tmp 4]) Tryd.func67 rfl rfl rfl (by decide) (by kernel_rfl) (by simp) ?_
  simp (config := { maxSteps := 1000000 }) only [go_sem, dataV, vecV, netV, nodesV, appendA_U]
  obtain ⟨H1, hH1⟩ : ∃ H1, H1 = ext H [.arr 0 61 [.lit (.int .i64 g), .vec ns.length (nodesC ns)], .arr 0 50 [.vec cs.length (ints cs), .vec xs.length (xs.map vecI)]] := ⟨_, rfl⟩
  have l1 : H1.live H.next 0 = some (61, [.lit (.int .i64 g), .vec ns.length (nodesC ns)]) := by rw [hH1]; exact get_live (get_ext0 ..)
  have l2 : H1.live (H.next + 1) 0 = some (50, [.vec cs.length (ints cs), .vec xs.length (xs.map vecI)]) := by rw [hH1]; exact get_live (get_ext H _ 1 (by simp))
  have n1 : H1.next = H.next + 2 := by rw [hH1]; rfl
  have o1 : Over H H1 := by rw [hH1]; exact .ext _ _
  rw [← hH1]
  by_cases hl : (ns.length : Int) = cs.length
  rotate_left
  · simp (config := { maxSteps := 1000000 }) only [go_sem, l1, l2, hl, appendA_U]
    rw [decide_eq_false fun h => hl (by rw [← h, cards_len])] at hK
    exact FinV.dropO G0_ok hcl o1 (.lit _) hK
  simp (config := { maxSteps := 1000000 }) only [go_sem, l1, l2, hl, appendA_U]
  refine W.loop0 2147352688 (by rfl) (fun ρ H' => Over H1 H' ∧ ∃ k : Nat, ρ 17 = lin k ∧ k ≤ ns.length ∧ (cardsL ns).take k = cs.take k) (fun ρ H => ns.length - (iv (ρ 17)).toNat) ?_ ?_
  · simp (config := { maxSteps := 1000000 }) only [go_sem, appendA_U]
    exact ⟨.refl _, 0, rfl, by omega, rfl⟩
  rintro ρ H' ⟨ov, k, h17, hk, he⟩
  refine vc_sound _ _ _ (by rfl) ?_
  have l2' := (ov.live (g := 0) (by omega : H.next + 1 < H1.next)).trans l2
  have hlt : H.next + 1 < H'.next := by have := ov.next; omega
  have l3 : ∀ L, (ext H' L).live (H.next + 1) 0 = _ := fun L => (ext_live_old hlt).trans l2'
  by_cases hb : (k : Int) < cs.length
  · obtain ⟨x, hx⟩ := get_of_lt (l := ns) (i := k) (by omega)
    obtain ⟨c, hc⟩ := get_of_lt (l := cs) (i := k) (by omega)
    have hne := nodesC_ne hx
    have e0 := nodesC_part hx
    have e1 : k * 3 + 3 ≤ (nodesC ns).length := by rw [nodesC_len]; omega
    have hcn := ne_of_get hc
    simp (config := { maxSteps := 1000000 }) only [go_sem, h17, hb, hl, hne, e0, e1, vecV, appendA_U]
    refine W.draw 7 [0, 1, 0, 4, 0, 28, 60] Tryd.mixed (by kernel_rfl) (by kernel_rfl) ?_
    by_cases hd : x.card = c
    · have w1 := IntWalk.i64_in ((k : Int) + 1) (by omega)
      simp (config := { maxSteps := 1000000 }) only [go_sem, h17, hb, hl, l3, hc, hcn, hd, w1, appendA_U]
      exact ⟨by omega, ⟨ov.trans (.ext _ _), k + 1, rfl, by omega, by rw [take_succ_get (cards_get hx), take_succ_get hc, he, hd]⟩, by omega⟩
    · simp (config := { maxSteps := 1000000 }) only [go_sem, h17, hb, hl, l3, hc, hcn, hd, appendA_U]
      rw [decide_eq_false fun h => hd (by have := cards_get hx; rw [h, hc] at this; exact (Option.some.inj this).symm)] at hK
      exact FinV.dropO G0_ok hcl ((o1.trans ov).trans (.ext _ _)) (.lit _) hK
  · simp (config := { maxSteps := 1000000 }) only [go_sem, h17, hb, hl, appendA_U]
    rw [List.take_of_length_le (by rw [cards_len]; omega), List.take_of_length_le (by omega)] at he
    rw [decide_eq_true he] at hK
    exact FinV.dropO G0_ok hcl (o1.trans ov) (.lit _) hK
theorem field_data (x y : AVal) : fieldVA Tryd.prog 50 1 (.agg [x, y]) = some y := by
  have hp : partA Tryd.prog 48 [x, y] 1 = some y := by rw [partA_U, Tryd.underlying48]; rfl
  unfold fieldVA
  rw [Tryd.field50_1]
  exact hp
theorem whole25_spec (cs : List Int) (xs : List (List Int)) (hf : DataFit cs xs) (H : AHeap) (K : ARes → AHeap → Prop) (hK : K (.ret (.lit (.bool (decide (∀ r ∈ xs, wholeB r = true))))) H) : ACall Tryd.prog G0 72 [dataV cs xs] H K := by
  refine ACall.clo ⟨_, Tryd.func72, rfl, rfl⟩ fun hcl => ?_
  have hf' := hf
  obtain ⟨f1, f2, f3⟩ := hf
  refine ACall.of_body (n := 11) (rs := [.tmp 2]) Tryd.func72 rfl rfl rfl (by decide) (by kernel_rfl) (by simp) ?_
  simp (config := { maxSteps := 1000000 }) only [go_sem, dataV, vecV, appendA_U]
  obtain ⟨H1, hH1⟩ : ∃ H1, H1 = ext H [.arr 0 50 [.vec cs.length (ints cs), .vec xs.length (xs.map vecI)]] := ⟨_, rfl⟩
  have l1 : H1.live H.next 0 = some (50, [.vec cs.length (ints cs), .vec xs.length (xs.map vecI)]) := by rw [hH1]; exact get_live (get_ext0 ..)
  have o1 : Over H H1 := by rw [hH1]; exact .ext _ _
  rw [← hH1]
  refine W.draw 7 [0, 1, 3, 7, 0, 16, 48] Tryd.mixed (by kernel_rfl) (by kernel_rfl) ?_
  simp (config := { maxSteps := 1000000 }) only [go_sem, l1, appendA_U]
  refine ⟨dataV cs (xs.filter wholeB), [], PCall.pure (fun H2 => complete_spec cs xs hf' H2 _ ⟨rfl, rfl⟩), ?_⟩
  by_cases h : ((xs.filter wholeB).length : Int) = xs.length
  · simp (config := { maxSteps := 1000000 }) only [go_sem, l1, dataV, vecV, field_data, h, appendA_U]
    rw [decide_eq_true (whole_len.1 (by omega))] at hK
    exact FinV.dropO G0_ok hcl o1 (.lit _) hK
  · simp (config := { maxSteps := 1000000 }) only [go_sem, l1, dataV, vecV, field_data, h, appendA_U]
    rw [decide_eq_false fun hh => h (by have := whole_len.2 hh; omega)] at hK
    exact FinV.dropO G0_ok hcl o1 (.lit _) hK
def prm (i : Nat) : Int := primesL.getD i 2
def cntQ (q : Int) : Nat → Int → Nat
  | 0, _ => 0
  | f + 1, n => if n % q = 0 then cntQ q f (n / q) + 1 else 0
def rstQ (q : Int) : Nat → Int → Int
  | 0, n => n
  | f + 1, n => if n % q = 0 then rstQ q f (n / q) else n
def leftP (n : Int) : Nat → Int
  | 0 => n
  | i + 1 => rstQ (prm i) 6 (leftP n i)
def expN (n : Int) (i : Nat) : Nat := cntQ (prm i) 6 (leftP n i)
def partP (e : List Int) (t n : Int) (i c : Nat) : List Int := (List.range 18).map fun k => e.getD k 0 + t * ((if k < i then expN n k else if k = i then c else 0 : Nat) : Int)
def addP (e : List Int) (t n : Int) : List Int := (List.range 18).map fun k => e.getD k 0 + t * (expN n k : Int)
def expL (n : Int) : List Int := (List.range 18).map fun k => (expN n k : Int)
def zeroP : List Int := List.replicate 18 0
theorem prm_get {i : Nat} (h : i < 18) : primesL[i]? = some (prm i) := by
  obtain ⟨x, hx⟩ := get_of_lt (l := primesL) (i := i) h
  unfold prm
  rw [getD_of_get hx, hx]
theorem prm_two (i : Nat) : 2 ≤ prm i ∧ prm i ≤ 61 := by
  unfold prm
  rw [List.getD_eq_getElem?_getD]
  cases h : primesL[i]? with
  | none => exact ⟨Int.le_refl _, by decide⟩
  | some x =>
    have : ∀ x ∈ primesL, 2 ≤ x ∧ x ≤ 61 := by decide
    exact this x (List.mem_of_getElem? h)
theorem div_rng {q m : Int} (hq : 2 ≤ q) (hm : 1 ≤ m) (h : m % q = 0) : 1 ≤ m / q ∧ m / q < m ∧ 2 * (m / q) ≤ m := by
  have e := Int.mul_ediv_add_emod m q
  rw [h, Int.add_zero] at e
  have h1 : 0 < m / q := by
    rcases Int.lt_or_le 0 (m / q) with h' | h'
    · exact h'
    · have := Int.mul_le_mul_of_nonneg_left h' (show (0 : Int) ≤ q by omega)
      omega
  have h2 : 2 * (m / q) ≤ q * (m / q) := Int.mul_le_mul_of_nonneg_right hq (by omega)
  omega
theorem rst_rng {q : Int} (hq : 2 ≤ q) : ∀ (f : Nat) (n : Int), 1 ≤ n → 1 ≤ rstQ q f n ∧ rstQ q f n ≤ n := by
  intro f
  induction f with
  | zero => intro n h; exact ⟨h, Int.le_refl _⟩
  | succ f ih =>
    intro n h
    unfold rstQ
    split
    · rename_i h0
      have := div_rng hq h h0
      have := ih (n / q) (by omega)
      omega
    · omega
theorem cnt_le (q : Int) : ∀ (f : Nat) (n : Int), cntQ q f n ≤ f := by
  intro f
  induction f with
  | zero => intro n; exact Nat.le_refl _
  | succ f ih =>
    intro n
    unfold cntQ
    split
    · have := ih (n / q); omega
    · omega
theorem left_rng {n : Int} (h : 1 ≤ n ∧ n ≤ 63) : ∀ i, 1 ≤ leftP n i ∧ leftP n i ≤ 63 := by
  intro i
  induction i with
  | zero => exact h
  | succ i ih =>
    have := rst_rng (prm_two i).1 6 (leftP n i) ih.1
    show 1 ≤ rstQ _ _ _ ∧ rstQ _ _ _ ≤ 63
    omega
theorem exp_le (n : Int) (i : Nat) : expN n i ≤ 6 := cnt_le _ _ _
theorem rst_stop {q m : Int} (h : ¬ m % q = 0) (f : Nat) : rstQ q f m = m ∧ cntQ q f m = 0 := by
  cases f with
  | zero => exact ⟨rfl, rfl⟩
  | succ f => unfold rstQ cntQ; rw [if_neg h, if_neg h]; exact ⟨rfl, rfl⟩
theorem rst_step {q m : Int} (h : m % q = 0) (f : Nat) : rstQ q (f + 1) m = rstQ q f (m / q) ∧ cntQ q (f + 1) m = cntQ q f (m / q) + 1 := by
  show (if m % q = 0 then _ else _) = _ ∧ (if m % q = 0 then _ else _) = _
  rw [if_pos h, if_pos h]; exact ⟨rfl, rfl⟩
theorem partP_len (e : List Int) (t n : Int) (i c : Nat) : (partP e t n i c).length = 18 := by simp [partP]
theorem partP_get {e : List Int} {t n : Int} {i c k : Nat} (h : k < 18) : (partP e t n i c)[k]? = some (e.getD k 0 + t * ((if k < i then expN n k else if k = i then c else 0 : Nat) : Int)) := by
  unfold partP; rw [List.getElem?_map, List.getElem?_range h]; rfl
theorem addP_len (e : List Int) (t n : Int) : (addP e t n).length = 18 := by simp [addP]
theorem addP_get {e : List Int} {t n : Int} {k : Nat} (h : k < 18) : (addP e t n)[k]? = some (e.getD k 0 + t * (expN n k : Int)) := by
  unfold addP; rw [List.getElem?_map, List.getElem?_range h]; rfl
theorem expL_get {n : Int} {k : Nat} (h : k < 18) : (expL n)[k]? = some (expN n k : Int) := by
  unfold expL; rw [List.getElem?_map, List.getElem?_range h]; rfl
theorem ext18 {a b : List Int} (ha : a.length = 18) (hb : b.length = 18) (h : ∀ k, k < 18 → a[k]? = b[k]?) : a = b := by
  apply List.ext_getElem?
  intro k
  rcases Nat.lt_or_ge k 18 with h' | h'
  · exact h k h'
  · rw [List.getElem?_eq_none (by omega), List.getElem?_eq_none (by omega)]
theorem partP_zero {e : List Int} (he : e.length = 18) (t n : Int) : partP e t n 0 0 = e := ext18 (partP_len ..) he fun k hk => by
  obtain ⟨x, hx⟩ := get_of_lt (l := e) (i := k) (by omega)
  rw [partP_get hk, hx, getD_of_get hx]
  simp
theorem partP_set {e : List Int} {t n : Int} {i c : Nat} (hi : i < 18) : (partP e t n i c).set i (e.getD i 0 + t * (c : Int) + t) = partP e t n i (c + 1) := ext18 (by simp [partP_len]) (partP_len ..) fun k hk => by
  rw [List.getElem?_set, partP_get hk, partP_get hk, partP_len]
  by_cases h : i = k
  · subst h
    rw [if_pos rfl, if_pos hi]
    simp [Int.mul_add, Int.add_assoc]
  · rw [if_neg h]
    have h' : ¬ k = i := fun e => h e.symm
    simp [h']
theorem partP_next (e : List Int) (t n : Int) (i : Nat) : partP e t n i (expN n i) = partP e t n (i + 1) 0 := ext18 (partP_len ..) (partP_len ..) fun k hk => by
  rw [partP_get hk, partP_get hk]
  congr 3
  by_cases h : k < i
  · rw [if_pos h, if_pos (by omega)]
  · rw [if_neg h]
    by_cases h' : k = i
    · rw [if_pos h', if_pos (by omega), h']
    · rw [if_neg h', if_neg (by omega)]; split <;> rfl
theorem partP_one (e : List Int) (t n : Int) {i : Nat} (hi : i < 18) : (partP e t n i 0).set i (e.getD i 0 + t * (expN n i : Int)) = partP e t n (i + 1) 0 := ext18 (by simp [partP_len]) (partP_len ..) fun k hk => by
  rw [List.getElem?_set, partP_get hk, partP_get hk, partP_len]
  by_cases h : i = k
  · subst h
    rw [if_pos rfl, if_pos hi, if_pos (Nat.lt_succ_self i)]
  · rw [if_neg h]
    have h' : ¬ k = i := fun e => h e.symm
    by_cases hk' : k < i
    · rw [if_pos hk', if_pos (by omega)]
    · rw [if_neg hk', if_neg h', if_neg (by omega)]; split <;> rfl
theorem partP_all (e : List Int) (t n : Int) : partP e t n 18 0 = addP e t n := ext18 (partP_len ..) (addP_len ..) fun k hk => by
  rw [partP_get hk, addP_get hk, if_pos hk]
theorem addP_zero (n : Int) : addP zeroP 1 n = expL n := ext18 (addP_len ..) (by simp [expL]) fun k hk => by
  rw [addP_get hk, expL_get hk, show zeroP.getD k 0 = 0 by unfold zeroP; rw [List.getD_eq_getElem?_getD, List.getElem?_replicate]; split <;> rfl]
  simp
def InB (e : List Int) (b : Int) : Prop := ∀ x ∈ e, -b ≤ x ∧ x ≤ b
theorem InB.getD {e : List Int} {b : Int} (h : InB e b) (hb : 0 ≤ b) (k : Nat) : -b ≤ e.getD k 0 ∧ e.getD k 0 ≤ b := by
  rw [List.getD_eq_getElem?_getD]
  cases hk : e[k]? with
  | none => exact ⟨by simp; omega, by simpa using hb⟩
  | some x => exact h x (List.mem_of_getElem? hk)
theorem sgn_mul {t : Int} (ht : t = 1 ∨ t = -1) {c : Nat} (hc : c ≤ 6) : -6 ≤ t * (c : Int) ∧ t * (c : Int) ≤ 6 := by
  rcases ht with rfl | rfl <;> omega
theorem InB.add {e : List Int} {b t : Int} (h : InB e b) (hb : 0 ≤ b) (ht : t = 1 ∨ t = -1) (n : Int) : InB (addP e t n) (b + 6) := fun x hx => by
  obtain ⟨k, _, rfl⟩ := List.mem_map.1 hx
  have := h.getD hb k
  have := sgn_mul ht (exp_le n k)
  omega
theorem InB.zero : InB zeroP 0 := fun x hx => by
  obtain rfl := List.eq_of_mem_replicate hx
  omega
set_option maxHeartbeats 1000000 in
theorem multiply_spec (id : Nat) (e : List Int) (n t : Int) (hn : 1 ≤ n ∧ n ≤ 63) (ht : t = 1 ∨ t = -1) (he : e.length = 18) (hb : InB e 1000000) (H : AHeap) (hg : H.get id = some (.arr 0 84 (ints e))) (K : ARes → AHeap → Prop)
    (hK : ∀ H', H'.get id = some (.arr 0 84 (ints (addP e t n))) → (∀ j, j ≠ id → H'.get j = H.get j) → H'.next = H.next → K (.ret (.tup [])) H') : ACall Tryd.prog G0 70 [.ptr id 0 0, lin n, lin t] H K := by
  refine ACall.of_body (n := 30) (rs := []) Tryd.func70 rfl rfl rfl (by decide) (by kernel_rfl) (by simp) ?_
  have t18 : (ints primesL).take 18 = ints primesL := rfl
  simp (config := { maxSteps := 1000000 }) only [go_sem, evA_g0, t18, appendA_U]
  refine ⟨by decide, ?_⟩
  refine W.loop0 1073741506 (by rfl) (fun ρ H' => ∃ i : Nat, ρ 9 = lin i ∧ i ≤ 18 ∧ ρ 1 = lin (leftP n i) ∧ H'.get id = some (.arr 0 84 (ints (partP e t n i 0))) ∧ (∀ j, j ≠ id → H'.get j = H.get j) ∧ H'.next = H.next) (fun ρ H => 18 - (iv (ρ 9)).toNat) ?_ ?_
  · simp (config := { maxSteps := 1000000 }) only [go_sem, appendA_U]
    exact ⟨0, rfl, by omega, rfl, by rw [partP_zero he]; exact hg⟩
  rintro ρ H' ⟨i, h9, hi, h1, hgi, hold, hnx⟩
  refine vc_sound _ _ _ (by rfl) ?_
  by_cases hb1 : (i : Int) < 18
  rotate_left
  · simp (config := { maxSteps := 1000000 }) only [go_sem, h9, hb1, appendA_U]
    obtain rfl : i = 18 := by omega
    rw [partP_all] at hgi
    exact FinV.mk (by omega) (hK H' hgi hold hnx)
  have hpi := prm_get (i := i) (by omega)
  have hpn : ¬ primesL = [] := by decide
  have q2 := prm_two i
  obtain ⟨q, hq⟩ : ∃ q, q = prm i := ⟨_, rfl⟩
  rw [← hq] at hpi q2
  have lr := left_rng hn i
  have hpl : (i : Int) < primesL.length := by have : primesL.length = 18 := rfl; omega
  simp (config := { maxSteps := 1000000 }) only [go_sem, h9, hb1, hpi, hpn, hpl, appendA_U]
  refine W.loop0 536862722 (by rfl) (fun ρ2 H2 => ∃ (f c : Nat) (m : Int), ρ2 1 = lin m ∧ 1 ≤ m ∧ m < 2 ^ f ∧ f ≤ 6 ∧ rstQ q 6 (leftP n i) = rstQ q f m ∧ cntQ q 6 (leftP n i) = c + cntQ q f m ∧ H2.get id = some (.arr 0 84 (ints (partP e t n i c))) ∧ (∀ j, j ≠ id → H2.get j = H.get j) ∧ H2.next = H.next) (fun ρ2 H => (iv (ρ2 1)).toNat) ?_ ?_
  · simp (config := { maxSteps := 1000000 }) only [go_sem, h1, appendA_U]
    exact ⟨6, 0, _, rfl, lr.1, by omega, by omega, rfl, by omega, hgi, hold, hnx⟩
  rintro ρ2 H2 ⟨f, c, m, h1', m1, m2, f6, hr, hc, hg2, hold2, hnx2⟩
  refine vc_sound _ _ _ (by rfl) ?_
  have qz : ¬ q = 0 := by omega
  have tm : m.tmod q = m % q := Int.tmod_eq_emod_of_nonneg (by omega)
  have td : m.tdiv q = m / q := Int.tdiv_eq_ediv_of_nonneg (by omega)
  by_cases hd : m % q = 0
  · cases f with
    | zero => omega
    | succ f =>
      obtain ⟨s1, s2⟩ := rst_step hd f
      have dr := div_rng q2.1 m1 hd
      have cl : c + 1 ≤ 6 := by have := cnt_le q 6 (leftP n i); omega
      have pg := partP_get (e := e) (t := t) (n := n) (i := i) (c := c) (k := i) (by omega)
      rw [if_neg (Nat.lt_irrefl i), if_pos rfl] at pg
      have pn := ne_of_get pg
      have pl := partP_len e t n i c
      have pl' : (i : Int) < (partP e t n i c).length := by omega
      have lg := get_live hg2
      have b1 := hb.getD (by omega) i
      have b2 := sgn_mul ht (c := c) (by omega)
      have w1 := IntWalk.i64_in (m / q) (by have := lr; have : m < 2 ^ 6 := Int.lt_of_lt_of_le m2 (by have : (2 : Nat) ^ (f + 1) ≤ 2 ^ 6 := Nat.pow_le_pow_right (by decide) f6; exact_mod_cast this); omega)
      have w2 := IntWalk.i64_in (e.getD i 0 + t * (c : Int) + t) (by rcases ht with rfl | rfl <;> omega)
      simp (config := { maxSteps := 1000000 }) only [go_sem, h1', tm, td, hd, qz, w1, lg, pg, pn, pl', w2, appendA_U]
      refine W.draw 8 [0, 0, 1, 7, 15, 0, 63, 1] Tryd.mixed (by kernel_rfl) (by kernel_rfl) ?_
      simp (config := { maxSteps := 1000000 }) only [go_sem, h1', tm, td, hd, qz, w1, lg, pg, pn, pl', w2, appendA_U]
      rw [setAt_ints (by omega), partP_set (by omega)]
      have m3 : 2 * (m / q) < 2 ^ f * 2 := by have : (2 : Int) ^ (f + 1) = 2 ^ f * 2 := Int.pow_succ ..; omega
      refine ⟨by omega, by omega, by omega, by rw [upd_next]; omega, ⟨f, c + 1, m / q, rfl, dr.1, by omega, by omega, by rw [hr, s1], by rw [hc, s2]; omega, by rw [upd_get, if_pos rfl], fun j hj => by rw [upd_get, if_neg hj]; exact hold2 j hj, hnx2⟩, by omega⟩
  · obtain ⟨s1, s2⟩ := rst_stop hd f
    have w1 := IntWalk.i64_in ((i : Int) + 1) (by omega)
    simp (config := { maxSteps := 1000000 }) only [go_sem, h1', tm, hd, qz, h9, w1, appendA_U]
    have hcc : c = expN n i := by unfold expN; rw [← hq]; omega
    have hll : leftP n (i + 1) = m := by show rstQ _ _ _ = m; rw [← hq, hr, s1]
    refine ⟨by omega, ⟨i + 1, rfl, by omega, by rw [hll], by rw [← partP_next, ← hcc]; exact hg2, hold2, hnx2⟩, by omega⟩
theorem prime_spec (i : Nat) (hi : i < 18) (H : AHeap) (K : ARes → AHeap → Prop) (hK : K (.ret (lin (prm i))) H) : ACall Tryd.prog G0 78 [lin i] H K := by
  have hp : (ints primesL)[i]? = some (lin (prm i)) := by rw [ints_get, prm_get hi]; rfl
  simp only [primesL, ints, List.map_cons, List.map_nil, lin] at hp
  have hi' : (i : Int) < 18 := by omega
  refine ACall.of_body (n := 6) (rs := [.tmp 2]) Tryd.func78 rfl rfl rfl (by decide) (by kernel_rfl) (by simp) ?_
  simp (config := { maxSteps := 1000000 }) only [go_sem, hp, hi, hi', appendA_U]
  exact FinV.mk (Nat.le_refl _) hK
theorem fz_aggI {S : Nat → Prop} {H : AHeap} {nx : Nat} (l : List Int) : Fz S H nx (.agg (ints l)) (.agg (ints l)) := .agg rfl fun i hi _ => by simp only [ints, List.getElem_map]; exact .lit _
theorem fz_pow {S : Nat → Prop} {H : AHeap} {nx : Nat} (l : List Int) (v : Value) : Fz S H nx (.tup [.agg (ints l), .lit v]) (.tup [.agg (ints l), .lit v]) := by
  refine .tup rfl fun i hi _ => ?_
  match i, hi with
  | 0, _ => exact fz_aggI l
  | 1, _ => exact .lit _
theorem store18 {e : List Int} (h : e.length = 18) (l : List AVal) (hl : l.length = 18) : ints e ++ l.drop e.length = ints e := by rw [List.drop_of_length_le (by omega), List.append_nil]
theorem take18 {e : List Int} (h : e.length = 18) : (ints e).take 18 = ints e := List.take_of_length_le (by rw [ints_length]; omega)
theorem drop18 : (ints zeroP).drop 18 = [] := rfl
set_option maxHeartbeats 1000000 in
theorem of26_spec (n : Int) (hn : 1 ≤ n ∧ n ≤ 63) (H : AHeap) (K : ARes → AHeap → Prop) (hK : ∀ b : Bool, K (.ret (.tup [.agg (ints (expL n)), .lit (.bool b)])) H) : ACall Tryd.prog G0 91 [lin n] H K := by
  refine ACall.clo ⟨_, Tryd.func91, rfl, rfl⟩ fun hcl => ?_
  refine ACall.of_body (n := 28) (rs := [.cell 2 84, .tmp 3]) Tryd.func91 rfl rfl rfl (by decide) (by kernel_rfl) (by simp) ?_
  simp (config := { maxSteps := 1000000 }) only [go_sem, appendA_U]
  refine W.loop0 33554401 (by rfl) (fun ρ H' => ∃ i : Nat, ρ 5 = lin i ∧ i ≤ 18 ∧ ρ 0 = lin (leftP n i) ∧ H'.get (H.next + 1) = some (.arr 0 84 (ints (partP zeroP 1 n i 0))) ∧ H'.get H.next = some (.arr 0 84 (ints zeroP)) ∧ Over H H' ∧ H.next + 2 ≤ H'.next) (fun ρ H => 18 - (iv (ρ 5)).toNat) ?_ ?_
  · simp (config := { maxSteps := 1000000 }) only [go_sem, appendA_U]
    exact ⟨0, rfl, by omega, rfl, by rw [partP_zero rfl]; exact get_ext H _ 1 (by simp), get_ext0 .., .ext _ _⟩
  rintro ρ H' ⟨i, h5, hi, h0, hg, hg0, ov, hnx⟩
  refine vc_sound _ _ _ (by rfl) ?_
  by_cases hb1 : (i : Int) < 18
  rotate_left
  · obtain rfl : i = 18 := by omega
    rw [partP_all, addP_zero] at hg
    have lg := get_live hg
    have lg0 := get_live hg0
    have el : (expL n).length = 18 := by simp [expL]
    have ea := all_one_ints (expL n)
    have et := take18 el
    have eil : (ints (expL n)).length = 18 := by rw [ints_length, el]
    have zl : zeroP.length = 18 := rfl
    have fin : ∀ b : Bool, FinV Tryd.prog G0 H K (.tup [.agg (ints (expL n)), .lit (.bool b)]) (H'.upd H.next (.arr 0 84 (ints (expL n)))) := fun b => FinV.dropO G0_ok hcl (ov.upd (Nat.le_refl _) _) (fz_pow _ _) (hK b)
    simp (config := { maxSteps := 1000000 }) only [go_sem, h5, h0, hb1, lg, lg0, el, ea, et, eil, zl, drop18, appendA_U]
    by_cases h1 : leftP n 18 = 1
    · simp (config := { maxSteps := 1000000 }) only [go_sem, h1, el, et, eil, ea, zl, drop18, appendA_U]
      exact fin true
    · simp (config := { maxSteps := 1000000 }) only [go_sem, h1, el, et, eil, ea, zl, drop18, appendA_U]
      exact fin false
  have q2 := prm_two i
  obtain ⟨q, hq⟩ : ∃ q, q = prm i := ⟨_, rfl⟩
  have lr := left_rng hn i
  simp (config := { maxSteps := 1000000 }) only [go_sem, h5, hb1, appendA_U]
  refine W.loop0 33553409 (by rfl) (fun ρ2 H2 => ∃ (f c : Nat) (m : Int), ρ2 0 = lin m ∧ 1 ≤ m ∧ m < 2 ^ f ∧ f ≤ 6 ∧ rstQ q 6 (leftP n i) = rstQ q f m ∧ cntQ q 6 (leftP n i) = c + cntQ q f m ∧ H2.get (H.next + 1) = some (.arr 0 84 (ints (partP zeroP 1 n i c))) ∧ H2.get H.next = some (.arr 0 84 (ints zeroP)) ∧ Over H H2 ∧ H2.next = H'.next) (fun ρ2 H => (iv (ρ2 0)).toNat) ?_ ?_
  · simp (config := { maxSteps := 1000000 }) only [go_sem, h0, appendA_U]
    exact ⟨6, 0, _, rfl, lr.1, by omega, by omega, rfl, by omega, hg, hg0, ov⟩
  rintro ρ2 H2 ⟨f, c, m, h0', m1, m2, f6, hr, hc, hg2, hg02, ov2, hnx2⟩
  refine vc_sound _ _ _ (by rfl) ?_
  have qz : ¬ prm i = 0 := by omega
  have tm : m.tmod (prm i) = m % q := by rw [hq]; exact Int.tmod_eq_emod_of_nonneg (by omega)
  have td : m.tdiv (prm i) = m / q := by rw [hq]; exact Int.tdiv_eq_ediv_of_nonneg (by omega)
  simp (config := { maxSteps := 1000000 }) only [go_sem, h0', h5, appendA_U]
  refine AApply.clo (prime_spec i (by omega) _ _ ⟨trivial, ?_⟩)
  by_cases hd : m % q = 0
  · cases f with
    | zero => omega
    | succ f =>
      obtain ⟨s1, s2⟩ := rst_step hd f
      have dr := div_rng (by omega) m1 hd
      have cl : c + 1 ≤ 6 := by have := cnt_le q 6 (leftP n i); omega
      have pg := partP_get (e := zeroP) (t := 1) (n := n) (i := i) (c := c) (k := i) (by omega)
      rw [if_neg (Nat.lt_irrefl i), if_pos rfl] at pg
      have pn := ne_of_get pg
      have pl := partP_len zeroP 1 n i c
      have lg := get_live hg2
      have b1 := InB.zero.getD (by omega) i
      have b2 := sgn_mul (.inl rfl : (1 : Int) = 1 ∨ (1 : Int) = -1) (c := c) (by omega)
      have w1 := IntWalk.i64_in (m / q) (by have : m < 2 ^ 6 := Int.lt_of_lt_of_le m2 (by have : (2 : Nat) ^ (f + 1) ≤ 2 ^ 6 := Nat.pow_le_pow_right (by decide) f6; exact_mod_cast this); omega)
      have w2 := IntWalk.i64_in (zeroP.getD i 0 + 1 * (c : Int) + 1) (by omega)
      simp (config := { maxSteps := 1000000 }) only [go_sem, h0', h5, tm, hd, qz, appendA_U]
      refine AApply.clo (prime_spec i (by omega) _ _ ⟨trivial, ?_⟩)
      simp (config := { maxSteps := 1000000 }) only [go_sem, h0', h5, td, w1, qz, lg, pg, pn, hb1, w2, appendA_U]
      rw [setAt_ints (by omega), partP_set (by omega)]
      have m3 : 2 * (m / q) < 2 ^ f * 2 := by have : (2 : Int) ^ (f + 1) = 2 ^ f * 2 := Int.pow_succ ..; omega
      exact ⟨by omega, by rw [upd_next]; omega, ⟨f, c + 1, m / q, rfl, dr.1, by omega, by omega, by rw [hr, s1], by rw [hc, s2]; omega, by rw [upd_get, if_pos rfl], by rw [upd_get, if_neg (by omega)]; exact hg02, ov2.upd (by omega) _, hnx2⟩, by omega⟩
  · obtain ⟨s1, s2⟩ := rst_stop hd f
    have w1 := IntWalk.i64_in ((i : Int) + 1) (by omega)
    simp (config := { maxSteps := 1000000 }) only [go_sem, h0', tm, hd, qz, h5, w1, appendA_U]
    have hcc : c = expN n i := by unfold expN; rw [← hq]; omega
    have hll : leftP n (i + 1) = m := by show rstQ _ _ _ = m; rw [← hq, hr, s1]
    refine ⟨by omega, ⟨i + 1, rfl, by omega, by rw [hll], by rw [← partP_next, ← hcc]; exact hg2, hg02, ov2, by omega⟩, by omega⟩
theorem times26_spec (e : List Int) (n t : Int) (hn : 1 ≤ n ∧ n ≤ 63) (ht : t = 1 ∨ t = -1) (he : e.length = 18) (hb : InB e 1000000) (H : AHeap) (K : ARes → AHeap → Prop) (hK : K (.ret (.agg (ints (addP e t n)))) H) : ACall Tryd.prog G0 74 [.agg (ints e), lin n, lin t] H K := by
  refine ACall.clo ⟨_, Tryd.func74, rfl, rfl⟩ fun hcl => ?_
  have el : (expL n).length = 18 := by simp [expL]
  refine ACall.of_body (n := 31) (rs := [.cell 6 84]) Tryd.func74 rfl rfl rfl (by decide) (by kernel_rfl) (by simp) ?_
  simp (config := { maxSteps := 1000000 }) only [go_sem, appendA_U]
  refine AApply.clo (of26_spec n hn _ _ fun b => ⟨trivial, ?_⟩)
  simp (config := { maxSteps := 1000000 }) only [go_sem, appendA_U]
  refine ⟨⟨el, all_one_ints _, by omega⟩, ?_⟩
  refine W.loop0 1073709568 (by rfl) (fun ρ H' => ∃ i : Nat, ρ 9 = lin i ∧ i ≤ 18 ∧ H'.get H.next = some (.arr 0 84 (ints (partP e t n i 0))) ∧ H'.get (H.next + 1) = some (.arr 0 84 (ints zeroP)) ∧ H'.get (H.next + 2) = some (.arr 0 84 (ints (expL n))) ∧ Over H H' ∧ H.next + 3 ≤ H'.next) (fun ρ H => 18 - (iv (ρ 9)).toNat) ?_ ?_
  · simp (config := { maxSteps := 1000000 }) only [go_sem, appendA_U]
    exact ⟨0, rfl, by omega, by rw [partP_zero he]; exact get_ext0 .., get_ext H _ 1 (by simp), by rw [get_ext H _ 2 (by simp)]; exact congrArg (fun x => some (Blk.arr 0 84 x)) (store18 el _ rfl), .ext _ _⟩
  rintro ρ H' ⟨i, h9, hi, hg, hg1, hg2, ov, hnx⟩
  refine vc_sound _ _ _ (by rfl) ?_
  have lg := get_live hg
  have lg1 := get_live hg1
  have lg2 := get_live hg2
  by_cases hb1 : (i : Int) < 18
  · have pg := partP_get (e := e) (t := t) (n := n) (i := i) (c := 0) (k := i) (by omega)
    rw [if_neg (Nat.lt_irrefl i), if_pos rfl, show e.getD i 0 + t * ((0 : Nat) : Int) = e.getD i 0 by simp] at pg
    have pn := ne_of_get pg
    have xg := expL_get (n := n) (k := i) (by omega)
    have xn := ne_of_get xg
    have b1 := hb.getD (by omega) i
    have b2 := sgn_mul ht (exp_le n i)
    have w1 := IntWalk.i64_in (t * (expN n i : Int)) (by omega)
    have w2 := IntWalk.i64_in (e.getD i 0 + t * (expN n i : Int)) (by omega)
    have w3 := IntWalk.i64_in ((i : Int) + 1) (by omega)
    simp (config := { maxSteps := 1000000 }) only [go_sem, h9, hb1, appendA_U]
    refine W.draw 10 [0, 0, 2, 6, 0, 0, 32, 96, 240, 510] Tryd.mixed (by kernel_rfl) (by kernel_rfl) ?_
    simp (config := { maxSteps := 1000000 }) only [go_sem, h9, hb1, lg, lg2, pg, pn, xg, xn, w1, w2, w3, appendA_U]
    have hs := partP_one e t n (i := i) (by omega)
    rw [setAt_ints (by rw [partP_len]; omega), hs]
    have pl := partP_len e t n i 0
    exact ⟨by omega, by rw [upd_next]; omega, ⟨i + 1, rfl, by omega, by rw [upd_get, if_pos rfl], by rw [upd_get, if_neg (by omega)]; exact hg1, by rw [upd_get, if_neg (by omega)]; exact hg2, ov.upd (Nat.le_refl _) _, by rw [upd_next]; omega⟩, by omega⟩
  · obtain rfl : i = 18 := by omega
    rw [partP_all] at hg
    have al := addP_len e t n
    have lg' := get_live hg
    have at' := take18 al
    have ail : (ints (addP e t n)).length = 18 := by rw [ints_length, al]
    have aa := all_one_ints (addP e t n)
    have zl : zeroP.length = 18 := rfl
    simp (config := { maxSteps := 1000000 }) only [go_sem, h9, hb1, lg', lg1, at', ail, aa, al, zl, drop18, appendA_U]
    exact FinV.dropO G0_ok hcl (ov.upd (by omega) _) (fz_aggI _) hK
structure D25 where
  cards : List Int
  cases : List (List Int)
  follow : Int
  miss : List Int
def casesC (l : List (List Int)) : List AVal := (l.map bytesL).flatten
def D25.cells (d : D25) : List AVal := [.vec d.cards.length (bytesL d.cards), .vec d.cases.length (casesC d.cases), .lit (.int .u8 d.follow), .vec d.miss.length (bytesL d.miss)]
structure D25.Ok (d : D25) : Prop where
  cl : (d.cards.length : Int) < 2 ^ 63
  c8 : ∀ x ∈ d.cards, U8 x
  xl : (d.cases.length : Int) < 2 ^ 63
  x8 : ∀ r ∈ d.cases, r.length = 5 ∧ ∀ x ∈ r, U8 x
  f8 : U8 d.follow
  ml : (d.miss.length : Int) < 2 ^ 63
  m8 : ∀ x ∈ d.miss, U8 x
theorem casesC_get {l : List (List Int)} (h : ∀ r ∈ l, r.length = 5) {i j : Nat} {r : List Int} {x : Int} (hr : l[i]? = some r) (hx : r[j]? = some x) : (casesC l)[i * 5 + j]? = some (.lit (.int .u8 x)) := by
  induction l generalizing i with
  | nil => simp at hr
  | cons a l ih =>
    have ha : (bytesL a).length = 5 := by rw [bytesL_len]; exact h a (by simp)
    simp only [casesC, List.map_cons, List.flatten_cons]
    cases i with
    | zero =>
      obtain rfl : a = r := by simpa using hr
      have hj := get_lt hx
      rw [Nat.zero_mul, Nat.zero_add, List.getElem?_append_left (by rw [bytesL_len]; exact hj), bytesL_get hx]
    | succ i =>
      rw [show (i + 1) * 5 + j = 5 + (i * 5 + j) by omega, List.getElem?_append_right (by omega), ha, show 5 + (i * 5 + j) - 5 = i * 5 + j by omega]
      exact ih (fun r hr => h r (by simp [hr])) (by simpa using hr)
theorem casesC_len {l : List (List Int)} (h : ∀ r ∈ l, r.length = 5) : (casesC l).length = l.length * 5 := by
  induction l with
  | nil => rfl
  | cons a l ih =>
    have ha : (bytesL a).length = 5 := by rw [bytesL_len]; exact h a (by simp)
    have := ih fun r hr => h r (by simp [hr])
    simp only [casesC, List.map_cons, List.flatten_cons, List.length_append, List.length_cons] at this ⊢
    omega
def cardsK (l : List Int) : List Int := (l.take 5).map fun x => 2 + x % 2
def cardsD (d : D25) : List Int := if cardsK d.cards = [] then [2] else cardsK d.cards
def caseS (cs : List Int) (f : Int) (raw : List Int) : Nat → List Int
  | 0 => []
  | v + 1 => caseS cs f raw v ++ [(if 0 < v ∧ raw.getD v 0 % 8 < f % 8 then (caseS cs f raw v).getD (v - 1) 0 else raw.getD v 0) % cs.getD v 2]
def casesD (d : D25) : List (List Int) := (d.cases.take 40).map fun r => caseS (cardsD d) d.follow r (cardsD d).length
def missS (xs : List (List Int)) (m : Int) : List (List Int) :=
  let i := (m / 5 % (xs.length : Int)).toNat
  let r := xs.getD i []
  xs.set i (r.set (m % (r.length : Int)).toNat (-1))
def missD (d : D25) : List (List Int) := d.miss.foldl missS (casesD d)
theorem cardsK_rng (l : List Int) : ∀ c ∈ cardsK l, 2 ≤ c ∧ c ≤ 3 := fun c h => by
  obtain ⟨x, _, rfl⟩ := List.mem_map.1 h
  omega
theorem cardsD_rng (d : D25) : ∀ c ∈ cardsD d, 2 ≤ c ∧ c ≤ 3 := fun c h => by
  unfold cardsD at h
  split at h
  · obtain rfl := List.mem_singleton.1 h; omega
  · exact cardsK_rng _ c h
theorem cardsD_len (d : D25) : 1 ≤ (cardsD d).length ∧ (cardsD d).length ≤ 5 := by
  unfold cardsD
  split
  · exact ⟨by simp, by simp⟩
  · rename_i h
    refine ⟨List.length_pos_iff.2 h, ?_⟩
    simp only [cardsK, List.length_map, List.length_take]
    omega
theorem caseS_len (cs : List Int) (f : Int) (raw : List Int) : ∀ v, (caseS cs f raw v).length = v
  | 0 => rfl
  | v + 1 => by simp [caseS, caseS_len cs f raw v]
theorem getD_nn {l : List Int} (h : ∀ x ∈ l, 0 ≤ x) (k : Nat) : 0 ≤ l.getD k 0 := by
  rw [List.getD_eq_getElem?_getD]
  cases hk : l[k]? with
  | none => exact Int.le_refl _
  | some x => exact h x (List.mem_of_getElem? hk)
theorem caseS_rng {cs : List Int} (hc : ∀ c ∈ cs, 2 ≤ c ∧ c ≤ 3) {f : Int} {raw : List Int} (hr : ∀ x ∈ raw, 0 ≤ x) : ∀ v k x, (caseS cs f raw v)[k]? = some x → 0 ≤ x ∧ x < cs.getD k 2 := by
  have cp : ∀ k, 2 ≤ cs.getD k 2 := fun k => by
    rw [List.getD_eq_getElem?_getD]
    cases hk : cs[k]? with
    | none => exact Int.le_refl _
    | some c => exact (hc c (List.mem_of_getElem? hk)).1
  intro v
  induction v with
  | zero => intro k x h; simp [caseS] at h
  | succ v ih =>
    intro k x h
    unfold caseS at h
    rcases Nat.lt_or_ge k v with hk | hk
    · rw [List.getElem?_append_left (by rw [caseS_len]; exact hk)] at h
      exact ih k x h
    · have := get_lt h
      rw [List.length_append, List.length_singleton, caseS_len] at this
      obtain rfl : k = v := by omega
      rw [List.getElem?_append_right (by rw [caseS_len]; exact Nat.le_refl _), caseS_len, Nat.sub_self] at h
      obtain rfl := Option.some.inj h
      exact ⟨Int.emod_nonneg _ (by have := cp k; omega), Int.emod_lt_of_pos _ (by have := cp k; omega)⟩
theorem caseS_nn {cs : List Int} (hc : ∀ c ∈ cs, 2 ≤ c ∧ c ≤ 3) {f : Int} {raw : List Int} (hr : ∀ x ∈ raw, 0 ≤ x) (v : Nat) : ∀ x ∈ caseS cs f raw v, 0 ≤ x := fun x hx => by
  obtain ⟨k, hk⟩ := List.getElem?_of_mem hx
  exact (caseS_rng hc hr v k x hk).1
theorem casesD_fit {d : D25} : (casesD d).length ≤ 40 ∧ ∀ r ∈ casesD d, r.length = (cardsD d).length := by
  refine ⟨by unfold casesD; rw [List.length_map, List.length_take]; omega, fun r hr => ?_⟩
  obtain ⟨q, _, rfl⟩ := List.mem_map.1 hr
  exact caseS_len ..
def RowsN (n : Nat) (xs : List (List Int)) : Prop := ∀ r ∈ xs, r.length = n
theorem RowsN.set {n : Nat} {xs : List (List Int)} (h : RowsN n xs) {i : Nat} {r : List Int} (hr : r.length = n) : RowsN n (xs.set i r) := fun q hq => by
  rcases List.mem_or_eq_of_mem_set hq with h' | rfl
  · exact h q h'
  · exact hr
theorem missS_ok {n : Nat} {xs : List (List Int)} (h : RowsN n xs) (m : Int) : (missS xs m).length = xs.length ∧ RowsN n (missS xs m) := by
  refine ⟨by simp [missS], ?_⟩
  unfold missS
  intro q hq
  rcases List.mem_or_eq_of_mem_set hq with h' | rfl
  · exact h q h'
  · rw [List.length_set]
    rw [List.getD_eq_getElem?_getD]
    cases hk : xs[(m / 5 % (xs.length : Int)).toNat]? with
    | none =>
      exfalso
      have hm : xs.set (m / 5 % (xs.length : Int)).toNat (((xs.getD (m / 5 % (xs.length : Int)).toNat []).set (m % ((xs.getD (m / 5 % (xs.length : Int)).toNat []).length : Int)).toNat (-1))) = xs := by
        apply List.set_eq_of_length_le
        exact List.getElem?_eq_none_iff.1 hk
      rcases Nat.eq_zero_or_pos xs.length with h0 | h0
      · rw [List.eq_nil_of_length_eq_zero h0] at hq
        simp at hq
      · have := Int.emod_lt_of_pos (m / 5) (show (0 : Int) < xs.length by omega)
        have := Int.emod_nonneg (m / 5) (show (xs.length : Int) ≠ 0 by omega)
        have := List.getElem?_eq_none_iff.1 hk
        omega
    | some r => exact h r (List.mem_of_getElem? hk)
theorem missF_ok {n : Nat} (ms : List Int) : ∀ {xs : List (List Int)}, RowsN n xs → (ms.foldl missS xs).length = xs.length ∧ RowsN n (ms.foldl missS xs) := by
  induction ms with
  | nil => intro xs h; exact ⟨rfl, h⟩
  | cons m ms ih =>
    intro xs h
    obtain ⟨a, b⟩ := missS_ok h m
    obtain ⟨c, e⟩ := ih b
    exact ⟨c.trans a, e⟩
theorem missD_ok (d : D25) : (missD d).length ≤ 40 ∧ RowsN (cardsD d).length (missD d) := by
  obtain ⟨a, b⟩ := casesD_fit (d := d)
  obtain ⟨c, e⟩ := missF_ok d.miss (xs := casesD d) b
  exact ⟨by unfold missD; omega, e⟩
end Go.Proofs
