/- Own work: contracts. -/
import Derived.Test.YtikgmgmphkalkaaDoorConC
import Derived.Test.YtikgmgmphkalkaaDoorConB
set_option linter.all false
set_option maxRecDepth 100000
namespace Go.Hx
variable {P : Program}
structure OwnM (lo : Nat) (H : AHeap) (e1 e0 : TypeId) (v : AVal) (ids : List Nat) (rows : List (List AVal)) : Prop where
  len : ids.length = rows.length
  nd : ids.Nodup
  rng : ∀ i ∈ ids, lo ≤ i ∧ i < H.next
  top : OwnG lo H e1 v (List.zipWith (fun i n => AVal.own i 0 0 n 1) ids (rows.map List.length))
  row : ∀ (k id : Nat) (r : List AVal), ids[k]? = some id → rows[k]? = some r → H.get id = some (.arr 0 e0 r)
theorem OwnM.nil {lo : Nat} {H : AHeap} {e1 e0 : TypeId} : OwnM lo H e1 e0 (.lit (.slice none 0 0)) [] [] :=
  ⟨rfl, .nil, fun i h => (by cases h), .nil, fun k id r h => (by simp at h)⟩
theorem OwnM.keep {lo : Nat} {H H' : AHeap} {e1 e0 : TypeId} {v : AVal} {ids : List Nat} {rows : List (List AVal)} (h : OwnM lo H e1 e0 v ids rows) (hn : H.next ≤ H'.next) (hk : ∀ id, lo ≤ id → id < H.next → H'.get id = H.get id) : OwnM lo H' e1 e0 v ids rows :=
  ⟨h.len, h.nd, fun i hi => ⟨(h.rng i hi).1, by have := (h.rng i hi).2; omega⟩, h.top.keep (Nat.le_refl _) hn fun id _ h1 h2 _ _ => hk id h1 h2, fun k id r h1 h2 => by
    have := h.rng id (List.mem_of_getElem? h1)
    rw [hk id this.1 this.2]
    exact h.row k id r h1 h2⟩
theorem OwnM.app {lo n : Nat} {H : AHeap} {e1 e0 : TypeId} {v : AVal} {ids : List Nat} {rows : List (List AVal)} {r : List AVal} {t : TypeId} {z : List AVal} (ht : P.underlying t = some (.slice e1)) (hz : P.cellsOf e1 = 1) (hzero : zeroA P e1 = some z) (hby : P.bytesOf e1 = 24) (hne : e1 ≠ e0)
    (hb : rows.length < 2 ^ 40) (h : OwnM lo H e1 e0 v ids rows) (hlo : lo ≤ H.next) (hn : n = H.next + 2) :
    ∃ v' H', appendA P (ext (ext H [.arr 0 e0 r]) [.arr 0 e1 [.own H.next 0 0 r.length 1]]) n t t v (.own (H.next + 1) 0 0 1 1) = some (v', H') ∧ OwnM lo H' e1 e0 v' (ids ++ [H.next]) (rows ++ [r]) ∧ H.next ≤ H'.next ∧ (∀ k, k < H.next → k < lo → H'.get k = H.get k) := by
  obtain ⟨Hb, hHb⟩ : ∃ Hb, Hb = ext H [.arr 0 e0 r] := ⟨_, rfl⟩
  have nb : Hb.next = H.next + 1 := by rw [hHb]; rfl
  have ob : Over H Hb := by rw [hHb]; exact .ext _ _
  have gb : Hb.get H.next = some (.arr 0 e0 r) := by rw [hHb]; exact ext1_get_new
  have htop := h.top.over ob
  obtain ⟨v', H', hA, hO, hL, hp⟩ := app_oneG (P := P) (H := Hb) (t := t) (x := .own H.next 0 0 r.length 1) (n := n) ht hz hzero rfl (by rw [hby]; simp [h.len]; omega) htop (by omega) (by omega)
  rw [nb, hHb] at hA
  have old : ∀ id g, lo ≤ id → id < Hb.next → Hb.get id = some (.arr g e0 r) → H'.get id = Hb.get id := fun id g h1 h2 h3 => hp id h2 fun g' m he => by
    rcases htop with ⟨hv, _⟩ | ⟨i, g2, _, _, hv, h4⟩
    · rw [hv] at he; cases he
    · rw [hv] at he
      obtain rfl : i = id := (AVal.own.inj he).1
      rw [h4] at h3
      cases h3
      exact hne rfl
  have oldr : ∀ id g q, lo ≤ id → id < Hb.next → Hb.get id = some (.arr g e0 q) → H'.get id = Hb.get id := fun id g q h1 h2 h3 => hp id h2 fun g' m he => by
    rcases htop with ⟨hv, _⟩ | ⟨i, g2, _, _, hv, h4⟩
    · rw [hv] at he; cases he
    · rw [hv] at he
      obtain rfl : i = id := (AVal.own.inj he).1
      rw [h4] at h3
      cases h3
      exact hne rfl
  refine ⟨v', H', hA, ⟨by simp [h.len], List.nodup_append.2 ⟨h.nd, by simp, fun a ha b hb => by
    obtain rfl := List.mem_singleton.1 hb
    have := (h.rng a ha).2
    omega⟩, fun i hi => ?_, ?_, fun k id q h1 h2 => ?_⟩, by omega, fun k hk hkl => ?_⟩
  · rcases List.mem_append.1 hi with h1 | h1
    · have := h.rng i h1; omega
    · obtain rfl := List.mem_singleton.1 h1; omega
  · rw [List.map_append, List.zipWith_append (by rw [List.length_map]; exact h.len)]
    exact hO
  · have hk := List.getElem?_eq_some_iff.1 h1
    obtain ⟨hk, _⟩ := hk
    rw [List.length_append, List.length_singleton] at hk
    rcases Nat.lt_or_ge k ids.length with hlt | hge
    · rw [List.getElem?_append_left hlt] at h1
      rw [List.getElem?_append_left (by rw [← h.len]; exact hlt)] at h2
      have hr := h.rng id (List.mem_of_getElem? h1)
      have hg := h.row k id q h1 h2
      rw [oldr id 0 q hr.1 (by omega) ((ob.old id hr.2).trans hg), ob.old id hr.2]
      exact hg
    · obtain rfl : k = ids.length := by omega
      rw [List.getElem?_append_right (Nat.le_refl _), Nat.sub_self] at h1
      rw [h.len, List.getElem?_append_right (Nat.le_refl _), Nat.sub_self] at h2
      cases h1
      cases h2
      rw [oldr H.next 0 r hlo (by omega) gb]
      exact gb
  · rw [hp k (by omega) fun g m he => ?_, ob.old k hk]
    rcases htop with ⟨hv, _⟩ | ⟨i, g2, a1, _, hv, h4⟩
    · rw [hv] at he; cases he
    · rw [hv] at he
      have := (AVal.own.inj he).1
      omega
theorem OwnM.topB {lo : Nat} {H : AHeap} {e1 e0 : TypeId} {v : AVal} {ids : List Nat} {rows : List (List AVal)} (h : OwnM lo H e1 e0 v ids rows) (h0 : rows ≠ []) : ∃ id g, lo ≤ id ∧ id < H.next ∧ v = .own id g 0 rows.length 1 ∧ H.get id = some (.arr g e1 (List.zipWith (fun i n => AVal.own i 0 0 n 1) ids (rows.map List.length))) ∧ (e1 ≠ e0 → id ∉ ids) := by
  have hzl : (List.zipWith (fun i n => AVal.own i 0 0 n 1) ids (rows.map List.length)).length = rows.length := by simp [h.len]
  rcases h.top with ⟨hv, h4⟩ | ⟨i, g, a, b, hv, h4⟩
  · rw [h4] at hzl
    exact absurd (List.eq_nil_of_length_eq_zero hzl.symm) h0
  · refine ⟨i, g, a, b, by rw [hv, hzl], h4, fun hne hm => ?_⟩
    obtain ⟨k, hk⟩ := List.mem_iff_getElem?.1 hm
    have hkl : k < rows.length := by rw [← h.len]; exact (List.getElem?_eq_some_iff.1 hk).1
    have := h.row k i _ hk (List.getElem?_eq_getElem hkl)
    rw [h4] at this
    exact hne (Blk.arr.inj (Option.some.inj this)).2.1
theorem OwnM.store {lo : Nat} {H : AHeap} {e1 e0 : TypeId} {v : AVal} {ids : List Nat} {rows : List (List AVal)} (h : OwnM lo H e1 e0 v ids rows) (hne : e1 ≠ e0) {k id : Nat} {r r' : List AVal} (hk : ids[k]? = some id) (hr : rows[k]? = some r) (hl : r'.length = r.length) : OwnM lo (H.upd id (.arr 0 e0 r')) e1 e0 v ids (rows.set k r') := by
  have hid := h.rng id (List.mem_of_getElem? hk)
  have h0 : rows ≠ [] := fun e => by rw [e] at hr; simp at hr
  refine ⟨by rw [List.length_set]; exact h.len, h.nd, fun i hi => by rw [upd_next]; exact h.rng i hi, ?_, fun j id' q h1 h2 => ?_⟩
  · have e : (rows.set k r').map List.length = rows.map List.length := by
      rw [List.map_set, hl]
      apply List.ext_getElem?
      intro i
      rw [List.getElem?_set]
      split
      · rename_i hi
        subst hi
        have hkl := (List.getElem?_eq_some_iff.1 hr).1
        rw [if_pos (by rw [List.length_map]; exact hkl), List.getElem?_map, hr]
        rfl
      · rfl
    rw [e]
    obtain ⟨i, g, a, b, _, h4, h5⟩ := h.topB h0
    refine h.top.keep (Nat.le_refl _) (by rw [upd_next]; exact Nat.le_refl _) fun i2 g2 _ _ h3 _ => ?_
    rw [upd_get, if_neg]
    rintro rfl
    rw [h.row k i2 r hk hr] at h3
    cases h3
    exact hne rfl
  · rw [upd_get]
    by_cases hj : j = k
    · subst hj
      rw [hk] at h1
      cases h1
      rw [List.getElem?_set_self (List.getElem?_eq_some_iff.1 hr).1] at h2
      cases h2
      rw [if_pos rfl]
    · rw [List.getElem?_set_ne (fun e => hj e.symm)] at h2
      rw [if_neg, h.row j id' q h1 h2]
      rintro rfl
      exact hj ((List.getElem?_inj (List.getElem?_eq_some_iff.1 h1).1 h.nd).1 (by rw [h1, hk]))
theorem OwnM.fz {S : Nat → Prop} {lo nx : Nat} {H : AHeap} {e1 e0 : TypeId} {v : AVal} {ids : List Nat} {rows : List (List AVal)} (h : OwnM lo H e1 e0 v ids rows) (hS : ∀ i, lo ≤ i → S i) (hr : ∀ r ∈ rows, ∀ c ∈ r, Fz S H nx c c) :
    Fz S H nx v (.vec rows.length (rows.map fun r => .vec r.length r)) := by
  have hz : (List.zipWith (fun i n => AVal.own i 0 0 n 1) ids (rows.map List.length)).length = rows.length := by simp [h.len]
  have := h.top.fz (S := S) (nx := nx) (cs' := rows.map fun r => .vec r.length r) hS (by simp [h.len]) fun i hi hi' => by
    simp only [List.getElem_map, List.getElem_zipWith]
    have hil : i < rows.length := by omega
    have hii : i < ids.length := by rw [h.len]; exact hil
    refine .frz (hS _ (h.rng _ (List.getElem_mem hii)).1) (h.row i _ _ (List.getElem?_eq_getElem hii) (List.getElem?_eq_getElem hil)) (by simp) fun j hj h2 h' => ?_
    have e0 : (0 : Nat) + j = j := Nat.zero_add j
    have h3 := hr rows[i] (List.getElem_mem hil) _ (List.getElem_mem h')
    simpa only [e0] using h3
  rw [List.length_map] at this
  exact this
end Go.Hx
namespace Go.Proofs
open Go.Hx
def rowsE (x : NodeP) : AVal := if x.rows = [] then .lit (.slice none 0 0) else vecV x.rows
def NodeP.cellsE (x : NodeP) : List AVal := [lin x.card, vecI x.parents, rowsE x]
def nodesE (l : List NodeP) : List AVal := (l.map NodeP.cellsE).flatten
theorem nodesE_len (l : List NodeP) : (nodesE l).length = l.length * 3 := flat_len (f := NodeP.cellsE) (fun _ => rfl) l
theorem nodesE_0 {l : List NodeP} {i : Nat} {x : NodeP} (h : l[i]? = some x) : (nodesE l)[i * 3]? = some (lin x.card) := flat_get (f := NodeP.cellsE) (z := 3) (fun _ => rfl) l i 0 x h (by omega)
theorem nodesE_1 {l : List NodeP} {i : Nat} {x : NodeP} (h : l[i]? = some x) : (nodesE l)[i * 3 + 1]? = some (vecI x.parents) := flat_get (f := NodeP.cellsE) (z := 3) (fun _ => rfl) l i 1 x h (by omega)
theorem nodesE_2 {l : List NodeP} {i : Nat} {x : NodeP} (h : l[i]? = some x) : (nodesE l)[i * 3 + 2]? = some (rowsE x) := flat_get (f := NodeP.cellsE) (z := 3) (fun _ => rfl) l i 2 x h (by omega)
theorem nodesE_snoc (l : List NodeP) (x : NodeP) : nodesE (l ++ [x]) = nodesE l ++ [lin x.card, vecI x.parents, rowsE x] := by unfold nodesE; simp [NodeP.cellsE]
theorem rowsE_ne {x : NodeP} (h : x.rows ≠ []) : rowsE x = vecV x.rows := if_neg h
theorem fz_rowsE {S : Nat → Prop} {H : AHeap} {nx : Nat} (x : NodeP) : Fz S H nx (rowsE x) (vecV x.rows) := by
  unfold rowsE
  split
  · rename_i h; rw [h]; exact .nil
  · exact .vecV _
theorem fz_rowsE' {S : Nat → Prop} {H : AHeap} {nx : Nat} (x : NodeP) : Fz S H nx (rowsE x) (rowsE x) := by
  unfold rowsE
  split
  · exact .lit _
  · exact .vecV _
theorem fz_nodesE' {S : Nat → Prop} {H : AHeap} {nx : Nat} (l : List NodeP) : ∀ c ∈ nodesE l, Fz S H nx c c := by
  intro c hc
  unfold nodesE at hc
  obtain ⟨r, hr, hc⟩ := List.mem_flatten.1 hc
  obtain ⟨x, _, rfl⟩ := List.mem_map.1 hr
  unfold NodeP.cellsE at hc
  simp only [List.mem_cons, List.not_mem_nil, or_false] at hc
  rcases hc with rfl | rfl | rfl
  · exact .lit _
  · exact .keepInts _
  · exact fz_rowsE' x
structure NodesQ (e : Nat → Prop) (ns : List NodeP) (cs : List AVal) : Prop where
  len : cs.length = ns.length * 3
  node : ∀ (v : Nat) (x : NodeP), ns[v]? = some x → ∃ rv, cs[v * 3]? = some (lin x.card) ∧ cs[v * 3 + 1]? = some (vecI x.parents) ∧ cs[v * 3 + 2]? = some rv ∧ (rv = vecV x.rows ∨ rv = rowsE x) ∧ (e v → rv = rowsE x)
theorem NodesQ.c0 {e : Nat → Prop} {ns : List NodeP} {cs : List AVal} (h : NodesQ e ns cs) {v : Nat} {x : NodeP} (hx : ns[v]? = some x) : cs[v * 3]? = some (lin x.card) := (h.node v x hx).elim fun _ h => h.1
theorem NodesQ.c1 {e : Nat → Prop} {ns : List NodeP} {cs : List AVal} (h : NodesQ e ns cs) {v : Nat} {x : NodeP} (hx : ns[v]? = some x) : cs[v * 3 + 1]? = some (vecI x.parents) := (h.node v x hx).elim fun _ h => h.2.1
theorem NodesQ.ne {e : Nat → Prop} {ns : List NodeP} {cs : List AVal} (h : NodesQ e ns cs) {v : Nat} {x : NodeP} (hx : ns[v]? = some x) : ¬ cs = [] := fun he => by
  have := h.c0 hx; rw [he] at this; simp at this
theorem NodesQ.part {e : Nat → Prop} {ns : List NodeP} {cs : List AVal} (h : NodesQ e ns cs) {v : Nat} {x : NodeP} (hx : ns[v]? = some x) : ∃ rv, (cs.drop (v * 3)).take 3 = [lin x.card, vecI x.parents, rv] ∧ cs[v * 3 + 2]? = some rv ∧ (rv = vecV x.rows ∨ rv = rowsE x) ∧ (e v → rv = rowsE x) := by
  obtain ⟨rv, a, b, c, d, f⟩ := h.node v x hx
  refine ⟨rv, ?_, c, d, f⟩
  have h3 := get_lt c
  rw [List.drop_eq_getElem_cons (by omega), List.drop_eq_getElem_cons (by omega), List.drop_eq_getElem_cons (by omega)]
  simp only [List.take_succ_cons, List.take_zero]
  rw [List.getElem?_eq_getElem (by omega)] at a b c
  rw [Option.some.inj a, Option.some.inj b, Option.some.inj c]
theorem NodesQ.nil {e : Nat → Prop} : NodesQ e [] [] := ⟨rfl, fun v x hx => by simp at hx⟩
theorem NodesQ.snoc {e : Nat → Prop} {ns : List NodeP} {cs : List AVal} (h : NodesQ e ns cs) {x : NodeP} {rv : AVal} (h1 : rv = vecV x.rows ∨ rv = rowsE x) (h2 : e ns.length → rv = rowsE x) : NodesQ e (ns ++ [x]) (cs ++ [lin x.card, vecI x.parents, rv]) := by
  have hl := h.len
  refine ⟨by simp [hl]; omega, fun v y hy => ?_⟩
  by_cases hv : v < ns.length
  · rw [List.getElem?_append_left hv] at hy
    obtain ⟨r, a, b, c, d⟩ := h.node v y hy
    exact ⟨r, by rw [List.getElem?_append_left (by omega)]; exact a, by rw [List.getElem?_append_left (by omega)]; exact b, by rw [List.getElem?_append_left (by omega)]; exact c, d⟩
  · have : v = ns.length := by have := get_lt hy; simp at this; omega
    subst this
    rw [List.getElem?_append_right (by omega), Nat.sub_self] at hy
    cases hy
    refine ⟨rv, ?_, ?_, ?_, h1, h2⟩
    · rw [List.getElem?_append_right (by omega), show ns.length * 3 - cs.length = 0 by omega]; rfl
    · rw [List.getElem?_append_right (by omega), show ns.length * 3 + 1 - cs.length = 1 by omega]; rfl
    · rw [List.getElem?_append_right (by omega), show ns.length * 3 + 2 - cs.length = 2 by omega]; rfl
theorem NodesQ.mono {e e' : Nat → Prop} {ns : List NodeP} {cs : List AVal} (h : NodesQ e ns cs) (he : ∀ v, e' v → e v) : NodesQ e' ns cs := ⟨h.len, fun v x hx => by
  obtain ⟨r, a, b, c, d, f⟩ := h.node v x hx
  exact ⟨r, a, b, c, d, fun h => f (he v h)⟩⟩
theorem NodesQ.fzA {e : Nat → Prop} {ns : List NodeP} {cs : List AVal} (h : NodesQ e ns cs) {S : Nat → Prop} {H : AHeap} {nx : Nat} : ∀ (i : Nat) (h1 : i < cs.length) (h2 : i < (nodesC ns).length), Fz S H nx cs[i] (nodesC ns)[i] := by
  intro i h1 h2
  have hb : i / 3 < ns.length := by rw [h.len] at h1; omega
  obtain ⟨x, hx⟩ := get_of_lt hb
  obtain ⟨rv, a, b, c, d, _⟩ := h.node _ x hx
  have hp : i = (i / 3) * 3 + i % 3 := by omega
  have g1 : cs[i]? = some cs[i] := List.getElem?_eq_getElem h1
  have g2 : (nodesC ns)[i]? = some (nodesC ns)[i] := List.getElem?_eq_getElem h2
  generalize cs[i] = u at g1 ⊢
  generalize (nodesC ns)[i] = w at g2 ⊢
  have c3 : i % 3 = 0 ∨ i % 3 = 1 ∨ i % 3 = 2 := by omega
  rcases c3 with c0 | c0 | c0
  · rw [hp, c0, Nat.add_zero, a] at g1
    rw [hp, c0, Nat.add_zero, nodesC_0 hx] at g2
    cases g1; cases g2; exact .lit _
  · rw [hp, c0, b] at g1
    rw [hp, c0, nodesC_1 hx] at g2
    cases g1; cases g2; exact .keepInts _
  · rw [hp, c0, c] at g1
    rw [hp, c0, nodesC_2 hx] at g2
    cases g1; cases g2
    rcases d with d | d <;> rw [d]
    · exact .vecV _
    · exact fz_rowsE x
structure RightN (d : InfP) : Prop where
  n1 : 1 ≤ d.nodes.length ∧ d.nodes.length ≤ 8
  decs : d.decs >>> d.nodes.length = 0
  card : ∀ x ∈ d.nodes, 1 ≤ x.card ∧ x.card ≤ 4
  dec : ∀ v x, d.nodes[v]? = some x → d.decs.testBit v = true → x.rows = [] ∧ PlacesOk x.parents d.nodes.length
structure InfFit (d : InfP) : Prop where
  nodes : NetFit d.nodes
  decs : d.decs < 2 ^ 64
  utils : (d.utils.length : Int) < 2 ^ 38 ∧ ∀ u ∈ d.utils, (u.vars.length : Int) < 2 ^ 38 ∧ (u.w.length : Int) < 2 ^ 38
theorem set_get_self {α : Type} {l : List α} {i : Nat} {x : α} (h : l[i]? = some x) : l.set i x = l := by
  apply List.ext_getElem?
  intro j
  rw [List.getElem?_set]
  split
  · rename_i hj; subst hj; rw [if_pos (get_lt h), h]
  · rfl
theorem app_rowG {lo : Nat} {H' : AHeap} {v : AVal} {l : List AVal} (x : AVal) (hx : x.one = true) (h : OwnG lo H' 22 v l) (hlo : lo ≤ H'.next) (hl : l.length < 2 ^ 40) :
    ∃ v' H2, appendA Tryd.prog (ext H' [.arr 0 22 [x]]) (H'.next + 1) 48 48 v (.own H'.next 0 0 1 1) = some (v', H2) ∧ OwnG lo H2 22 v' (l ++ [x]) ∧ H'.next ≤ H2.next ∧ (∀ k, k < H'.next → (∀ g n, v ≠ .own k g 0 n 1) → H2.get k = H'.get k) :=
  app_oneG (P := Tryd.prog) (H := H') (t := 48) (x := x) (n := H'.next + 1) Tryd.underlying48 Tryd.cells22 Tryd.zero22 hx (by rw [Tryd.bytes22]; omega) h hlo rfl
structure UtilOk (ns : List NodeP) (u : UtilP) : Prop where
  vars : PlacesOk u.vars ns.length
  size : (u.w.length : Int) = prodL (atL (cardsL ns) u.vars)
  w : ∀ x ∈ u.w, -100 ≤ x ∧ x ≤ 100
def UtilsOk (d : InfP) : Prop := d.utils.length ≤ 4 ∧ ∀ u ∈ d.utils, UtilOk d.nodes u
structure InfOk (d : InfP) : Prop where
  n : RightN d
  net : NetOk d.grain (fillL d fun _ _ => 0)
  utils : UtilsOk d
structure PolOk (d : InfP) (p : List (List Int)) : Prop where
  len : p.length = (decL d).length
  row : ∀ (k v : Nat) (x : NodeP) (l : List Int), (decL d)[k]? = some v → d.nodes[v]? = some x → p[k]? = some l → l.length = rowsN d.nodes x ∧ ∀ a ∈ l, 0 ≤ a ∧ a < x.card
end Go.Proofs
namespace Go.Hx
variable {P : Program} {G : Nat → Option (List AVal)} {n : Nat} {rd : Option Nat} {Q : AX → St → Prop}

end Go.Hx
namespace Go.Proofs
open Go.Hx
def rowV (ns : List NodeP) (x : NodeP) (vals : List Int) : List Int := x.rows.getD (idxL (parC ns x) (atL vals x.parents)).toNat []
def wgtN (ns : List NodeP) (vals : List Int) (v : Nat) : Int := match ns[v]? with
  | some x => (rowV ns x vals).getD (vals.getD v 0).toNat 0
  | none => 1
def wgtL (ns : List NodeP) (vals : List Int) : List Int := (List.range ns.length).map (wgtN ns vals)
def worlds (ns : List NodeP) : Nat := (prodL (cardsL ns)).toNat
theorem wgtL_len (ns : List NodeP) (vals : List Int) : (wgtL ns vals).length = ns.length := by simp [wgtL]
theorem wgtL_get {ns : List NodeP} {vals : List Int} {v : Nat} (h : v < ns.length) : (wgtL ns vals)[v]? = some (wgtN ns vals v) := by
  unfold wgtL; rw [List.getElem?_map, List.getElem?_range h]; rfl
theorem fits_par {ns : List NodeP} {x : NodeP} {vals : List Int} (hin : InRange x.parents ns.length) (hf : FitsC (cardsL ns) vals) : FitsC (parC ns x) (atL vals x.parents) := by
  refine ⟨by unfold parC; rw [atL_len, atL_len], fun k c v h1 h2 => ?_⟩
  obtain ⟨q, hq⟩ := get_of_lt (l := x.parents) (i := k) (by have := get_lt h2; rw [atL_len] at this; exact this)
  obtain ⟨j, rfl, y, hy⟩ := get_of_int (l := ns) (hin q (List.mem_of_getElem? hq)).1 (hin q (List.mem_of_getElem? hq)).2
  obtain ⟨b, hb⟩ := get_of_lt (l := vals) (i := j) (by rw [hf.1, cards_len]; exact get_lt hy)
  have e1 : (parC ns x)[k]? = some y.card := by rw [show (parC ns x)[k]? = _ from atL_get hq, Int.toNat_natCast, getD_of_get (cards_get hy)]
  have e2 : (atL vals x.parents)[k]? = some b := by rw [atL_get hq, Int.toNat_natCast, getD_of_get hb]
  rw [h1] at e1; rw [h2] at e2
  cases e1; cases e2
  exact hf.2 j y.card _ (cards_get hy) hb
structure RowAtW (g : Int) (ns : List NodeP) (x : NodeP) (vals : List Int) (v : Nat) (i : Nat) (r : List Int) (a w : Int) : Prop where
  idx : idxL (parC ns x) (atL vals x.parents) = i
  row : x.rows[i]? = some r
  val : vals[v]? = some a
  a0 : 0 ≤ a
  hw : r[a.toNat]? = some w
  wb : 0 ≤ w ∧ w ≤ g
  eq : wgtN ns vals v = w
  rv : rowV ns x vals = r
  len : (r.length : Int) = x.card
  al : a < r.length
theorem row_at {g : Int} {ns : List NodeP} (h : NetOk g ns) {v : Nat} {x : NodeP} (hx : ns[v]? = some x) {vals : List Int} (hf : FitsC (cardsL ns) vals) : ∃ i r a w, RowAtW g ns x vals v i r a w := by
  have hxm := List.mem_of_getElem? hx
  have hin : InRange x.parents ns.length := fun q hq => by have := (h.node x hxm).2.2 q hq; omega
  have hr := idxL_range (fits_par hin hf)
  obtain ⟨r1, r2⟩ := h.rows x hxm
  obtain ⟨i, hi⟩ := Int.eq_ofNat_of_zero_le hr.1
  obtain ⟨r, hrr⟩ := get_of_lt (l := x.rows) (i := i) (by rw [← r1, hi] at hr; omega)
  obtain ⟨s1, s2, s3⟩ := r2 r (List.mem_of_getElem? hrr)
  obtain ⟨a, ha⟩ := get_of_lt (l := vals) (i := v) (by rw [hf.1, cards_len]; exact get_lt hx)
  have hb := hf.2 v x.card a (cards_get hx) ha
  obtain ⟨w, hw⟩ := get_of_lt (l := r) (i := a.toNat) (by omega)
  have rv : rowV ns x vals = r := by unfold rowV; rw [hi, Int.toNat_natCast, getD_of_get hrr]
  exact ⟨i, r, a, w, hi, hrr, ha, hb.1, hw, s2 w (List.mem_of_getElem? hw), by unfold wgtN; rw [hx]; simp only; rw [rv, getD_of_get ha, getD_of_get hw], rv, s1, by omega⟩
set_option maxHeartbeats 1000000 in
theorem values02_spec (cs : List Int) (h1 : ∀ c ∈ cs, 1 ≤ c) (hs : SmallC cs) (i0 : Int) (hi : 0 ≤ i0 ∧ i0 ≤ 4611686018427387904) (H : AHeap) (K : ARes → AHeap → Prop) (hK : K (.ret (vecI (valsL cs i0))) H) : ACall Tryd.prog G0 65 [vecI cs, lin i0] H K := by
  refine ACall.clo ⟨_, Tryd.func65, rfl, rfl⟩ fun hcl => ?_
  have h12 := hs.1
  have w0 := IntWalk.i64_in ((cs.length : Int) - 1) (by omega)
  refine ACall.of_body (n := 33) (rs := [.tmp 4]) Tryd.func65 rfl rfl rfl (by decide) (by kernel_rfl) (by simp) ?_
  simp (config := { maxSteps := 1000000 }) only [go_sem, w0, appendA_U]
  refine ⟨by omega, ?_⟩
  refine W.loop0 4294959170 (by rfl) (fun ρ H' => ∃ m : Nat, ρ 6 = lin ((m : Int) - 1) ∧ m ≤ cs.length ∧ OwnI H H' H.next (List.replicate m 0 ++ valsL (cs.drop m) i0) ∧ ρ 1 = lin (i0 / prodL (cs.drop m))) (fun ρ H => (iv (ρ 6) + 1).toNat) ?_ ?_
  · simp (config := { maxSteps := 1000000 }) only [go_sem, appendA_U]
    refine ⟨cs.length, rfl, by omega, ?_, ?_⟩
    · rw [List.drop_length, show valsL [] i0 = [] from rfl, List.append_nil]
      exact .new [] _
    · rw [List.drop_length, prodL_nil, Int.ediv_one]
  rintro ρ H' ⟨m, h6, hm, ho, h1'⟩
  refine W.env fun E hE => ?_
  have e0 : E 0 = .vec cs.length (ints cs) := by rw [hE]; simp (config := { maxSteps := 1000000 }) only [go_sem, appendA_U]
  have e1 : E 1 = lin (i0 / prodL (cs.drop m)) := by rw [hE]; simp (config := { maxSteps := 1000000 }) only [go_sem, h1', appendA_U]
  have e5 : E 5 = .own H.next 0 0 cs.length 1 := by rw [hE]; simp (config := { maxSteps := 1000000 }) only [go_sem, appendA_U]
  have e6 : E 6 = lin ((m : Int) - 1) := by rw [hE]; simp (config := { maxSteps := 1000000 }) only [go_sem, h6, appendA_U]
  clear hE
  refine vc_sound _ _ _ (by rfl) ?_
  have lN := ho.live
  have clen : (List.replicate m 0 ++ valsL (cs.drop m) i0).length = cs.length := by simp [valsL_len]; omega
  by_cases hm0 : m = 0
  · subst hm0
    have e6' : E 6 = lin (-1) := e6
    simp (config := { maxSteps := 1000000 }) only [go_sem, e6', e5, appendA_U]
    exact ho.fin hcl clen.symm hK
  · obtain ⟨k, rfl⟩ : ∃ k, m = k + 1 := ⟨m - 1, by omega⟩
    have e6' : E 6 = lin k := by rw [e6]; congr 1; omega
    obtain ⟨c, hck⟩ := get_of_lt (l := cs) (i := k) (by omega)
    have hne := ne_of_get hck
    have c1 := h1 c (List.mem_of_getElem? hck)
    have hcz : ¬ c = 0 := by omega
    have hk0 : (k : Int) ≥ 0 := by omega
    have hkc : (k : Int) < cs.length := by omega
    have pp : 1 ≤ prodL (cs.drop (k + 1)) := prodL_pos fun c hc => h1 c (List.mem_of_mem_drop hc)
    have q0 : 0 ≤ i0 / prodL (cs.drop (k + 1)) := Int.ediv_nonneg hi.1 (by omega)
    have q1 : i0 / prodL (cs.drop (k + 1)) ≤ i0 := Int.ediv_le_self _ hi.1
    have m1 : (i0 / prodL (cs.drop (k + 1))).tmod c = i0 / prodL (cs.drop (k + 1)) % c := Int.tmod_eq_emod_of_nonneg q0
    have m2 : (i0 / prodL (cs.drop (k + 1))).tdiv c = i0 / prodL (cs.drop (k + 1)) / c := Int.tdiv_eq_ediv_of_nonneg q0
    have m3 : 0 ≤ i0 / prodL (cs.drop (k + 1)) / c := Int.ediv_nonneg q0 (by omega)
    have m4 : i0 / prodL (cs.drop (k + 1)) / c ≤ i0 / prodL (cs.drop (k + 1)) := Int.ediv_le_self _ q0
    have w1 := IntWalk.i64_in ((k : Int) - 1) (by omega)
    have w2 := IntWalk.i64_in (i0 / prodL (cs.drop (k + 1)) / c) (by omega)
    simp (config := { maxSteps := 1000000 }) only [go_sem, e0, e1, e5, e6', hk0, hkc, lN, hck, hne, hcz, m1, m2, w1, w2, appendA_U]
    refine ⟨by rw [← List.length_append, clen]; omega, by have := ho.hi; rw [upd_next]; omega, ⟨k, rfl, by omega, ?_, ?_⟩, by rw [h6]; simp only [lin, iv_int]; omega⟩
    · have := ho.store (k := k) (by rw [clen]; omega) (i0 / prodL (cs.drop (k + 1)) % c)
      rw [show (List.replicate (k + 1) (0 : Int) ++ valsL (cs.drop (k + 1)) i0).set k (i0 / prodL (cs.drop (k + 1)) % c) = List.replicate k 0 ++ valsL (cs.drop k) i0 by
        rw [valsL_drop hck, List.replicate_succ', List.append_assoc, List.set_append_right _ _ (by simp)]
        simp] at this
      exact this
    · rw [drop_of_get hck, prodL_cons, Int.mul_comm c, Int.ediv_ediv_of_nonneg (by omega)]

theorem values05_spec (g : Int) (ns : List NodeP) (h8 : ns.length ≤ 8) (hc : ∀ y ∈ ns, 1 ≤ y.card ∧ y.card ≤ 4) (i0 : Int) (hi : 0 ≤ i0 ∧ i0 ≤ 4611686018427387904) (H : AHeap) (K : ARes → AHeap → Prop) (hK : K (.ret (vecI (valsL (cardsL ns) i0))) H) : ACall Tryd.prog G0 27 [netV g ns, lin i0] H K := by
  refine ACall.clo ⟨_, Tryd.func27, rfl, rfl⟩ fun hcl => ?_
  have hcards : ∀ c ∈ cardsL ns, 1 ≤ c ∧ c ≤ 4 := fun c h => by
    obtain ⟨x, hx, rfl⟩ := List.mem_map.1 h
    exact hc x hx
  have sm : SmallC (cardsL ns) := smallC_of (by rw [cards_len]; omega) hcards
  refine ACall.of_body (n := 9) (rs := [.tmp 4]) Tryd.func27 rfl rfl rfl (by decide) (by kernel_rfl) (by simp) ?_
  simp (config := { maxSteps := 1000000 }) only [go_sem, netV, nodesV, appendA_U]
  refine AApply.clo (cards05_spec g ns (by omega) _ _ ⟨trivial, ?_⟩)
  simp (config := { maxSteps := 1000000 }) only [go_sem, appendA_U]
  refine AApply.clo (values02_spec (cardsL ns) (fun c h => (hcards c h).1) sm i0 hi _ _ ⟨trivial, ?_⟩)
  simp (config := { maxSteps := 1000000 }) only [go_sem, appendA_U]
  exact FinV.drop G0_ok hcl (.keepInts _) hK
theorem worlds05_spec (g : Int) (ns : List NodeP) (h8 : ns.length ≤ 8) (hc : ∀ y ∈ ns, 1 ≤ y.card ∧ y.card ≤ 4) (H : AHeap) (K : ARes → AHeap → Prop) (hK : K (.ret (lin (prodL (cardsL ns)))) H) : ACall Tryd.prog G0 28 [netV g ns] H K := by
  refine ACall.clo ⟨_, Tryd.func28, rfl, rfl⟩ fun hcl => ?_
  have hcards : ∀ c ∈ cardsL ns, 1 ≤ c ∧ c ≤ 4 := fun c h => by
    obtain ⟨x, hx, rfl⟩ := List.mem_map.1 h
    exact hc x hx
  have sm : SmallC (cardsL ns) := smallC_of (by rw [cards_len]; omega) hcards
  refine ACall.of_body (n := 6) (rs := [.tmp 2]) Tryd.func28 rfl rfl rfl (by decide) (by kernel_rfl) (by simp) ?_
  simp (config := { maxSteps := 1000000 }) only [go_sem, netV, nodesV, appendA_U]
  refine AApply.clo (cards05_spec g ns (by omega) _ _ ⟨trivial, ?_⟩)
  simp (config := { maxSteps := 1000000 }) only [go_sem, appendA_U]
  refine AApply.clo (size02_spec (cardsL ns) sm _ _ ⟨trivial, ?_⟩)
  simp (config := { maxSteps := 1000000 }) only [go_sem, appendA_U]
  exact FinV.drop G0_ok hcl (.lit _) hK
set_option maxHeartbeats 1000000 in
theorem row05_spec (g : Int) (ns : List NodeP) (h : NetOk g ns) (vals : List Int) (hf : FitsC (cardsL ns) vals) (v : Nat) (x : NodeP) (hx : ns[v]? = some x) (H : AHeap) (K : ARes → AHeap → Prop) (hK : K (.ret (vecI (rowV ns x vals))) H) : ACall Tryd.prog G0 73 [netV g ns, lin v, vecI vals] H K := by
  refine ACall.clo ⟨_, Tryd.func73, rfl, rfl⟩ fun hcl => ?_
  have n8 := h.n1
  have hxm := List.mem_of_getElem? hx
  have hin : InRange x.parents ns.length := fun q hq => by have := (h.node x hxm).2.2 q hq; omega
  have sm := parC_small n8.2 (h.node x hxm).2 fun y hy => (h.node y hy).1
  have pl : (parC ns x).length = x.parents.length := atL_len _ _
  have p12 := sm.1
  have hfp := fits_par hin hf
  obtain ⟨i, r, a, w, hR⟩ := row_at h hx hf
  have hne := nodesC_ne hx
  have e1 := nodesC_1 hx
  have e2 := nodesC_2 hx
  have hv : (v : Int) < ns.length := by have := get_lt hx; omega
  have hvl : vals.length = ns.length := by rw [hf.1, cards_len]
  have hri := hR.row
  have hrne := ne_of_get hri
  have hrl : (i : Int) < x.rows.length := by have := get_lt hri; omega
  have hidx := hR.idx
  rw [hR.rv] at hK
  have hin' : ∀ q ∈ x.parents, 0 ≤ q ∧ q < (vals.length : Int) := fun q hq => by rw [hvl]; exact hin q hq
  refine ACall.of_body (n := 27) (rs := [.tmp 6]) Tryd.func73 rfl rfl rfl (by decide) (by kernel_rfl) (by simp) ?_
  simp (config := { maxSteps := 1000000 }) only [go_sem, netV, nodesV, appendA_U]
  refine W.draw 18 [0, 1, 0, 7, 15, 31, 0, 0, 192, 0, 0, 1024, 0, 7168, 15360, 31744, 65472, 131008] Tryd.mixed (by kernel_rfl) (by kernel_rfl) ?_
  simp (config := { maxSteps := 1000000 }) only [go_sem, hv, hne, e1, e2, appendA_U]
  refine ⟨vecI (parC ns x), [], PCall.pure (fun H2 => parentCards_spec g ns v x hx (by omega) (by omega) hin H2 _ ⟨rfl, rfl⟩), ?_⟩
  simp (config := { maxSteps := 1000000 }) only [go_sem, hv, hne, e1, e2, appendA_U]
  refine ⟨vecI (atL vals x.parents), [], PCall.pure (fun H2 => at02_spec vals x.parents (by omega) (by omega) hin' H2 _ ⟨rfl, rfl⟩), ?_⟩
  simp (config := { maxSteps := 1000000 }) only [go_sem, hv, hne, e1, e2, appendA_U]
  refine ⟨lin i, [], PCall.pure (fun H2 => index02_spec (parC ns x) (atL vals x.parents) sm hfp H2 _ ⟨by rw [hidx], rfl⟩), ?_⟩
  simp (config := { maxSteps := 1000000 }) only [go_sem, hv, hne, e1, e2, hrl, vecV, hri, hrne, appendA_U]
  exact FinV.drop G0_ok hcl (.keepInts _) hK
end Go.Proofs
namespace Go.Proofs.R01
open Go.Hx
section
variable {P : Program} {t : TypeId} {x y : Operand} {k k' : IntKind} {a b : Int}
theorem pureRun_bind {α β : Type} {s : Sem α} {f : α → Sem β} {a : α} (h : pureRun P s = some a) : pureRun P (s >>= f) = pureRun P (f a) := by
  induction s with
  | pure b => simp only [pureRun, Option.some.injEq] at h; subst h; rfl
  | program k ih => exact ih P h
  | mark m k ih => exact ih h
  | _ => simp [pureRun] at h
end
section
variable {P : Program} {G : Nat → Option (List AVal)}
end
end Go.Proofs.R01
namespace Go.Proofs.R01
open Go.Hx
def val : List Int → Nat
  | [] => 0
  | a :: l => a.toNat + 10000 * val l
end Go.Proofs.R01
namespace Go.Proofs.R01
open Go.Hx
theorem over_app {H H' H2 : AHeap} {v : AVal} {cs : List AVal} {e : TypeId} (ov : Over H H') (h : OwnG H.next H' e v cs) (hn : H'.next ≤ H2.next) (hp : ∀ k, k < H'.next → (∀ g n, v ≠ .own k g 0 n 1) → H2.get k = H'.get k) : Over H H2 :=
  ⟨by have := ov.next; omega, fun id hid => by
    rw [hp id (by have := ov.next; omega) fun g n he => ?_, ov.old id hid]
    rcases h with ⟨h, _⟩ | ⟨i2, g2, a1, _, h, _⟩
    · rw [h] at he; cases he
    · rw [h] at he; have := AVal.own.inj he; omega⟩
end Go.Proofs.R01
namespace Go.Proofs.R01
open Go.Hx
end Go.Proofs.R01
namespace Go.Proofs.R01
open Go.Hx
theorem setAt_ints {l : List Int} {k : Nat} (v : Int) (h : k < l.length) : setAt (ints l) k [.lit (.int .i64 v)] = ints (l.set k v) := by
  unfold setAt ints
  rw [List.map_set, List.set_eq_take_append_cons_drop, if_pos (by simpa using h)]
  simp [lin]
end Go.Proofs.R01
namespace Go.Proofs.R01
open Go.Hx
end Go.Proofs.R01
namespace Go.Proofs.R01
open Go.Hx
end Go.Proofs.R01
namespace Go.Proofs.R01
open Go.Hx
end Go.Proofs.R01
namespace Go.Proofs.R01
open Go.Hx
end Go.Proofs.R01
namespace Go.Hx
variable {P : Program} {H H' : AHeap}
theorem app_srcG {t e : TypeId} {lo n m : Nat} {v x : AVal} {cs src : List AVal} {z : List AVal} (ht : P.underlying t = some (.slice e)) (hz : P.cellsOf e = 1) (hzero : zeroA P e = some z) (hsrc : sourceA H 1 x = some (m, src)) (hm : src.length = m) (hx : src.all AVal.one = true)
    (hb : (cs.length + m) * P.bytesOf e ≤ 2 ^ 46 ∧ cs.length + m ≤ 2 ^ 46) (ho : OwnG lo H e v cs) (hlo : lo ≤ H.next) (hn : n = H.next) :
    ∃ v' H', appendA P H n t t v x = some (v', H') ∧ OwnG lo H' e v' (cs ++ src) ∧ H.next ≤ H'.next ∧ (∀ k, k < H.next → (∀ g n, v ≠ .own k g 0 n 1) → H'.get k = H.get k) := by
  subst hm
  obtain ⟨v', H', hA, h2⟩ := app_vecG (H := H) (n := n) ht hz hzero hx hb ho hlo hn
  refine ⟨v', H', ?_, h2⟩
  rw [← hA]
  have e2 : sourceA H 1 (.vec src.length src) = some (src.length, src) := by unfold sourceA; simp
  unfold appendA
  rw [ht]
  simp only [hz, hsrc, e2]
end Go.Hx
namespace Go.Proofs
open Go.Hx
def U8 (n : Int) : Prop := 0 ≤ n ∧ n < 256
theorem cardsD_spec (n : Nat) (hn : n ≤ 5) (ord : List Int) (H : AHeap) (K : ARes → AHeap → Prop) (hK : K (.ret (vecI (List.replicate n 1))) H) :
    ACall Tryd.prog G0 85 [.agg [.vec n (bytesL (List.replicate n 0)), (.lit (.int .u16 0)), .vec ord.length (bytesL ord)]] H K := by
  refine ACall.clo ⟨_, Tryd.func85, rfl, rfl⟩ fun hcl => ?_
  refine ACall.of_body (n := 28) (rs := [.tmp 2]) Tryd.func85 rfl rfl rfl (by decide) (by kernel_rfl) (by simp) ?_
  simp (config := { maxSteps := 1000000 }) only [go_sem, appendA_U]
  obtain ⟨H1, hH1⟩ : ∃ H1, H1 = ext H [.arr 0 128 [.vec n (bytesL (List.replicate n 0)), .lit (.int .u16 0), .vec ord.length (bytesL ord)]] := ⟨_, rfl⟩
  have l1 := get_live (show H1.get H.next = some (.arr 0 128 [.vec n (bytesL (List.replicate n 0)), .lit (.int .u16 0), .vec ord.length (bytesL ord)]) by rw [hH1]; exact get_ext0 ..)
  have n1 : H1.next = H.next + 1 := by rw [hH1]; rfl
  have o1 : Over H H1 := by rw [hH1]; exact .ext _ _
  rw [← hH1]
  refine W.loop0 134217720 (by rfl) (fun ρ H' => ∃ k : Nat, ρ 4 = lin k ∧ k ≤ n ∧ Over H1 H' ∧ OwnG H1.next H' 3 (ρ 3) (ints (List.replicate k 1))) (fun ρ H => n - (iv (ρ 4)).toNat) ?_ ?_
  · simp (config := { maxSteps := 1000000 }) only [go_sem, appendA_U]
    exact ⟨0, rfl, by omega, .refl _, .nil⟩
  rintro ρ H' ⟨k, h4, hk, ov, h3⟩
  refine W.env fun E hE => ?_
  have e1 : E 1 = .ptr H.next 0 0 := by rw [hE]; simp (config := { maxSteps := 1000000 }) only [go_sem, appendA_U]
  have e3 : E 3 = ρ 3 := by rw [hE]; simp (config := { maxSteps := 1000000 }) only [go_sem, appendA_U]
  have e4 : E 4 = lin k := by rw [hE]; simp (config := { maxSteps := 1000000 }) only [go_sem, h4, appendA_U]
  clear hE
  refine vc_sound _ _ _ (by rfl) ?_
  have l2 := (ov.live (g := 0) (by omega : H.next < H1.next)).trans l1
  by_cases hb : (k : Int) < n
  · have h5 : (k : Int) < 5 := by omega
    have hg : (bytesL (List.replicate n 0))[k]? = some (.lit (.int .u8 0)) := bytesL_get (by rw [List.getElem?_replicate, if_pos (by omega)])
    have hne := ne_of_get hg
    obtain ⟨v', H2, hA, ov2, hO, hn2, _⟩ := app_int 1 ov h3 (by simp; omega)
    have w1 := IntWalk.i64_in ((k : Int) + 1) (by omega)
    have hk0 : (k : Int) ≥ 0 := by omega
    have w5 : IntKind.i64.wrap (1 + IntKind.i64.wrap (Int.tmod 0 4)) = 1 := by decide
    simp (config := { maxSteps := 1000000 }) only [go_sem, e1, e3, e4, l2, hb, h5, hk0, hg, hne, w1, w5, hA]
    refine ⟨by have := ov2.next; omega, ⟨k + 1, rfl, by omega, ov2, ?_⟩, by rw [h4]; simp only [lin, iv_int]; omega⟩
    rw [List.replicate_succ']
    exact hO
  · simp (config := { maxSteps := 1000000 }) only [go_sem, e1, e3, e4, l2, hb, guardA_undef, appendA_U]
    obtain rfl : k = n := by omega
    exact FinV.dropO G0_ok hcl (o1.trans ov) (h3.fzI fun i hi => by omega) hK

structure IsPerm (n : Nat) (p : List Int) : Prop where
  len : p.length = n
  nd : p.Nodup
  rng : ∀ x ∈ p, 0 ≤ x ∧ x < n
theorem isPerm_ins {n : Nat} {p : List Int} (h : IsPerm n p) (at' : Nat) (ha : at' ≤ n) : IsPerm (n + 1) (p.take at' ++ (n : Int) :: p.drop at') := by
  have hperm : (p.take at' ++ (n : Int) :: p.drop at').Perm ((n : Int) :: p) := by
    have := List.perm_middle (a := (n : Int)) (l₁ := p.take at') (l₂ := p.drop at')
    rwa [List.take_append_drop] at this
  refine ⟨by rw [hperm.length_eq]; simp [h.len], (hperm.nodup_iff).2 (List.nodup_cons.2 ⟨fun hm => ?_, h.nd⟩), fun x hx => ?_⟩
  · have := h.rng _ hm; omega
  · rcases List.mem_cons.1 (hperm.mem_iff.1 hx) with rfl | h2
    · omega
    · have := h.rng x h2; omega

def permAt (ord : List Int) (k : Nat) : Nat := if k < ord.length then (ord.getD k 0 % ((k : Int) + 1)).toNat else 0
def permF (ord : List Int) : Nat → List Int
  | 0 => []
  | k + 1 => (permF ord k).take (permAt ord k) ++ (k : Int) :: (permF ord k).drop (permAt ord k)
theorem permAt_le (ord : List Int) (k : Nat) : permAt ord k ≤ k := by
  unfold permAt
  split
  · have := Int.emod_lt_of_pos (ord.getD k 0) (show 0 < (k : Int) + 1 by omega)
    omega
  · omega
theorem permF_ok (ord : List Int) : ∀ n : Nat, IsPerm n (permF ord n)
  | 0 => ⟨rfl, by simp [permF], by simp [permF]⟩
  | n + 1 => isPerm_ins (permF_ok ord n) _ (permAt_le ord n)
set_option maxHeartbeats 1000000 in
theorem perm_spec (n : Nat) (hn : n ≤ 5) (ord : List Int) (hol : (ord.length : Int) < 2 ^ 63) (ho8 : ∀ x ∈ ord, U8 x) (H : AHeap) (K : ARes → AHeap → Prop) (hK : ∀ v H', Over H H' → OwnG H.next H' 3 v (ints (permF ord n)) → K (.ret v) H') :
    ACall Tryd.prog G0 61 [.agg [.vec n (bytesL (List.replicate n 0)), .lit (.int .u16 0), .vec ord.length (bytesL ord)]] H K := by
  refine ACall.clo ⟨_, Tryd.func61, rfl, rfl⟩ fun hcl => ?_
  refine ACall.of_body (n := 42) (rs := [.tmp 2]) Tryd.func61 rfl rfl rfl (by decide) (by kernel_rfl) (by simp) ?_
  simp (config := { maxSteps := 1000000 }) only [go_sem, appendA_U]
  obtain ⟨H1, hH1⟩ : ∃ H1, H1 = ext H [.arr 0 128 [.vec n (bytesL (List.replicate n 0)), .lit (.int .u16 0), .vec ord.length (bytesL ord)]] := ⟨_, rfl⟩
  have l1 := get_live (show H1.get H.next = some (.arr 0 128 [.vec n (bytesL (List.replicate n 0)), .lit (.int .u16 0), .vec ord.length (bytesL ord)]) by rw [hH1]; exact get_ext0 ..)
  have n1 : H1.next = H.next + 1 := by rw [hH1]; rfl
  have o1 : Over H H1 := by rw [hH1]; exact .ext _ _
  rw [← hH1]
  refine W.loop0 2199023255544 (by rfl) (fun ρ H' => ∃ (k : Nat) (p : List Int), ρ 4 = lin k ∧ k ≤ n ∧ p = permF ord k ∧ Over H1 H' ∧ OwnG H1.next H' 3 (ρ 3) (ints p)) (fun ρ H => n - (iv (ρ 4)).toNat) ?_ ?_
  · simp (config := { maxSteps := 1000000 }) only [go_sem, appendA_U]
    exact ⟨0, [], rfl, by omega, rfl, .refl _, .nil⟩
  rintro ρ H' ⟨k, p, h4, hk, hpe, ov, h3⟩
  have hp : IsPerm k p := by rw [hpe]; exact permF_ok ord k
  refine W.env fun E hE => ?_
  have e1 : E 1 = .ptr H.next 0 0 := by rw [hE]; simp (config := { maxSteps := 1000000 }) only [go_sem, appendA_U]
  have e3 : E 3 = ρ 3 := by rw [hE]; simp (config := { maxSteps := 1000000 }) only [go_sem, appendA_U]
  have e4 : E 4 = lin k := by rw [hE]; simp (config := { maxSteps := 1000000 }) only [go_sem, h4, appendA_U]
  clear hE
  refine vc_sound _ _ _ (by rfl) ?_
  have l2 := (ov.live (g := 0) (by omega : H.next < H1.next)).trans l1
  simp (config := { maxSteps := 1000000 }) only [go_sem, e1, l2, appendA_U]
  refine AApply.clo (cardsD_spec n hn ord _ _ ⟨trivial, ?_⟩)
  by_cases hb : (k : Int) < n
  rotate_left
  · simp (config := { maxSteps := 1000000 }) only [go_sem, List.length_replicate, e1, e3, e4, l2, hb, appendA_U]
    obtain rfl : k = n := by omega
    exact FinV.mk (o1.trans ov).next (hK _ _ (o1.trans ov) (by rw [← hpe]; exact h3.keep (by omega) (Nat.le_refl _) fun _ _ _ _ _ _ => rfl))
  -- the place
  rcases h3 with ⟨h3n, hpn⟩ | ⟨oi, og, hoi1, hoi2, h3o, hog⟩
  · have p0 : p = [] := by cases p with
      | nil => rfl
      | cons a l => simp [ints] at hpn
    have pl := hp.len
    rw [p0] at pl
    obtain rfl : k = 0 := by simpa using pl.symm
    rw [h3n] at e3
    have e4' : E 4 = lin 0 := e4
    have hb' : (0 : Int) < n := hb
    by_cases ho : (0 : Int) < ord.length
    · obtain ⟨b, hbg⟩ := get_of_lt (l := ord) (i := 0) (by omega)
      have b8 := ho8 b (List.mem_of_getElem? hbg)
      have hbg' := bytesL_get hbg
      have hbne := ne_of_get hbg'
      have w2 : IntKind.i64.wrap b = b := IntWalk.i64_in b (by have := b8.1; have := b8.2; omega)
      have w1 : IntKind.i64.wrap 1 = 1 := by decide
      have m1 : b.tmod 1 = 0 := by simp
      obtain ⟨v2, Hb, hA2, ovB, hO2, hn2, hp2⟩ := app_int (H := H') (H' := H') (l := []) (v := .lit (.slice none 0 0)) (0 : Int) (.refl _) OwnG.nil (by simp)
      obtain ⟨v3, Hc, hA3, hO3, hn3, hp3⟩ := app_srcG (P := Tryd.prog) (H := Hb) (t := 22) (n := Hb.next) (m := 0) (v := v2) (x := .lit (.slice none 0 0)) (src := []) Tryd.underlying22 Tryd.cells3 Tryd.zero3 rfl rfl rfl (by rw [Tryd.bytes3]; exact ⟨by decide, by decide⟩) hO2 ovB.next rfl
      have ovC : Over H' Hc := over_app ovB hO2 hn3 hp3
      have hA1 : appendA Tryd.prog H' H'.next 22 22 (.lit (.slice none 0 0)) (.lit (.slice none 0 0)) = some (.lit (.slice none 0 0), H') := by
        unfold appendA; rw [Tryd.underlying22]
        simp only [Tryd.zero3, Tryd.cells3, Option.bind_some, sourceA_nil, if_true]
      have hO3' : OwnG H1.next Hc 3 v3 (ints [0]) := by
        rw [List.append_nil] at hO3
        exact hO3.keep ov.next (Nat.le_refl _) fun _ _ _ _ _ _ => rfl
      simp (config := { maxSteps := 1000000 }) only [go_sem, List.length_replicate, e1, e3, e4', l2, hb', ho, hbg', hbne, w1, w2, m1, hA1, hA2, hA3]
      refine ⟨by have := ovC.next; have := ov.next; omega, ⟨1, [0], rfl, by omega, by simp [permF], ov.trans ovC, hO3'⟩, by rw [h4]; simp only [lin, iv_int]; omega⟩
    · have w1 : IntKind.i64.wrap 1 = 1 := by decide
      obtain ⟨v2, Hb, hA2, ovB, hO2, hn2, hp2⟩ := app_int (H := H') (H' := H') (l := []) (v := .lit (.slice none 0 0)) (0 : Int) (.refl _) OwnG.nil (by simp)
      obtain ⟨v3, Hc, hA3, hO3, hn3, hp3⟩ := app_srcG (P := Tryd.prog) (H := Hb) (t := 22) (n := Hb.next) (m := 0) (v := v2) (x := .lit (.slice none 0 0)) (src := []) Tryd.underlying22 Tryd.cells3 Tryd.zero3 rfl rfl rfl (by rw [Tryd.bytes3]; exact ⟨by decide, by decide⟩) hO2 ovB.next rfl
      have ovC : Over H' Hc := over_app ovB hO2 hn3 hp3
      have hA1 : appendA Tryd.prog H' H'.next 22 22 (.lit (.slice none 0 0)) (.lit (.slice none 0 0)) = some (.lit (.slice none 0 0), H') := by
        unfold appendA; rw [Tryd.underlying22]
        simp only [Tryd.zero3, Tryd.cells3, Option.bind_some, sourceA_nil, if_true]
      have hO3' : OwnG H1.next Hc 3 v3 (ints [0]) := by
        rw [List.append_nil] at hO3
        exact hO3.keep ov.next (Nat.le_refl _) fun _ _ _ _ _ _ => rfl
      simp (config := { maxSteps := 1000000 }) only [go_sem, List.length_replicate, e1, e3, e4', l2, hb', ho, w1, hA1, hA2, hA3]
      refine ⟨by have := ovC.next; have := ov.next; omega, ⟨1, [0], rfl, by omega, by simp [permF], ov.trans ovC, hO3'⟩, by rw [h4]; simp only [lin, iv_int]; omega⟩
  rw [h3o] at e3
  have lo := get_live hog
  by_cases ho : (k : Int) < ord.length
  · obtain ⟨b, hbg⟩ := get_of_lt (l := ord) (i := k) (by omega)
    have b8 := ho8 b (List.mem_of_getElem? hbg)
    have hbg' := bytesL_get hbg
    have hbne := ne_of_get hbg'
    have w0 := IntWalk.i64_in ((k : Int) + 1) (by omega)
    have w1 := w0
    have w2 : IntKind.i64.wrap b = b := IntWalk.i64_in b (by have := b8.1; have := b8.2; omega)
    have m1 : b.tmod ((k : Int) + 1) = b % ((k : Int) + 1) := Int.tmod_eq_emod_of_nonneg b8.1
    have m2 := Int.emod_nonneg b (show (k : Int) + 1 ≠ 0 by omega)
    have m3 := Int.emod_lt_of_pos b (show 0 < (k : Int) + 1 by omega)
    have hz : ¬ (k : Int) + 1 = 0 := by omega
    obtain ⟨a, hat⟩ := Int.eq_ofNat_of_zero_le m2
    have ha : a ≤ k := by omega
    have hac : (0 : Int) ≤ (a : Int) := by omega
    have hap : (a : Int) ≤ (p.length : Int) := by rw [hp.len]; omega
    have hak : (0 : Int) ≤ (a : Int) ∧ (a : Int) ≤ (p.length : Int) := ⟨hac, hap⟩
    have pl : p.length = k := hp.len
    obtain ⟨v1, Ha, hA1, hO1, hn1, hp1⟩ := app_srcG (P := Tryd.prog) (H := H') (t := 22) (n := H'.next) (m := a) (v := .lit (.slice none 0 0)) (x := .own oi og 0 a 1) (src := (ints p).take a) Tryd.underlying22 Tryd.cells3 Tryd.zero3
      (by rw [sourceA_own, if_pos rfl, lo]; simp) (by simp [ints_length] <;> omega) (List.all_eq_true.2 fun c hc => by
        obtain ⟨z, _, rfl⟩ := List.mem_map.1 (List.mem_of_mem_take hc); rfl) (by rw [Tryd.bytes3]; simp <;> omega) OwnG.nil (Nat.le_refl _) rfl
    have ovA : Over H' Ha := ⟨hn1, fun id hi => hp1 id hi fun g n h => by cases h⟩
    rw [List.nil_append, ints_take] at hO1
    obtain ⟨v2, Hb, hA2, ovB, hO2, hn2, hp2⟩ := app_int (k : Int) ovA hO1 (by simp <;> omega)
    have hcl2 : (ints (p.take a ++ [(k : Int)])).length ≤ k + 1 := by rw [ints_length, List.length_append, List.length_take]; simp <;> omega
    have hlb : Hb.live oi og = some (3, ints p) := (ovB.live hoi2).trans lo
    obtain ⟨v3, Hc, hA3, hO3, hn3, hp3⟩ := app_srcG (P := Tryd.prog) (H := Hb) (t := 22) (n := Hb.next) (m := p.length - a) (v := v2) (x := .own oi og a (p.length - a) 1) (src := (ints p).drop a) Tryd.underlying22 Tryd.cells3 Tryd.zero3
      (by rw [sourceA_own, if_pos rfl, hlb]; simp [List.take_of_length_le, ints_length]) (by simp [ints_length]) (List.all_eq_true.2 fun c hc => by
        obtain ⟨z, _, rfl⟩ := List.mem_map.1 (List.mem_of_mem_drop hc); rfl) (by rw [Tryd.bytes3]; omega) hO2 ovB.next rfl
    have ovC : Over H' Hc := over_app ovB hO2 hn3 hp3
    have hla : Ha.live oi og = some (3, ints p) := (ovA.live hoi2).trans lo
    rw [ints_drop] at hO3
    have hO3' : OwnG H1.next Hc 3 v3 (ints (p.take a ++ (k : Int) :: p.drop a)) := by
      have : ints (p.take a ++ [(k : Int)]) ++ ints (p.drop a) = ints (p.take a ++ (k : Int) :: p.drop a) := by simp [ints]
      rw [this] at hO3
      exact hO3.keep ov.next (Nat.le_refl _) fun _ _ _ _ _ _ => rfl
    simp (config := { maxSteps := 1000000 }) only [go_sem, List.length_replicate, e1, e3, e4, l2, hb, ho, hbg', hbne, w0, w1, w2, m1, hz, hat, hac, hap, hak, Int.toNat_natCast, lo, hlb, hA1, hA2, hA3]
    refine ⟨by have := ovC.next; omega, ⟨k + 1, _, rfl, by omega, by rw [permF, ← hpe, show permAt ord k = a by unfold permAt; rw [if_pos (by omega), getD_of_get hbg, hat]; rfl], ov.trans ovC, hO3'⟩, by rw [h4]; simp only [lin, iv_int]; omega⟩
  · have w0 := IntWalk.i64_in ((k : Int) + 1) (by omega)
    have pl : p.length = k := hp.len
    obtain ⟨v1, Ha, hA1, hO1, hn1, hp1⟩ := app_srcG (P := Tryd.prog) (H := H') (t := 22) (n := H'.next) (m := 0) (v := .lit (.slice none 0 0)) (x := .own oi og 0 0 1) (src := (ints p).take 0) Tryd.underlying22 Tryd.cells3 Tryd.zero3
      (by rw [sourceA_own, if_pos rfl, lo]; simp) (by simp [ints_length] <;> omega) (List.all_eq_true.2 fun c hc => by
        obtain ⟨z, _, rfl⟩ := List.mem_map.1 (List.mem_of_mem_take hc); rfl) (by rw [Tryd.bytes3]; simp <;> omega) OwnG.nil (Nat.le_refl _) rfl
    have ovA : Over H' Ha := ⟨hn1, fun id hi => hp1 id hi fun g n h => by cases h⟩
    rw [List.nil_append, ints_take] at hO1
    obtain ⟨v2, Hb, hA2, ovB, hO2, hn2, hp2⟩ := app_int (k : Int) ovA hO1 (by simp <;> omega)
    have hcl2 : (ints (p.take 0 ++ [(k : Int)])).length ≤ k + 1 := by rw [ints_length, List.length_append, List.length_take]; simp <;> omega
    have hlb : Hb.live oi og = some (3, ints p) := (ovB.live hoi2).trans lo
    obtain ⟨v3, Hc, hA3, hO3, hn3, hp3⟩ := app_srcG (P := Tryd.prog) (H := Hb) (t := 22) (n := Hb.next) (m := p.length) (v := v2) (x := .own oi og 0 (p.length) 1) (src := (ints p).drop 0) Tryd.underlying22 Tryd.cells3 Tryd.zero3
      (by rw [sourceA_own, if_pos rfl, hlb]; simp [List.take_of_length_le, ints_length]) (by simp [ints_length]) (List.all_eq_true.2 fun c hc => by
        obtain ⟨z, _, rfl⟩ := List.mem_map.1 (List.mem_of_mem_drop hc); rfl) (by rw [Tryd.bytes3]; omega) hO2 ovB.next rfl
    have ovC : Over H' Hc := over_app ovB hO2 hn3 hp3
    have hla : Ha.live oi og = some (3, ints p) := (ovA.live hoi2).trans lo
    rw [ints_drop] at hO3
    have hO3' : OwnG H1.next Hc 3 v3 (ints (p.take 0 ++ (k : Int) :: p.drop 0)) := by
      have : ints (p.take 0 ++ [(k : Int)]) ++ ints (p.drop 0) = ints (p.take 0 ++ (k : Int) :: p.drop 0) := by simp [ints]
      rw [this] at hO3
      exact hO3.keep ov.next (Nat.le_refl _) fun _ _ _ _ _ _ => rfl
    simp (config := { maxSteps := 1000000 }) only [go_sem, List.length_replicate, e1, e3, e4, l2, hb, ho, w0, lo, hlb, hA1, hA2, hA3]
    refine ⟨by have := ovC.next; omega, ⟨k + 1, _, rfl, by omega, by rw [permF, ← hpe, show permAt ord k = 0 by unfold permAt; rw [if_neg (by omega)]], ov.trans ovC, hO3'⟩, by rw [h4]; simp only [lin, iv_int]; omega⟩
theorem sum_nonneg {l : List Int} (h : ∀ x ∈ l, 0 ≤ x) : 0 ≤ l.sum := by
  induction l with
  | nil => simp
  | cons a l ih =>
    rw [List.sum_cons]
    have := h a (by simp)
    have := ih fun x hx => h x (by simp [hx])
    omega
theorem sum_set {l : List Int} {i : Nat} {a b : Int} (h : l[i]? = some a) : (l.set i b).sum = l.sum - a + b := by
  induction l generalizing i with
  | nil => simp at h
  | cons x l ih =>
    cases i with
    | zero => simp at h; subst h; simp only [List.set_cons_zero, List.sum_cons]; omega
    | succ i =>
      simp only [List.set_cons_succ, List.sum_cons]
      rw [ih (by simpa using h)]; omega
theorem sum_bound {l : List Int} {b : Int} (h : ∀ x ∈ l, 0 ≤ x ∧ x ≤ b) : l.sum ≤ b * l.length := by
  induction l with
  | nil => simp
  | cons a l ih =>
    rw [List.sum_cons, List.length_cons]
    have := (h a (by simp)).2
    have := ih fun x hx => h x (by simp [hx])
    rw [show b * ((l.length + 1 : Nat) : Int) = b * l.length + b by rw [Int.natCast_add, Int.mul_add]; simp]
    omega

def wF (n : Nat) (bs : List Int) (from' : Int) : List Int := (List.range n).map fun (k : Nat) => if bs.length = 0 then 0 else bs.getD ((from' + (k : Int)) % (bs.length : Int)).toNat 0 % 8
theorem wF_len (n : Nat) (bs : List Int) (from' : Int) : (wF n bs from').length = n := by simp [wF]
theorem wF_get {n : Nat} (bs : List Int) (from' : Int) {k : Nat} (h : k < n) : (wF n bs from')[k]? = some (if bs.length = 0 then 0 else bs.getD ((from' + (k : Int)) % (bs.length : Int)).toNat 0 % 8) := by
  unfold wF; rw [List.getElem?_map, List.getElem?_range h]; rfl
theorem wF_rng (n : Nat) (bs : List Int) (from' : Int) : ∀ x ∈ wF n bs from', 0 ≤ x ∧ x ≤ 7 := fun x hx => by
  unfold wF at hx
  obtain ⟨k, _, rfl⟩ := List.mem_map.1 hx
  split <;> omega
def rstep (g s : Int) (st : List Int × Nat) (m : Nat) : List Int × Nat := if 0 < st.1.getD m 0 then (st.1.set m (g * st.1.getD m 0 / s), m) else st
def rfold (g : Int) (c : List Int) (m : Nat) : List Int × Nat := (List.range m).foldl (rstep g c.sum) (c, 0)
theorem rfold_succ (g : Int) (c : List Int) (m : Nat) : rfold g c (m + 1) = rstep g c.sum (rfold g c m) m := by unfold rfold; rw [List.range_succ, List.foldl_append]; rfl
def rowF (g : Int) (n : Nat) (bs : List Int) (from' : Int) : List Int := (rfold g (wF n bs from') n).1.set (rfold g (wF n bs from') n).2 ((rfold g (wF n bs from') n).1.getD (rfold g (wF n bs from') n).2 0 + (g - (rfold g (wF n bs from') n).1.sum))
structure RInv (g : Int) (c : List Int) (m : Nat) (d : List Int) (last : Nat) : Prop where
  dl : d.length = c.length
  d0 : ∀ x ∈ d, 0 ≤ x
  dd : d.drop m = c.drop m
  dg : (d.take m).sum ≤ g
  ds : c.sum * (d.take m).sum ≤ g * (c.take m).sum
  la : last < c.length
theorem rinv {g : Int} {c : List Int} (hg : 1 ≤ g) (hc : ∀ x ∈ c, 0 ≤ x) (hl : 0 < c.length) : ∀ m, m ≤ c.length → RInv g c m (rfold g c m).1 (rfold g c m).2 := by
  intro m
  induction m with
  | zero => intro _; exact ⟨rfl, hc, rfl, by simp; omega, by simp, hl⟩
  | succ m ih =>
    intro hm
    obtain ⟨hdl, hd0, hdd, hdg, hds, hla⟩ := ih (by omega)
    rw [rfold_succ]
    generalize rfold g c m = st at *
    obtain ⟨d, last⟩ := st
    simp only at hdl hd0 hdd hdg hds hla
    obtain ⟨x, hcx⟩ := get_of_lt (l := c) (i := m) (by omega)
    have hx0 := hc x (List.mem_of_getElem? hcx)
    have hdx : d[m]? = some x := by
      have h1 : (d.drop m)[0]? = d[m]? := by rw [List.getElem?_drop]; rfl
      have h2 : (c.drop m)[0]? = c[m]? := by rw [List.getElem?_drop]; rfl
      rw [← h1, hdd, h2, hcx]
    have hdd' : d.drop (m + 1) = c.drop (m + 1) := by
      have := congrArg (List.drop 1) hdd
      rwa [List.drop_drop, List.drop_drop] at this
    have hct : (c.take (m + 1)).sum = (c.take m).sum + x := by rw [take_succ_get hcx]; simp
    have hcs : (c.take (m + 1)).sum + (c.drop (m + 1)).sum = c.sum := by rw [← List.sum_append, List.take_append_drop]
    have hcd0 := sum_nonneg (l := c.drop (m + 1)) fun y hy => hc y (List.mem_of_mem_drop hy)
    have hc00 := sum_nonneg (l := c.take m) fun y hy => hc y (List.mem_of_mem_take hy)
    have hd00 := sum_nonneg (l := d.take m) fun y hy => hd0 y (List.mem_of_mem_take hy)
    unfold rstep
    rw [getD_of_get hdx]
    by_cases hx : 0 < x
    · rw [if_pos hx]
      have gx : 0 ≤ g * x := Int.mul_nonneg (by omega) hx0
      have y0 : 0 ≤ g * x / c.sum := Int.ediv_nonneg gx (by omega)
      have y2 : c.sum * (g * x / c.sum) ≤ g * x := Int.mul_ediv_self_le (by omega)
      have dt : ((d.set m (g * x / c.sum)).take (m + 1)).sum = (d.take m).sum + g * x / c.sum := by
        rw [take_succ_get (List.getElem?_set_self (by omega)), List.take_set_of_le (Nat.le_refl _)]; simp
      have hs2 : c.sum * ((d.take m).sum + g * x / c.sum) ≤ g * (c.take (m + 1)).sum := by
        rw [Int.mul_add, hct, Int.mul_add]; omega
      have hle : (d.take m).sum + g * x / c.sum ≤ g := by
        have h1 : g * (c.take (m + 1)).sum ≤ g * c.sum := Int.mul_le_mul_of_nonneg_left (by omega) (by omega)
        have h2 : c.sum * ((d.take m).sum + g * x / c.sum) ≤ c.sum * g := by rw [Int.mul_comm c.sum g]; omega
        exact Int.le_of_mul_le_mul_left h2 (by omega)
      refine ⟨by simp [hdl], fun y hy => ?_, ?_, by dsimp only; rw [dt]; exact hle, by dsimp only; rw [dt]; exact hs2, by dsimp only; omega⟩
      · rcases List.mem_or_eq_of_mem_set hy with h | h
        · exact hd0 y h
        · omega
      · rw [← hdd', List.drop_set_of_lt (by omega)]
    · rw [if_neg hx]
      have x0 : x = 0 := by omega
      have dt : (d.take (m + 1)).sum = (d.take m).sum := by rw [take_succ_get hdx, x0]; simp
      rw [x0, Int.add_zero] at hct
      exact ⟨hdl, hd0, hdd', by dsimp only; rw [dt]; exact hdg, by dsimp only; rw [dt, hct]; exact hds, hla⟩
theorem rowF_ok {g : Int} {n : Nat} (hg : 1 ≤ g) (hn : 1 ≤ n) (bs : List Int) (from' : Int) : RowOk g n (rowF g n bs from') := by
  have hw := wF_len n bs from'
  have I := rinv (g := g) (c := wF n bs from') hg (fun x hx => (wF_rng n bs from' x hx).1) (by omega) n (by omega)
  unfold rowF
  generalize rfold g (wF n bs from') n = st at *
  obtain ⟨d, last⟩ := st
  obtain ⟨hdl, hd0, hdd, hdg, hds, hla⟩ := I
  dsimp only at hdl hd0 hdd hdg hds hla ⊢
  obtain ⟨y, hy⟩ := get_of_lt (l := d) (i := last) (by omega)
  have y0 := hd0 y (List.mem_of_getElem? hy)
  rw [getD_of_get hy]
  rw [List.take_of_length_le (by omega)] at hdg
  have hs : (d.set last (y + (g - d.sum))).sum = g := by rw [sum_set hy]; omega
  have h0 : ∀ w ∈ d.set last (y + (g - d.sum)), 0 ≤ w := fun w hw => by
    rcases List.mem_or_eq_of_mem_set hw with h | h
    · exact hd0 w h
    · omega
  exact ⟨by simp [hdl, hw], fun w hw => ⟨h0 w hw, by have := mem_le_sum h0 w hw; omega⟩, hs⟩

set_option maxHeartbeats 2000000 in
theorem rowD_spec (g : Int) (n : Nat) (hg : 1 ≤ g ∧ g ≤ 60) (hn : 1 ≤ n ∧ n ≤ 4) (bs : List Int) (hbl : (bs.length : Int) < 2 ^ 63) (hb8 : ∀ x ∈ bs, U8 x) (from' : Int) (hf : 0 ≤ from' ∧ from' ≤ 1000000) (H : AHeap) (K : ARes → AHeap → Prop) (hK : ∀ v H', Over H H' → OwnG H.next H' 3 v (ints (rowF g n bs from')) → K (.ret v) H') :
    ACall Tryd.prog G0 64 [lin g, lin n, .vec bs.length (bytesL bs), lin from'] H K := by
  refine ACall.clo ⟨_, Tryd.func64, rfl, rfl⟩ fun hcl => ?_
  refine ACall.of_body (n := 84) (rs := [.tmp 8]) Tryd.func64 rfl rfl rfl (by decide) (by kernel_rfl) (by simp) ?_
  simp (config := { maxSteps := 1000000 }) only [go_sem, appendA_U]
  refine ⟨by omega, ?_⟩
  refine W.loop0 35184371960832 (by rfl) (fun ρ H' => ∃ (k : Nat) (c : List Int), ρ 11 = lin k ∧ k ≤ n ∧ c.length = n ∧ (∀ x ∈ c, 0 ≤ x ∧ x ≤ 7) ∧ (∀ j x, k ≤ j → c[j]? = some x → x = 0) ∧ (∀ j, j < k → c[j]? = (wF n bs from')[j]?) ∧ ρ 10 = lin c.sum ∧ OwnI H H' H.next c) (fun ρ H => n - (iv (ρ 11)).toNat) ?_ ?_
  · simp (config := { maxSteps := 1000000 }) only [go_sem, appendA_U]
    refine ⟨0, List.replicate n 0, rfl, by omega, by simp, fun x hx => ?_, fun j x _ hx => ?_, fun j hj => by omega, by simp, ?_⟩
    · have := List.eq_of_mem_replicate hx; omega
    · exact List.eq_of_mem_replicate (List.mem_of_getElem? hx)
    · exact .new [] _
  rintro ρ H' ⟨k, c, h11, hk, hcl', hc7, hc0, hcw, h10, ho⟩
  refine W.env fun E hE => ?_
  have e0 : E 0 = lin g := by rw [hE]; simp (config := { maxSteps := 1000000 }) only [go_sem, appendA_U]
  have e1 : E 1 = lin n := by rw [hE]; simp (config := { maxSteps := 1000000 }) only [go_sem, appendA_U]
  have e2 : E 2 = .vec bs.length (bytesL bs) := by rw [hE]; simp (config := { maxSteps := 1000000 }) only [go_sem, appendA_U]
  have e3 : E 3 = lin from' := by rw [hE]; simp (config := { maxSteps := 1000000 }) only [go_sem, appendA_U]
  have e9 : E 9 = .own H.next 0 0 n 1 := by rw [hE]; simp (config := { maxSteps := 1000000 }) only [go_sem, appendA_U]
  have e10 : E 10 = lin c.sum := by rw [hE]; simp (config := { maxSteps := 1000000 }) only [go_sem, h10, appendA_U]
  have e11 : E 11 = lin k := by rw [hE]; simp (config := { maxSteps := 1000000 }) only [go_sem, h11, appendA_U]
  clear hE
  refine vc_sound _ _ _ (by rfl) ?_
  have lN := ho.live
  have hs0 := sum_nonneg fun x hx => (hc7 x hx).1
  have hs1 := sum_bound hc7
  by_cases hb : (k : Int) < n
  · have hck : c[k]? = some 0 := by
      obtain ⟨a, ha⟩ := get_of_lt (l := c) (i := k) (by omega)
      rw [ha, hc0 k a (Nat.le_refl _) ha]
    have hcne := ne_of_get hck
    have hk0 : (k : Int) ≥ 0 := by omega
    have w1 := IntWalk.i64_in ((k : Int) + 1) (by omega)
    by_cases hz : (0 : Int) < bs.length
    · have hzn : ¬ (bs.length : Int) = 0 := by omega
      have w2 := IntWalk.i64_in (from' + k) (by omega)
      have m1 : (from' + (k : Int)).tmod bs.length = (from' + k) % bs.length := Int.tmod_eq_emod_of_nonneg (by omega)
      have m2 := Int.emod_nonneg (from' + k) hzn
      have m3 := Int.emod_lt_of_pos (from' + k) hz
      obtain ⟨q, hq⟩ := Int.eq_ofNat_of_zero_le m2
      have hq0 : (q : Int) ≥ 0 := by omega
      have hql : (q : Int) < bs.length := by omega
      obtain ⟨b, hbg⟩ := get_of_lt (l := bs) (i := q) (by omega)
      have b8 := hb8 b (List.mem_of_getElem? hbg)
      have hbg' := bytesL_get hbg
      have hbne := ne_of_get hbg'
      have t1 : b.tmod 8 = b % 8 := Int.tmod_eq_emod_of_nonneg b8.1
      have w3 : IntKind.u8.wrap (b % 8) = b % 8 := IntWalk.u8_in _ (by omega)
      have w4 : IntKind.i64.wrap (b % 8) = b % 8 := IntWalk.i64_in _ (by omega)
      have w5 := IntWalk.i64_in (c.sum + b % 8) (by omega)
      have hsg : (setAt (ints c) k [.lit (.int .i64 (b % 8))])[k]? = some (.lit (.int .i64 (b % 8))) := by
        rw [setAt_ints (by omega), ints_get, List.getElem?_set_self (by omega)]; rfl
      simp (config := { maxSteps := 1000000 }) only [go_sem, hsg, e1, e2, e3, e9, e10, e11, hb, hz, hzn, w1, w2, m1, hq, hq0, hql, hbg', hbne, t1, w3, w4, w5, hk0, hck, hcne, lN, appendA_U]
      refine ⟨by omega, by have := ho.hi; rw [upd_next]; omega, ⟨k + 1, c.set k (b % 8), rfl, by omega, by simp [hcl'], fun x hx => ?_, fun j x hj hx => ?_, fun j hj => ?_, by rw [sum_set hck, Int.sub_zero], ho.store (by omega) _⟩, by rw [h11]; simp only [lin, iv_int]; omega⟩
      · rcases List.mem_or_eq_of_mem_set hx with h | h
        · exact hc7 x h
        · omega
      · rw [List.getElem?_set_ne (by omega)] at hx
        exact hc0 j x (by omega) hx
      · by_cases hjk : j = k
        · subst hjk
          rw [List.getElem?_set_self (by omega), wF_get bs from' (by omega), if_neg (by omega), hq, Int.toNat_natCast, getD_of_get hbg]
        · rw [List.getElem?_set_ne (by omega)]
          exact hcw j (by omega)
    · have w5 := IntWalk.i64_in (c.sum + 0) (by omega)
      rw [Int.add_zero] at w5
      simp (config := { maxSteps := 1000000 }) only [go_sem, e1, e2, e3, e9, e10, e11, hb, hz, w1, w5, Int.add_zero, hk0, hck, hcne, lN, appendA_U]
      refine ⟨by have := ho.hi; omega, ⟨k + 1, c, rfl, by omega, hcl', hc7, fun j x hj hx => hc0 j x (by omega) hx, fun j hj => by
        by_cases hjk : j = k
        · subst hjk
          rw [hck, wF_get bs from' (by omega), if_pos (by omega)]
        · exact hcw j (by omega), rfl, ho⟩, by rw [h11]; simp only [lin, iv_int]; omega⟩
  · obtain rfl : k = n := by omega
    simp (config := { maxSteps := 1000000 }) only [go_sem, e1, e11, hb, appendA_U]
    have hcwF : c = wF k bs from' := by
      apply List.ext_getElem?
      intro j
      rcases Nat.lt_or_ge j k with h | h
      · exact hcw j h
      · rw [List.getElem?_eq_none (by omega), List.getElem?_eq_none (by rw [wF_len]; exact h)]
    have hRI := fun m (hm : m ≤ k) => rinv (g := g) (c := c) hg.1 (fun x hx => (hc7 x hx).1) (by omega) m (by omega)
    refine W.loop0 18889465861109836705792 (by rfl) (fun ρ H2 => ∃ (m last : Nat) (d : List Int), ρ 14 = lin m ∧ m ≤ k ∧ rfold g c m = (d, last) ∧ ρ 12 = lin (g - (d.take m).sum) ∧ ρ 13 = lin last ∧ H'.next ≤ H2.next ∧ OwnI H H2 H.next d) (fun ρ H => k - (iv (ρ 14)).toNat) ?_ ?_
    · simp (config := { maxSteps := 1000000 }) only [go_sem, e0, appendA_U]
      exact ⟨0, 0, c, rfl, by omega, rfl, by simp, rfl, ho⟩
    rintro ρ2 H2 ⟨m, last, d, h14, hm, hrf, h12, h13, hnn, hod⟩
    obtain ⟨hdl, hd0, hdd, hdg, hds, hlast⟩ : RInv g c m d last := by have := hRI m hm; rw [hrf] at this; exact this
    rw [hcl'] at hdl hlast
    have hrs := rfold_succ g c m
    rw [hrf] at hrs
    unfold rstep at hrs
    dsimp only at hrs
    refine W.env fun E2 hE2 => ?_
    have f0 : E2 0 = lin g := by rw [hE2]; simp (config := { maxSteps := 1000000 }) only [go_sem, e0, appendA_U]
    have f1 : E2 1 = lin k := by rw [hE2]; simp (config := { maxSteps := 1000000 }) only [go_sem, e1, appendA_U]
    have f9 : E2 9 = .own H.next 0 0 k 1 := by rw [hE2]; simp (config := { maxSteps := 1000000 }) only [go_sem, e9, appendA_U]
    have f10 : E2 10 = lin c.sum := by rw [hE2]; simp (config := { maxSteps := 1000000 }) only [go_sem, e10, appendA_U]
    have f12 : E2 12 = lin (g - (d.take m).sum) := by rw [hE2]; simp (config := { maxSteps := 1000000 }) only [go_sem, h12, appendA_U]
    have f13 : E2 13 = lin last := by rw [hE2]; simp (config := { maxSteps := 1000000 }) only [go_sem, h13, appendA_U]
    have f14 : E2 14 = lin m := by rw [hE2]; simp (config := { maxSteps := 1000000 }) only [go_sem, h14, appendA_U]
    clear hE2
    refine vc_sound _ _ _ (by rfl) ?_
    have lN2 := hod.live
    by_cases hb2 : (m : Int) < k
    · obtain ⟨x, hcx⟩ := get_of_lt (l := c) (i := m) (by omega)
      have hx7 := hc7 x (List.mem_of_getElem? hcx)
      have hdx : d[m]? = some x := by
        have h1 : (d.drop m)[0]? = d[m]? := by rw [List.getElem?_drop]; rfl
        have h2 : (c.drop m)[0]? = c[m]? := by rw [List.getElem?_drop]; rfl
        rw [← h1, hdd, h2, hcx]
      have hdne := ne_of_get hdx
      have hm0 : (m : Int) ≥ 0 := by omega
      have w1 := IntWalk.i64_in ((m : Int) + 1) (by omega)
      have hdd' : d.drop (m + 1) = c.drop (m + 1) := by
        have := congrArg (List.drop 1) hdd
        rwa [List.drop_drop, List.drop_drop] at this
      have hct : (c.take (m + 1)).sum = (c.take m).sum + x := by rw [take_succ_get hcx]; simp
      have hcs : (c.take (m + 1)).sum + (c.drop (m + 1)).sum = c.sum := by rw [← List.sum_append, List.take_append_drop]
      have hcd0 := sum_nonneg (l := c.drop (m + 1)) fun y hy => (hc7 y (List.mem_of_mem_drop hy)).1
      have hc00 := sum_nonneg (l := c.take m) fun y hy => (hc7 y (List.mem_of_mem_take hy)).1
      have hd00 := sum_nonneg (l := d.take m) fun y hy => hd0 y (List.mem_of_mem_take hy)
      by_cases hx : 0 < x
      · have hsz : ¬ c.sum = 0 := by omega
        have gx : 0 ≤ g * x := Int.mul_nonneg (by omega) hx7.1
        have gx2 : g * x ≤ 60 * 7 := Int.mul_le_mul hg.2 hx7.2 hx7.1 (by omega)
        have w2 := IntWalk.i64_in (g * x) (by omega)
        have t1 : (g * x).tdiv c.sum = g * x / c.sum := Int.tdiv_eq_ediv_of_nonneg gx
        have y0 : 0 ≤ g * x / c.sum := Int.ediv_nonneg gx hs0
        have y1 : g * x / c.sum ≤ g * x := Int.ediv_le_self _ gx
        have y2 : c.sum * (g * x / c.sum) ≤ g * x := Int.mul_ediv_self_le (by omega)
        have w3 := IntWalk.i64_in (g * x / c.sum) (by omega)
        have w4 := IntWalk.i64_in (g - (d.take m).sum - g * x / c.sum) (by omega)
        have hsg : (setAt (ints d) m [.lit (.int .i64 (g * x / c.sum))])[m]? = some (.lit (.int .i64 (g * x / c.sum))) := by
          rw [setAt_ints (by omega), ints_get, List.getElem?_set_self (by omega)]; rfl
        have dt : ((d.set m (g * x / c.sum)).take (m + 1)).sum = (d.take m).sum + g * x / c.sum := by
          rw [take_succ_get (List.getElem?_set_self (by omega)), List.take_set_of_le (Nat.le_refl _)]; simp
        have hs2 : c.sum * ((d.take m).sum + g * x / c.sum) ≤ g * (c.take (m + 1)).sum := by
          rw [Int.mul_add, hct, Int.mul_add]; omega
        have hle : (d.take m).sum + g * x / c.sum ≤ g := by
          have h1 : g * (c.take (m + 1)).sum ≤ g * c.sum := Int.mul_le_mul_of_nonneg_left (by omega) (by omega)
          have h2 : c.sum * ((d.take m).sum + g * x / c.sum) ≤ c.sum * g := by rw [Int.mul_comm c.sum g]; omega
          exact Int.le_of_mul_le_mul_left h2 (by omega)
        simp (config := { maxSteps := 1000000 }) only [go_sem, hsg, f0, f1, f9, f10, f12, f13, f14, hb2, hx, hsz, w1, w2, t1, w3, w4, hm0, hdx, hdne, lN2, appendA_U]
        rw [getD_of_get hdx, if_pos hx] at hrs
        exact ⟨by omega, by rw [upd_next]; exact hnn, ⟨m + 1, m, d.set m (g * x / c.sum), rfl, by omega, hrs, by rw [dt]; congr 2; omega, rfl, by rw [upd_next]; exact hnn, hod.store (by omega) _⟩, by rw [h14]; simp only [lin, iv_int]; omega⟩
      · have x0 : x = 0 := by omega
        have w4 := IntWalk.i64_in (g - (d.take m).sum) (by omega)
        simp (config := { maxSteps := 1000000 }) only [go_sem, f0, f1, f9, f10, f12, f13, f14, hb2, hx, x0, w1, w4, hm0, hdx, hdne, Int.sub_zero, lN2, appendA_U]
        have dt : (d.take (m + 1)).sum = (d.take m).sum := by rw [take_succ_get hdx, x0]; simp
        rw [x0, Int.add_zero] at hct
        rw [getD_of_get hdx, if_neg hx] at hrs
        exact ⟨hnn, ⟨m + 1, last, d, rfl, by omega, hrs, by rw [dt], rfl, hnn, hod⟩, by rw [h14]; simp only [lin, iv_int]; omega⟩
    · obtain rfl : m = k := by omega
      obtain ⟨y, hy⟩ := get_of_lt (l := d) (i := last) (by omega)
      have hyne := ne_of_get hy
      have hl0 : (last : Int) ≥ 0 := by omega
      have hlk : (last : Int) < m := by omega
      have y0 := hd0 y (List.mem_of_getElem? hy)
      rw [List.take_of_length_le (by omega)] at hdg hds h12 f12
      have hyle := mem_le_sum hd0 y (List.mem_of_getElem? hy)
      have w1 := IntWalk.i64_in (y + (g - d.sum)) (by omega)
      have hle : last + 1 ≤ d.length := by omega
      simp (config := { maxSteps := 1000000 }) only [go_sem, f1, f9, f12, f13, f14, hb2, hl0, hlk, hy, hyne, lN2, w1, appendA_U]
      refine ⟨hle, ?_⟩
      have hrow : rowF g m bs from' = d.set last (y + (g - d.sum)) := by
        unfold rowF
        rw [← hcwF, hrf]
        dsimp only
        rw [getD_of_get hy]
      rw [hrow] at hK
      have ho2 := hod.store (k := last) (by omega) (y + (g - d.sum))
      refine FinV.mk ho2.ov.next (hK _ _ ho2.ov (.inr ⟨_, 0, ho2.lo, ho2.hi, ?_, ho2.get⟩))
      rw [ints_length, List.length_set, hdl]
structure DrP where
  card : Int
  par : Int
  w : List Int
def DrP.cells (x : DrP) : List AVal := [.lit (.int .u8 x.card), .lit (.int .u8 x.par), .vec x.w.length (bytesL x.w)]
def drC (l : List DrP) : List AVal := (l.map DrP.cells).flatten
def DrP.Ok (x : DrP) : Prop := U8 x.card ∧ U8 x.par ∧ (x.w.length : Int) < 2 ^ 63 ∧ ∀ b ∈ x.w, U8 b
def draft05V (g : Int) (ps : List DrP) (ord : List Int) : AVal := .agg [.lit (.int .u8 g), .vec ps.length (drC ps), .vec ord.length (bytesL ord)]
theorem drC_part {l : List DrP} {i : Nat} {x : DrP} (h : l[i]? = some x) : ((drC l).drop (i * 3)).take 3 = [.lit (.int .u8 x.card), .lit (.int .u8 x.par), .vec x.w.length (bytesL x.w)] := flat_part (f := DrP.cells) (z := 3) (fun _ => rfl) l i x h
theorem drC_len (l : List DrP) : (drC l).length = l.length * 3 := flat_len (f := DrP.cells) (fun _ => rfl) l
def NodeP.cellsZ (x : NodeP) : List AVal := if x.rows = [] then [lin x.card, .lit (.slice none 0 0), .lit (.slice none 0 0)] else [lin x.card, vecI x.parents, vecV x.rows]
def nodesZ (l : List NodeP) : List AVal := (l.map NodeP.cellsZ).flatten
theorem cellsZ_len (x : NodeP) : x.cellsZ.length = 3 := by unfold NodeP.cellsZ; split <;> rfl
theorem nodesZ_len (l : List NodeP) : (nodesZ l).length = l.length * 3 := flat_len (f := NodeP.cellsZ) cellsZ_len l
theorem nodesZ_0 {l : List NodeP} {i : Nat} {x : NodeP} (h : l[i]? = some x) : (nodesZ l)[i * 3]? = some (lin x.card) := by
  have := flat_get (f := NodeP.cellsZ) (z := 3) cellsZ_len l i 0 x h (by omega)
  rw [Nat.add_zero] at this
  rw [show (nodesZ l)[i * 3]? = _ from this]
  unfold NodeP.cellsZ; split <;> rfl
theorem nodesZ_eq {l : List NodeP} (h : ∀ x ∈ l, x.rows ≠ []) : nodesZ l = nodesC l := by
  unfold nodesZ nodesC
  congr 1
  exact List.map_congr_left fun x hx => if_neg (h x hx)
theorem flat_set {α : Type} {f : α → List AVal} {z : Nat} (hz : ∀ a, (f a).length = z) : ∀ (l : List α) (i : Nat) (a : α), i < l.length → ((l.set i a).map f).flatten = ((l.map f).flatten).take (i * z) ++ f a ++ ((l.map f).flatten).drop (i * z + z) := by
  intro l
  induction l with
  | nil => intro i a h; simp at h
  | cons b l ih =>
    intro i a h
    cases i with
    | zero => simp [hz]
    | succ i =>
      have hb := hz b
      simp only [List.set_cons_succ, List.map_cons, List.flatten_cons]
      rw [ih i a (by simpa using h), show (i + 1) * z = z + i * z by rw [Nat.add_mul]; omega, List.take_append, List.drop_append, hb]
      rw [List.take_of_length_le (l := f b) (i := z + i * z) (by omega), List.drop_of_length_le (l := f b) (i := z + i * z + z) (by omega), show z + i * z - z = i * z by omega, show z + i * z + z - z = i * z + z by omega]
      simp
theorem fzl_set {S : Nat → Prop} {H : AHeap} {nx : Nat} {A B : List AVal} {i : Nat} {a b : AVal} (h : ∀ j (h : j < A.length) (h' : j < B.length), Fz S H nx A[j] B[j]) (hab : Fz S H nx a b) : ∀ j (h : j < (A.set i a).length) (h' : j < (B.set i b).length), Fz S H nx (A.set i a)[j] (B.set i b)[j] := by
  intro j h1 h2
  rw [List.getElem_set, List.getElem_set]
  split
  · exact hab
  · exact h j (by simpa using h1) (by simpa using h2)
theorem fz_vecV {S : Nat → Prop} {H : AHeap} {nx : Nat} (l : List (List Int)) : Fz S H nx (vecV l) (vecV l) := .vec rfl fun i hi _ => by simp only [List.getElem_map]; exact .keepInts _
theorem fz_cellsZ {S : Nat → Prop} {H : AHeap} {nx : Nat} (x : NodeP) : ∀ c ∈ x.cellsZ, Fz S H nx c c := by
  intro c hc
  unfold NodeP.cellsZ at hc
  split at hc
  · simp only [List.mem_cons, List.not_mem_nil, or_false] at hc
    rcases hc with rfl | rfl | rfl <;> exact .lit _
  · simp only [List.mem_cons, List.not_mem_nil, or_false] at hc
    rcases hc with rfl | rfl | rfl
    · exact .lit _
    · exact .keepInts _
    · exact fz_vecV _
theorem fz_nodesZ' {S : Nat → Prop} {H : AHeap} {nx : Nat} (l : List NodeP) : ∀ c ∈ nodesZ l, Fz S H nx c c := by
  intro c hc
  unfold nodesZ at hc
  obtain ⟨r, hr, hc⟩ := List.mem_flatten.1 hc
  obtain ⟨x, _, rfl⟩ := List.mem_map.1 hr
  exact fz_cellsZ x c hc
theorem fz_nodesZ {S : Nat → Prop} {H : AHeap} {nx : Nat} : ∀ (l : List NodeP), (∀ x ∈ l, x.rows = [] → x.parents = []) → ∀ (i : Nat) (h : i < (nodesZ l).length) (h' : i < (nodesC l).length), Fz S H nx (nodesZ l)[i] (nodesC l)[i] := by
  intro l
  induction l with
  | nil => intro _ i h; simp [nodesZ] at h
  | cons x l ih =>
    intro hx i h h'
    have e1 : nodesZ (x :: l) = x.cellsZ ++ nodesZ l := by simp [nodesZ]
    have e2 : nodesC (x :: l) = x.cells ++ nodesC l := by simp [nodesC]
    have l1 := cellsZ_len x
    have l2 : x.cells.length = 3 := rfl
    have hc : ∀ (i : Nat) (h : i < x.cellsZ.length) (h' : i < x.cells.length), Fz S H nx x.cellsZ[i] x.cells[i] := by
      intro i h h'
      by_cases hr : x.rows = []
      · have hp := hx x (by simp) hr
        have ez : x.cellsZ = [lin x.card, .lit (.slice none 0 0), .lit (.slice none 0 0)] := if_pos hr
        have ec : x.cells = [lin x.card, vecI [], vecV []] := by unfold NodeP.cells; rw [hr, hp]
        simp only [ez, ec]
        match i, h' with
        | 0, _ => exact .lit _
        | 1, _ => exact .nil
        | 2, _ => exact .nil
      · have ez : x.cellsZ = x.cells := if_neg hr
        simp only [ez]
        match i, h' with
        | 0, _ => exact .lit _
        | 1, _ => exact .keepInts _
        | 2, _ => exact fz_vecV _
    simp only [e1, e2]
    by_cases hi : i < 3
    · rw [List.getElem_append_left (by omega), List.getElem_append_left (by omega)]
      exact hc i (by omega) (by omega)
    · rw [List.getElem_append_right (by omega), List.getElem_append_right (by omega)]
      simp only [l1, l2]
      exact ih (fun y hy => hx y (by simp [hy])) (i - 3) _ _
theorem nodesC_set {l : List NodeP} {i : Nat} {x y : NodeP} (h : l[i]? = some x) (hy : y.card = x.card) : nodesC (l.set i y) = ((nodesC l).set (i * 3 + 1) (vecI y.parents)).set (i * 3 + 2) (vecV y.rows) := by
  have hl := get_lt h
  have h1 := flat_set (f := NodeP.cells) (z := 3) (fun _ => rfl) l i y hl
  have h2 := flat_part (f := NodeP.cells) (z := 3) (fun _ => rfl) l i x h
  unfold nodesC
  rw [h1]
  have h3 : (l.map NodeP.cells).flatten = ((l.map NodeP.cells).flatten).take (i * 3) ++ (x.cells ++ ((l.map NodeP.cells).flatten).drop (i * 3 + 3)) := by
    rw [← h2, ← List.drop_drop, List.take_append_drop, List.take_append_drop]
  have hlen : (((l.map NodeP.cells).flatten).take (i * 3)).length = i * 3 := by
    rw [List.length_take, flat_len (f := NodeP.cells) (z := 3) (fun _ => rfl)]; omega
  conv => rhs; rw [h3]
  rw [List.set_append_right _ _ (by omega), List.set_append_right _ _ (by omega), hlen, show i * 3 + 1 - i * 3 = 1 by omega, show i * 3 + 2 - i * 3 = 2 by omega]
  unfold NodeP.cells
  simp [hy]
theorem own_len {lo : Nat} {H : AHeap} {e : TypeId} {v : AVal} {cs : List AVal} (h : OwnG lo H e v cs) {d : Option TypeDesc} {t : TypeId} (hd : d = some (.slice t)) : lenU d H v = some (.lit (.int .i64 cs.length)) := by
  subst hd
  rcases h with ⟨rfl, rfl⟩ | ⟨id, g, _, _, rfl, h4⟩
  · rfl
  · rw [lenU_slice, lenS_own, get_live h4]; rfl
theorem at02_own (l p : List Int) (hl : (l.length : Int) < 2 ^ 40) (hp : (p.length : Int) < 2 ^ 39) (hin : ∀ q ∈ p, 0 ≤ q ∧ q < l.length) (H : AHeap) (K : ARes → AHeap → Prop) (hK : ∀ v H', Over H H' → OwnG H.next H' 3 v (ints (atL l p)) → K (.ret v) H') : ACall Tryd.prog G0 86 [vecI l, vecI p] H K := by
  refine ACall.clo ⟨_, Tryd.func86, rfl, rfl⟩ fun hcl => ?_
  refine ACall.of_body (n := 24) (rs := [.tmp 4]) Tryd.func86 rfl rfl rfl (by decide) (by kernel_rfl) (by simp) ?_
  simp (config := { maxSteps := 1000000 }) only [go_sem, appendA_U]
  refine W.loop0 8388576 (by rfl) (fun ρ H' => ∃ k : Nat, ρ 6 = lin k ∧ k ≤ p.length ∧ Over H H' ∧ OwnG H.next H' 3 (ρ 5) (ints (atL l (p.take k)))) (fun ρ H => p.length - (iv (ρ 6)).toNat) ?_ ?_
  · simp (config := { maxSteps := 1000000 }) only [go_sem, appendA_U]
    exact ⟨0, rfl, by omega, .refl _, .nil⟩
  rintro ρ H' ⟨k, h6, hk, ov, h5⟩
  refine vc_sound _ _ _ (by rfl) ?_
  by_cases hb : (k : Int) < p.length
  · obtain ⟨q, hq⟩ := get_of_lt (l := p) (i := k) (by omega)
    obtain ⟨j, rfl, a, ha⟩ := get_of_int (hin q (List.mem_of_getElem? hq)).1 (hin q (List.mem_of_getElem? hq)).2
    have hne := ne_of_get hq
    have hne2 := ne_of_get ha
    have hj := get_lt ha
    have hj' : (j : Int) < l.length := by omega
    obtain ⟨v', H2, hA, ov2, hO, hn2, _⟩ := app_int a ov h5 (by simp [atL]; omega)
    have w1 := IntWalk.i64_in ((k : Int) + 1) (by omega)
    simp (config := { maxSteps := 1000000 }) only [go_sem, h6, hb, hq, hne, ha, hne2, hj', w1, hA]
    refine ⟨by have := ov2.next; omega, ⟨k + 1, by simp, by omega, ov2, ?_⟩, by omega⟩
    rw [atL_take hq, Int.toNat_natCast, getD_of_get ha]
    exact hO
  · simp (config := { maxSteps := 1000000 }) only [go_sem, h6, hb, appendA_U]
    rw [List.take_of_length_le (by omega)] at h5
    exact FinV.mk ov.next (hK _ _ ov h5)

theorem parentCards_own (g : Int) (ns : List NodeP) (v : Nat) (x : NodeP) (hx : ns[v]? = some x) (hl : (ns.length : Int) < 2 ^ 39) (hp : (x.parents.length : Int) < 2 ^ 39) (hin : InRange x.parents ns.length) (H : AHeap) (K : ARes → AHeap → Prop)
    (hK : ∀ v H', Over H H' → OwnG H.next H' 3 v (ints (parC ns x)) → K (.ret v) H') : ACall Tryd.prog G0 63 [netV g ns, lin v] H K := by
  refine ACall.clo ⟨_, Tryd.func63, rfl, rfl⟩ fun hcl => ?_
  have hne := nodesC_ne hx
  have e1 := nodesC_1 hx
  have hv : (v : Int) < ns.length := by have := get_lt hx; omega
  refine ACall.of_body (n := 14) (rs := [.tmp 4]) Tryd.func63 rfl rfl rfl (by decide) (by kernel_rfl) (by simp) ?_
  simp (config := { maxSteps := 1000000 }) only [go_sem, netV, nodesV, appendA_U]
  refine W.draw 8 [0, 1, 0, 4, 0, 28, 60, 124] Tryd.mixed (by kernel_rfl) (by kernel_rfl) ?_
  simp (config := { maxSteps := 1000000 }) only [go_sem, appendA_U]
  refine ⟨vecI (cardsL ns), [], PCall.pure fun H2 => cards05_spec g ns hl H2 _ ⟨rfl, rfl⟩, ?_⟩
  simp (config := { maxSteps := 1000000 }) only [go_sem, hv, hne, e1, appendA_U]
  refine AApply.clo (at02_own (cardsL ns) x.parents (by rw [cards_len]; omega) hp (by rw [cards_len]; exact hin) _ _ fun w H3 ov ho => ⟨trivial, ?_⟩)
  simp (config := { maxSteps := 1000000 }) only [go_sem, appendA_U]
  have o1 : Over H H3 := (Over.ext _ _).trans ov
  exact FinV.mk o1.next (hK _ _ o1 (ho.keep (by simp [ext_next]) (Nat.le_refl _) fun _ _ _ _ _ _ => rfl))
theorem acyc_of_order {ns : List NodeP} {P : List Int} (hP : IsPerm ns.length P) (hall : ∀ v : Nat, v < ns.length → (v : Int) ∈ P) (hr : ∀ (j v : Nat) (x : NodeP), P[j]? = some (v : Int) → ns[v]? = some x → ∀ q ∈ x.parents, 0 ≤ q ∧ ∃ k, k < j ∧ P[k]? = some q) : AcycB (setsL ns) := by
  intro v hv
  have hl : (setsL ns).length = ns.length := by simp [setsL]
  rw [hl] at hv
  obtain ⟨j, hj⟩ := List.mem_iff_getElem?.1 (hall v hv)
  have h0 : ∀ p ∈ P.take j, 0 ≤ p := fun p hp => (hP.rng p (List.mem_of_mem_take hp)).1
  have sub : ∀ (k u : Nat) (x : NodeP), k ≤ j → P[k]? = some (u : Int) → ns[u]? = some x → Sub ((setsL ns).getD u 0) (setN (P.take j)) := fun k u x hk hu hx i hi => by
    rw [getD_of_get (setsL_get hx)] at hi
    have hp0 : ∀ p ∈ x.parents, 0 ≤ p := fun p hp => (hr k u x hu hx p hp).1
    rw [setN_bit hp0] at hi
    obtain ⟨_, k', hk', hq⟩ := hr k u x hu hx _ (of_decide_eq_true hi)
    rw [setN_bit h0]
    refine decide_eq_true ?_
    exact List.mem_iff_getElem?.2 ⟨k', by rw [List.getElem?_take_of_lt (by omega)]; exact hq⟩
  have hcl : Closed (setsL ns) (setN (P.take j)) := fun u hu ht => by
    rw [hl] at hu
    rw [setN_bit h0] at ht
    obtain ⟨k, hk⟩ := List.mem_iff_getElem?.1 (of_decide_eq_true ht)
    have hkl := get_lt hk
    rw [List.length_take] at hkl
    rw [List.getElem?_take_of_lt (by omega)] at hk
    obtain ⟨x, hx⟩ := get_of_lt hu
    exact sub k u x (by omega) hk hx
  obtain ⟨x, hx⟩ := get_of_lt hv
  have h1 := upN_closed hcl (setsL ns).length (sub j v x (Nat.le_refl _) hj hx)
  cases hb : (upL (setsL ns) ((setsL ns).getD v 0)).testBit v with
  | false => rfl
  | true =>
    exfalso
    have h2 := h1 v hb
    rw [setN_bit h0] at h2
    obtain ⟨k, hk⟩ := List.mem_iff_getElem?.1 (of_decide_eq_true h2)
    have hkl := get_lt hk
    rw [List.length_take] at hkl
    rw [List.getElem?_take_of_lt (by omega)] at hk
    have e : P[k]? = P[j]? := by rw [hk, hj]
    have := (List.getElem?_inj (get_lt hk) hP.nd).1 e
    omega
end Go.Proofs
