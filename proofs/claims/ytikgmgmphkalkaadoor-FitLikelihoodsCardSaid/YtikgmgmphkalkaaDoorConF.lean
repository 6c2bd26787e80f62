/- Own work: contracts. -/
import Derived.Test.YtikgmgmphkalkaaDoorConE
import Derived.Test.YtikgmgmphkalkaaDoorConD
set_option linter.all false
set_option maxRecDepth 100000
namespace Go.Hx
theorem OwnM.elem {lo : Nat} {H : AHeap} {e1 e0 : TypeId} {v : AVal} {ids : List Nat} {rows : List (List AVal)} (h : OwnM lo H e1 e0 v ids rows) {i : Nat} (hi : i ∈ ids) : ∃ r, H.get i = some (.arr 0 e0 r) := by
  obtain ⟨k, hk⟩ := List.mem_iff_getElem?.1 hi
  have hl := (List.getElem?_eq_some_iff.1 hk).1
  rw [h.len] at hl
  exact ⟨_, h.row k i _ hk (List.getElem?_eq_getElem hl)⟩
theorem OwnM.keepR {lo : Nat} {H H' : AHeap} {e1 e0 : TypeId} {v : AVal} {ids : List Nat} {rows : List (List AVal)} (h : OwnM lo H e1 e0 v ids rows) (hn : H.next ≤ H'.next)
    (hk : ∀ i g e c, lo ≤ i → i < H.next → H.get i = some (.arr g e c) → (e = e1 ∨ i ∈ ids) → H'.get i = H.get i) : OwnM lo H' e1 e0 v ids rows :=
  ⟨h.len, h.nd, fun i hi => ⟨(h.rng i hi).1, by have := (h.rng i hi).2; omega⟩, h.top.keep (Nat.le_refl _) hn fun i g h1 h2 h3 _ => hk i g _ _ h1 h2 h3 (.inl rfl), fun k i r h1 h2 => by
    have h3 := h.rng i (List.mem_of_getElem? h1)
    have h4 := h.row k i r h1 h2
    rw [hk i _ _ _ h3.1 h3.2 h4 (.inr (List.mem_of_getElem? h1))]
    exact h4⟩
end Go.Hx
namespace Go.Proofs
open Go.Hx
structure SmallN (m : Nat) (ns : List NodeP) : Prop where
  len : ns.length ≤ m
  node : ∀ x ∈ ns, x.parents.length ≤ m ∧ x.rows.length ≤ m ∧ ∀ r ∈ x.rows, r ≠ [] ∧ r.length ≤ m
theorem SmallN.mono {m m' : Nat} {ns : List NodeP} (h : SmallN m ns) (hm : m ≤ m') : SmallN m' ns :=
  ⟨Nat.le_trans h.len hm, fun x hx => by
    obtain ⟨a, b, c⟩ := h.node x hx
    exact ⟨by omega, by omega, fun r hr => ⟨(c r hr).1, by have := (c r hr).2; omega⟩⟩⟩
theorem SmallN.set {m : Nat} {ns : List NodeP} {A : Nat} {y : NodeP} (h : SmallN m ns) (hy : y.parents.length ≤ m ∧ y.rows.length ≤ m ∧ ∀ r ∈ y.rows, r ≠ [] ∧ r.length ≤ m) : SmallN m (ns.set A y) :=
  ⟨by rw [List.length_set]; exact h.len, fun x hx => by
    rcases List.mem_or_eq_of_mem_set hx with h1 | rfl
    · exact h.node x h1
    · exact hy⟩
def cellsAt (ns : List NodeP) (A : Nat) (c pv rv : AVal) : List AVal := (((nodesE ns).set (A * 3) c).set (A * 3 + 1) pv).set (A * 3 + 2) rv
theorem cellsAt_len (ns : List NodeP) (A : Nat) (c pv rv : AVal) : (cellsAt ns A c pv rv).length = ns.length * 3 := by unfold cellsAt; simp [nodesE_len]
theorem cellsAt_0 {ns : List NodeP} {A : Nat} (h : A < ns.length) (c pv rv : AVal) : (cellsAt ns A c pv rv)[A * 3]? = some c := by
  unfold cellsAt
  rw [List.getElem?_set_ne (by omega), List.getElem?_set_ne (by omega), List.getElem?_set_self (by rw [nodesE_len]; omega)]
theorem cellsAt_1 {ns : List NodeP} {A : Nat} (h : A < ns.length) (c pv rv : AVal) : (cellsAt ns A c pv rv)[A * 3 + 1]? = some pv := by
  unfold cellsAt
  rw [List.getElem?_set_ne (by omega), List.getElem?_set_self (by rw [List.length_set, nodesE_len]; omega)]
theorem cellsAt_2 {ns : List NodeP} {A : Nat} (h : A < ns.length) (c pv rv : AVal) : (cellsAt ns A c pv rv)[A * 3 + 2]? = some rv := by
  unfold cellsAt
  rw [List.getElem?_set_self (by rw [List.length_set, List.length_set, nodesE_len]; omega)]
theorem cellsAt_no {ns : List NodeP} {A i : Nat} (h0 : i ≠ A * 3) (h1 : i ≠ A * 3 + 1) (h2 : i ≠ A * 3 + 2) (c pv rv : AVal) : (cellsAt ns A c pv rv)[i]? = (nodesE ns)[i]? := by
  unfold cellsAt
  rw [List.getElem?_set_ne (by omega), List.getElem?_set_ne (by omega), List.getElem?_set_ne (by omega)]
theorem cellsAt_c {ns : List NodeP} {A : Nat} (c c' pv rv : AVal) : (cellsAt ns A c pv rv).set (A * 3) c' = cellsAt ns A c' pv rv := by
  unfold cellsAt
  rw [List.set_comm _ _ (by omega), List.set_comm (i := A * 3 + 1) _ _ (by omega), List.set_set]
theorem cellsAt_p {ns : List NodeP} {A : Nat} (c pv pv' rv : AVal) : (cellsAt ns A c pv rv).set (A * 3 + 1) pv' = cellsAt ns A c pv' rv := by
  unfold cellsAt
  rw [List.set_comm _ _ (by omega), List.set_set]
theorem cellsAt_r {ns : List NodeP} {A : Nat} (c pv rv rv' : AVal) : (cellsAt ns A c pv rv).set (A * 3 + 2) rv' = cellsAt ns A c pv rv' := by
  unfold cellsAt
  rw [List.set_set]
theorem cellsAt_ne {ns : List NodeP} {A : Nat} (h : A < ns.length) (c pv rv : AVal) : ¬ cellsAt ns A c pv rv = [] := fun e => by
  have := cellsAt_0 h c pv rv
  rw [e] at this
  simp at this
theorem cellsAt_set {ns : List NodeP} {A : Nat} {x : NodeP} (h : ns[A]? = some x) (pv rv : AVal) : ((nodesE ns).set (A * 3 + 1) pv).set (A * 3 + 2) rv = cellsAt ns A (lin x.card) pv rv := by
  unfold cellsAt
  rw [set_get_self (nodesE_0 h)]
theorem nodesQ_set {e : Nat → Prop} {ns : List NodeP} {A : Nat} {x' : NodeP} {rv : AVal} (hA : A < ns.length) (hr : rv = vecV x'.rows ∨ rv = rowsE x') (he : e A → rv = rowsE x') : NodesQ e (ns.set A x') (cellsAt ns A (lin x'.card) (vecI x'.parents) rv) := by
  refine ⟨by rw [cellsAt_len, List.length_set], fun v x hx => ?_⟩
  by_cases h : v = A
  · subst h
    rw [List.getElem?_set_self hA] at hx
    cases hx
    exact ⟨rv, cellsAt_0 hA _ _ _, cellsAt_1 hA _ _ _, cellsAt_2 hA _ _ _, hr, he⟩
  · rw [List.getElem?_set_ne (by omega)] at hx
    refine ⟨rowsE x, ?_, ?_, ?_, .inr rfl, fun _ => rfl⟩
    · rw [cellsAt_no (by omega) (by omega) (by omega)]; exact nodesE_0 hx
    · rw [cellsAt_no (by omega) (by omega) (by omega)]; exact nodesE_1 hx
    · rw [cellsAt_no (by omega) (by omega) (by omega)]; exact nodesE_2 hx
theorem fzZ {S : Nat → Prop} {lo nx z n : Nat} {H : AHeap} {e : TypeId} {v : AVal} {cs cs' : List AVal} (h : OwnZ lo H e z v n cs) (hS : ∀ i, lo ≤ i → S i) (hl : cs'.length = cs.length)
    (hc : ∀ i (h : i < cs.length) (h' : i < cs'.length), Fz S H nx cs[i] cs'[i]) : Fz S H nx v (.vec n cs') := by
  rcases h with ⟨rfl, rfl, rfl⟩ | ⟨id, g, h1, _, rfl, h3, h4⟩
  · obtain rfl := List.eq_nil_of_length_eq_zero hl
    exact .nil
  · refine .frz (hS id h1) h4 (by omega) fun j hj h2 h' => ?_
    simp only [Nat.zero_add] at h2 ⊢
    exact hc j h2 h'
theorem fz_cellsAt {S : Nat → Prop} {H : AHeap} {nx A : Nat} {ns : List NodeP} {c : Int} {pv rv pv' rv' : AVal} (hp : Fz S H nx pv pv') (hr : Fz S H nx rv rv') : ∀ i (h : i < (cellsAt ns A (lin c) pv rv).length) (h' : i < (cellsAt ns A (lin c) pv' rv').length), Fz S H nx (cellsAt ns A (lin c) pv rv)[i] (cellsAt ns A (lin c) pv' rv')[i] := by
  unfold cellsAt
  intro i h h'
  simp only [List.getElem_set]
  by_cases h2 : A * 3 + 2 = i
  · rw [if_pos h2, if_pos h2]; exact hr
  · rw [if_neg h2, if_neg h2]
    by_cases h1 : A * 3 + 1 = i
    · rw [if_pos h1, if_pos h1]; exact hp
    · rw [if_neg h1, if_neg h1]
      by_cases h0 : A * 3 = i
      · rw [if_pos h0]; exact .lit _
      · rw [if_neg h0]; exact fz_nodesE' ns _ (List.getElem_mem _)
theorem fz_rowAt {S : Nat → Prop} {lo nx : Nat} {H H' : AHeap} {v : AVal} {ids : List Nat} {rows : List (List Int)} {R idt gt : Nat} {w : AVal} {r' : List Int} {cells : List AVal} (h : OwnM lo H 22 3 v ids (rows.map ints)) (hS : ∀ i, lo ≤ i → S i) (hR : R < rows.length) (ht : lo ≤ idt)
    (hcell : cells.length = rows.length) (hsame : ∀ (j id : Nat) (r : List Int), j ≠ R → ids[j]? = some id → rows[j]? = some r → cells[j]? = some (.own id 0 0 r.length 1) ∧ H'.get id = H.get id) (hw : cells[R]? = some w) (hg : H'.get idt = some (.arr gt 22 cells)) (hfw : Fz S H' nx w (vecI r')) :
    Fz S H' nx (.own idt gt 0 rows.length 1) (vecV (rows.set R r')) := by
  have hl := h.len
  rw [List.length_map] at hl
  have : Fz S H' nx (.own idt gt 0 rows.length 1) (.vec rows.length ((rows.set R r').map vecI)) := by
    refine .frz (hS idt ht) hg (by simp) fun j hj h2 h' => ?_
    simp only [Nat.zero_add] at h2 ⊢
    have hjr : j < rows.length := by omega
    have e1 := List.getElem?_eq_getElem h2
    generalize cells[j] = u at e1 ⊢
    rw [List.getElem_map, List.getElem_set]
    split
    · rename_i e
      subst e
      rw [hw] at e1
      cases e1
      exact hfw
    · rename_i e
      have hij : j < ids.length := by omega
      obtain ⟨c1, c2⟩ := hsame j _ _ (fun h => e h.symm) (List.getElem?_eq_getElem hij) (List.getElem?_eq_getElem hjr)
      rw [c1] at e1
      cases e1
      have hid := h.rng _ (List.getElem_mem hij)
      have hrow := h.row j _ _ (List.getElem?_eq_getElem hij) (show (rows.map ints)[j]? = some (ints rows[j]) by rw [List.getElem?_map, List.getElem?_eq_getElem hjr]; rfl)
      rw [← c2] at hrow
      refine .frz (hS _ hid.1) hrow (by simp [ints_length]) fun i hi h3 h4 => ?_
      have e0 : 0 + i = i := Nat.zero_add i
      simp only [e0, ints, List.getElem_map]
      exact .lit _
  have e : vecV (rows.set R r') = .vec rows.length ((rows.set R r').map vecI) := by unfold vecV; rw [List.length_set]
  rw [e]
  exact this
structure RowAt (lo : Nat) (H : AHeap) (rv : AVal) (ids : List Nat) (rows : List (List Int)) (R : Nat) (q : List Int) (idt gt : Nat) (cells : List AVal) (idr : Nat) : Prop where
  rv : rv = .own idt gt 0 rows.length 1
  top : H.get idt = some (.arr gt 22 cells)
  tlo : lo ≤ idt ∧ idt < H.next
  len : cells.length = rows.length
  at' : cells[R]? = some (.own idr 0 0 q.length 1)
  row : H.get idr = some (.arr 0 3 (ints q))
  rlo : lo ≤ idr ∧ idr < H.next
  ne : idt ≠ idr
  id : ids[R]? = some idr
  q : rows[R]? = some q
  cell : ∀ (j i : Nat) (r : List Int), ids[j]? = some i → rows[j]? = some r → cells[j]? = some (.own i 0 0 r.length 1)
  nm : idt ∉ ids
theorem OwnM.rowAt {lo : Nat} {H : AHeap} {rv : AVal} {ids : List Nat} {rows : List (List Int)} (h : OwnM lo H 22 3 rv ids (rows.map ints)) {R : Nat} {q : List Int} (hq : rows[R]? = some q) : ∃ idt gt cells idr, RowAt lo H rv ids rows R q idt gt cells idr := by
  have hR := get_lt hq
  have hl := h.len
  rw [List.length_map] at hl
  have h0 : rows.map ints ≠ [] := by intro e; have := congrArg List.length e; simp at this; rw [this] at hR; simp at hR
  obtain ⟨idt, gt, a, b, c, d, f⟩ := h.topB h0
  obtain ⟨idr, hidr⟩ := get_of_lt (show R < ids.length by omega)
  have hrow := h.row R idr (ints q) hidr (by rw [List.getElem?_map, hq]; rfl)
  have hcell : ∀ (j i : Nat) (r : List Int), ids[j]? = some i → rows[j]? = some r → (List.zipWith (fun i n => AVal.own i 0 0 n 1) ids ((rows.map ints).map List.length))[j]? = some (.own i 0 0 r.length 1) := fun j i r h1 h2 => by
    rw [List.getElem?_zipWith, h1, List.getElem?_map, List.getElem?_map, h2]
    simp [ints_length]
  refine ⟨idt, gt, _, idr, by rw [c, List.length_map], d, ⟨a, b⟩, by simp [hl], hcell R idr q hidr hq, hrow, h.rng _ (List.mem_of_getElem? hidr), ?_, hidr, hq, hcell, f (by decide)⟩
  rintro rfl
  exact f (by decide) (List.mem_of_getElem? hidr)
theorem RowAt.fzTake {S : Nat → Prop} {lo nx : Nat} {H H' : AHeap} {rv : AVal} {ids : List Nat} {rows : List (List Int)} {R : Nat} {q : List Int} {idt gt : Nat} {cells : List AVal} {idr : Nat} (h : RowAt lo H rv ids rows R q idt gt cells idr) (hM : OwnM lo H' 22 3 rv ids (rows.map ints)) (hS : ∀ i, lo ≤ i → S i) (ht : H'.get idt = some (.arr gt 22 cells)) :
    Fz S H' nx (.own idt gt 0 R 1) (vecV (rows.take R)) := by
  have hR := get_lt h.q
  have hl := hM.len
  rw [List.length_map] at hl
  have : Fz S H' nx (.own idt gt 0 R 1) (.vec R ((rows.take R).map vecI)) := by
    refine .frz (hS idt h.tlo.1) ht (by simp; omega) fun j hj h2 h' => ?_
    simp only [Nat.zero_add] at h2 ⊢
    have hjr : j < rows.length := by omega
    have hij : j < ids.length := by omega
    have e1 := List.getElem?_eq_getElem h2
    generalize cells[j] = u at e1 ⊢
    rw [h.cell j _ _ (List.getElem?_eq_getElem hij) (List.getElem?_eq_getElem hjr)] at e1
    cases e1
    rw [List.getElem_map, List.getElem_take]
    have hid := hM.rng _ (List.getElem_mem hij)
    have hrow := hM.row j _ _ (List.getElem?_eq_getElem hij) (show (rows.map ints)[j]? = some (ints rows[j]) by rw [List.getElem?_map, List.getElem?_eq_getElem hjr]; rfl)
    refine .frz (hS _ hid.1) hrow (by simp [ints_length]) fun i hi h3 h4 => ?_
    have e0 : 0 + i = i := Nat.zero_add i
    simp only [e0, ints, List.getElem_map]
    exact .lit _
  have e : vecV (rows.take R) = .vec R ((rows.take R).map vecI) := by unfold vecV; rw [List.length_take, Nat.min_eq_left (by omega)]
  rw [e]
  exact this
theorem RowAt.fzSet {S : Nat → Prop} {lo nx : Nat} {H H' : AHeap} {rv : AVal} {ids : List Nat} {rows : List (List Int)} {R : Nat} {q : List Int} {idt gt : Nat} {cells : List AVal} {idr : Nat} (h : RowAt lo H rv ids rows R q idt gt cells idr) (hM : OwnM lo H 22 3 rv ids (rows.map ints)) (hS : ∀ i, lo ≤ i → S i) {w : AVal} {q' : List Int}
    (ht : H'.get idt = some (.arr gt 22 (cells.set R w))) (hk : ∀ i ∈ ids, i ≠ idr → H'.get i = H.get i) (hw : Fz S H' nx w (vecI q')) : Fz S H' nx rv (vecV (rows.set R q')) := by
  have hR := get_lt h.q
  rw [h.rv]
  refine fz_rowAt (gt := gt) hM hS hR h.tlo.1 (by rw [List.length_set]; exact h.len) (fun j i r hj h1 h2 => ⟨by rw [List.getElem?_set_ne (fun e => hj e.symm)]; exact h.cell j i r h1 h2, hk i (List.mem_of_getElem? h1) ?_⟩) (by rw [List.getElem?_set_self (by rw [h.len]; exact hR)]) ht hw
  rintro rfl
  exact hj ((List.getElem?_inj (get_lt h1) hM.nd).1 (by rw [h1, h.id]))
theorem NodesQ.take {e : Nat → Prop} {ns : List NodeP} {cs : List AVal} (h : NodesQ e ns cs) (k : Nat) : NodesQ e (ns.take k) (cs.take (k * 3)) := by
  refine ⟨by rw [List.length_take, List.length_take, h.len]; omega, fun v x hx => ?_⟩
  have hv := get_lt hx
  rw [List.length_take] at hv
  rw [List.getElem?_take_of_lt (by omega)] at hx
  obtain ⟨rv, a, b, c, d⟩ := h.node v x hx
  exact ⟨rv, by rw [List.getElem?_take_of_lt (by omega)]; exact a, by rw [List.getElem?_take_of_lt (by omega)]; exact b, by rw [List.getElem?_take_of_lt (by omega)]; exact c, d⟩
theorem SmallN.take {m : Nat} {ns : List NodeP} (h : SmallN m ns) (k : Nat) : SmallN m (ns.take k) := ⟨by rw [List.length_take]; have := h.len; omega, fun x hx => h.node x (List.mem_of_mem_take hx)⟩
def revS : Nat → Int → Int → List Int → List Int
  | 0, _, _, l => l
  | f + 1, i, k, l => if i < k then revS f (i + 1) (k - 1) ((l.set i.toNat (l.getD k.toNat 0)).set k.toNat (l.getD i.toNat 0)) else l
def rowB (c n g : Int) (q : List Int) : List Int := if c = 6 then q.set 0 n else if c = 7 then q ++ [0] else if c = 8 then g :: List.replicate (q.length - 1) 0 else revS (q.length + 1) 0 ((q.length : Int) - 1) q
def bnodeB (c r n g : Int) (x : NodeP) : NodeP × AVal :=
  if c = 1 then ({ x with card := n }, rowsE x) else if c = 2 then ({ x with parents := x.parents ++ [n] }, rowsE x) else if c = 3 then ({ x with parents := [] }, rowsE x)
  else if c = 4 then ({ x with rows := x.rows ++ [[n]] }, rowsE { x with rows := x.rows ++ [[n]] })
  else match x.rows[(r % (x.rows.length : Int)).toNat]? with
    | none => (x, rowsE x)
    | some q => if c = 5 then ({ x with rows := x.rows.take (r % (x.rows.length : Int)).toNat }, vecV (x.rows.take (r % (x.rows.length : Int)).toNat))
      else ({ x with rows := x.rows.set (r % (x.rows.length : Int)).toNat (rowB c n g q) }, vecV (x.rows.set (r % (x.rows.length : Int)).toNat (rowB c n g q)))
def bendN (c : Int) (A : Nat) (r n g : Int) (ns : List NodeP) : Int × List NodeP × List AVal := match ns[A]? with
  | none => (g, [], [])
  | some x => if c = 0 then (n, ns, cellsAt ns A (lin x.card) (vecI x.parents) (rowsE x))
    else if c = 10 then (g, ns ++ [⟨1, [], [[g]]⟩], cellsAt ns A (lin x.card) (vecI x.parents) (rowsE x) ++ [lin 1, vecI [], rowsE ⟨1, [], [[g]]⟩])
    else if c = 11 then (g, ns.take (ns.length - 1), (cellsAt ns A (lin x.card) (vecI x.parents) (rowsE x)).take ((ns.length - 1) * 3))
    else (g, ns.set A (bnodeB c r n g x).1, cellsAt ns A (lin (bnodeB c r n g x).1.card) (vecI (bnodeB c r n g x).1.parents) (bnodeB c r n g x).2)
theorem bnodeB_none {c r n g : Int} {x : NodeP} (hc : 4 < c) (hx : x.rows = []) : bnodeB c r n g x = (x, rowsE x) := by
  unfold bnodeB
  rw [if_neg (by omega), if_neg (by omega), if_neg (by omega), if_neg (by omega), hx]
  rfl
theorem bnodeB_five {r n g : Int} {x : NodeP} {R : Nat} {q : List Int} (hq : x.rows[R]? = some q) (hR : R = (r % (x.rows.length : Int)).toNat) : bnodeB 5 r n g x = ({ x with rows := x.rows.take R }, vecV (x.rows.take R)) := by
  subst hR
  unfold bnodeB
  rw [if_neg (by omega), if_neg (by omega), if_neg (by omega), if_neg (by omega), hq]
  rfl
theorem bnodeB_row {c r n g : Int} {x : NodeP} {R : Nat} {q : List Int} (hc : 5 < c) (hq : x.rows[R]? = some q) (hR : R = (r % (x.rows.length : Int)).toNat) : bnodeB c r n g x = ({ x with rows := x.rows.set R (rowB c n g q) }, vecV (x.rows.set R (rowB c n g q))) := by
  subst hR
  unfold bnodeB
  rw [if_neg (by omega), if_neg (by omega), if_neg (by omega), if_neg (by omega), hq]
  simp only
  rw [if_neg (by omega)]
theorem revS_len : ∀ (f : Nat) (i k : Int) (l : List Int), (revS f i k l).length = l.length := by
  intro f
  induction f with
  | zero => intro i k l; rfl
  | succ f ih => intro i k l; unfold revS; split <;> simp [ih]
theorem revS_done {f : Nat} {i k : Int} {l : List Int} (h : ¬ i < k) : revS f i k l = l := by
  cases f with
  | zero => rfl
  | succ f => unfold revS; rw [if_neg h]
theorem revS_step {f iN kN : Nat} {l : List Int} {qa qb : Int} (h : (iN : Int) < kN) (ha : l[iN]? = some qa) (hb : l[kN]? = some qb) : revS f ((iN : Int) + 1) ((kN : Int) - 1) ((l.set iN qb).set kN qa) = revS (f + 1) iN kN l := by
  conv => rhs; unfold revS
  rw [if_pos h]
  simp [List.getD, ha, hb]
end Go.Proofs
