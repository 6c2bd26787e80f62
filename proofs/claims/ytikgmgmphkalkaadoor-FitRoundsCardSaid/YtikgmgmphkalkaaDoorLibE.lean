/-
  What an argument, or a listed variable, is as an abstract value: it is read off what can be read of it. Own work: no program stands in this text.
-/
import Derived.Test.YtikgmgmphkalkaaDoorLibD
import Derived.MakeChecks
import Derived.OpenShut
set_option linter.all false
namespace Go.Hx
open Go.ChangeShapes Go.WideShapes Go.RowKit
variable {P : Program} {W : World} {H : Type} {enc : TypeId × Value → H} {spare : Nat → Bool} {held : Bool}

def RelC (P : Program) (W : World) (as : List AVal) (cs : List Value) : Prop := cs.length = as.length ∧ ∀ i (h : i < as.length) (h' : i < cs.length), RelV P noG noH W as[i] cs[i]

def Opens (enc : TypeId × Value → H) (P : Program) (W : World) (spare : Nat → Bool) (held : Bool) (t : TypeId) (φ : DataW H → List AVal → Prop) : Prop :=
  ∀ fuel cs x, DataW.trod enc P W 0 spare held fuel t cs = some x → ∃ as, RelC P W as cs ∧ φ x.1 as

theorem RelC.nil : RelC P W [] [] := ⟨rfl, fun i h _ => absurd h (Nat.not_lt_zero _)⟩
theorem RelC.one {a : AVal} {c : Value} (h : RelV P noG noH W a c) : RelC P W [a] [c] := ⟨rfl, fun i hi _ => by
  match i, hi with
  | 0, _ => exact h⟩
theorem RelC.append {as bs : List AVal} {cs ds : List Value} (h1 : RelC P W as cs) (h2 : RelC P W bs ds) : RelC P W (as ++ bs) (cs ++ ds) := by
  refine ⟨by simp [h1.1, h2.1], fun i h h' => ?_⟩
  by_cases hi : i < as.length
  · rw [List.getElem_append_left hi, List.getElem_append_left (by rw [h1.1]; exact hi)]
    exact h1.2 i hi _
  · have e := h1.1
    rw [List.getElem_append_right (by omega), List.getElem_append_right (by omega)]
    have := h2.2 (i - as.length) (by simp at h; omega) (by rw [h2.1]; simp at h; omega)
    simpa [e] using this

theorem opens_int {t : TypeId} {k : IntKind} (ht : P.underlying t = some (.int k)) : Opens enc P W spare held t fun d as => ∃ n, d = .lit (.int k n) ∧ as = [.lit (.int k n)] ∧ (Lit.int k n).wf = true := by
  intro fuel cs x h
  cases fuel with
  | zero => simp [DataW.trod] at h
  | succ n =>
    unfold DataW.trod at h
    rw [ht] at h
    split at h <;> simp_all
    rename_i k' n' _ _
    obtain ⟨⟨rfl, hw⟩, rfl⟩ := h
    exact ⟨_, .one (.lit _), _, rfl, rfl, hw⟩

theorem relC_rows : ∀ {rows : List (List AVal)} {css : List (List Value)}, css.length = rows.length → (∀ i (h : i < rows.length) (h' : i < css.length), RelC P W rows[i] css[i]) → RelC P W rows.flatten css.flatten := by
  intro rows
  induction rows with
  | nil => intro css h _; obtain rfl := List.eq_nil_of_length_eq_zero h; exact .nil
  | cons r rows ih =>
    intro css h h'
    match css, h with
    | c :: css, h =>
      simp only [List.flatten_cons]
      exact (h' 0 (by simp) (by simp)).append (ih (by simpa using h) fun i hi hi' => h' (i + 1) (by simpa using hi) (by simpa using hi'))

theorem exists_list {α : Type} {Q : Nat → α → Prop} : ∀ n, (∀ i, i < n → ∃ a, Q i a) → ∃ l : List α, l.length = n ∧ ∀ i (h : i < l.length), Q i l[i] := by
  intro n
  induction n with
  | zero => intro _; exact ⟨[], rfl, fun i h => absurd h (Nat.not_lt_zero _)⟩
  | succ n ih =>
    intro h
    obtain ⟨l, hl, hq⟩ := ih fun i hi => h i (by omega)
    obtain ⟨a, ha⟩ := h n (by omega)
    refine ⟨l ++ [a], by simp [hl], fun i hi => ?_⟩
    by_cases hi' : i < l.length
    · rw [List.getElem_append_left hi']; exact hq i hi'
    · have : i = l.length := by simp at hi; omega
      subst this
      simp only [List.getElem_concat_length]
      rw [hl]; exact ha

theorem len_flatten {α : Type} {z : Nat} : ∀ {rows : List (List α)}, (∀ i (h : i < rows.length), rows[i].length = z) → rows.flatten.length = rows.length * z := by
  intro rows
  induction rows with
  | nil => intro _; simp
  | cons r rows ih =>
    intro h
    have h0 := h 0 (by simp)
    have := ih fun i hi => h (i + 1) (by simpa using hi)
    simp only [List.getElem_cons_zero] at h0
    simp only [List.flatten_cons, List.length_append, List.length_cons, this, h0, Nat.succ_mul]
    omega

theorem get_flatten {α : Type} {z : Nat} : ∀ {rows : List (List α)}, (∀ i (h : i < rows.length), rows[i].length = z) → ∀ i j (hi : i < rows.length) (hj : j < z), rows.flatten[i * z + j]? = (rows[i])[j]? := by
  intro rows
  induction rows with
  | nil => intro _ i j hi; exact absurd hi (Nat.not_lt_zero _)
  | cons r rows ih =>
    intro h i j hi hj
    have h0 := h 0 (by simp)
    simp only [List.getElem_cons_zero] at h0
    cases i with
    | zero => simp only [List.flatten_cons, List.getElem_cons_zero, Nat.zero_mul, Nat.zero_add]; rw [List.getElem?_append_left (by omega)]
    | succ i =>
      simp only [List.flatten_cons, List.getElem_cons_succ]
      rw [List.getElem?_append_right (by rw [h0, Nat.succ_mul]; omega), ← ih (fun i hi => h (i + 1) (by simpa using hi)) i j (by simpa using hi) hj]
      congr 1
      rw [h0, Nat.succ_mul]; omega

def RowsOf (φ : DataW H → List AVal → Prop) (ds : List (DataW H)) (rows : List (List AVal)) : Prop := ds.length = rows.length ∧ ∀ i (h : i < rows.length) (h' : i < ds.length), φ ds[i] rows[i]

theorem opens_slice {t e : TypeId} {φ : DataW H → List AVal → Prop} (ht : P.underlying t = some (.slice e)) (hz : 0 < P.cellsOf e) (he : Opens enc P W spare held e φ) :
    Opens enc P W spare held t fun d as => (d = .nil ∧ as = [.vec 0 []]) ∨ ∃ ds rest rows, d = .slice ds rest ∧ as = [.vec rows.length rows.flatten] ∧ RowsOf φ ds rows ∧ (∀ i (h : i < rows.length), rows[i].length = P.cellsOf e) ∧ rows.length ≤ maxLen := by
  intro fuel cs x h
  rcases DataW.trod_slice ht h with ⟨rfl, rfl⟩ | ⟨a, len, cap, elems, rest, n, rfl, rfl, rfl, _, hl, hm, hlen, hel, _, _⟩
  · exact ⟨_, .one (.vec0 _ _), .inl ⟨rfl, rfl⟩⟩
  have hrow : ∀ i, i < len → ∃ p : List Value × List AVal, W.cells? 0 (a.add (i * P.cellsOf e)) (P.cellsOf e) = some p.1 ∧ RelC P W p.2 p.1 ∧ ∃ x, elems[i]? = some x ∧ φ x.1 p.2 := by
    intro i hi
    have := hel i hi
    rw [List.getElem?_eq_getElem (by omega), Option.bind_eq_some_iff] at this
    obtain ⟨cs, hc, hx⟩ := this
    obtain ⟨as, ha, hφ⟩ := he _ _ _ hx
    exact ⟨(cs, as), hc, ha, _, List.getElem?_eq_getElem (by omega), hφ⟩
  obtain ⟨l, hll, hQ⟩ := exists_list len hrow
  have hzr : ∀ i (h : i < (l.map Prod.snd).length), (l.map Prod.snd)[i].length = P.cellsOf e := by
    intro i h
    simp only [List.length_map] at h
    simp only [List.getElem_map]
    obtain ⟨hc, hr, _⟩ := hQ i h
    rw [← hr.1]; exact (World.cells?_some hc).2.1
  have hzc : ∀ i (h : i < (l.map Prod.fst).length), (l.map Prod.fst)[i].length = P.cellsOf e := by
    intro i h
    simp only [List.length_map] at h
    simp only [List.getElem_map]
    exact (World.cells?_some (hQ i h).1).2.1
  refine ⟨[.vec (l.map Prod.snd).length (l.map Prod.snd).flatten], .one ?_, .inr ⟨_, _, l.map Prod.snd, rfl, rfl, ⟨by simp [hll, hlen], fun i h h' => ?_⟩, hzr, by simp only [List.length_map]; omega⟩⟩
  · rcases Nat.eq_zero_or_pos len with h0 | h0
    · subst h0
      obtain rfl := List.eq_nil_of_length_eq_zero hll
      exact .vec0 _ _
    have hrc : RelC P W (l.map Prod.snd).flatten (l.map Prod.fst).flatten := relC_rows (by simp) fun i h h' => by
      simp only [List.length_map] at h
      simp only [List.getElem_map]
      exact (hQ i h).2.1
    have hla : (l.map Prod.snd).length = len := by simp [hll]
    have hsp : ∀ i, i < len → ∀ j, j < P.cellsOf e → ∃ v, W.cell? ((a.add (i * P.cellsOf e)).add j) = some v ∧ (l.map Prod.fst).flatten[i * P.cellsOf e + j]? = some v := by
      intro i hi j hj
      obtain ⟨hc, _⟩ := hQ i (by omega)
      obtain ⟨_, hcl, hcell⟩ := World.cells?_some hc
      refine ⟨(l[i]'(by omega)).1[j]'(by omega), ?_, ?_⟩
      · rw [hcell j hj, List.getElem?_eq_getElem]
      · rw [get_flatten hzc i j (by simp; omega) hj]
        simp only [List.getElem_map]
        rw [List.getElem?_eq_getElem]
    have hspot : a.spot = none := by
      obtain ⟨v, hv, _⟩ := hsp 0 h0 0 hz
      unfold World.cell? at hv
      split at hv
      · split at hv
        · cases hv
        · rename_i hs; simpa [Addr.add] using hs
      · cases hv
    obtain ⟨b, off, spot⟩ := a
    simp only at hspot
    subst hspot
    have hadd : ∀ (b off n : Nat), (⟨b, off, none⟩ : Addr).add n = ⟨b, off + n, none⟩ := by
      intro b off n
      unfold Addr.add
      by_cases hn : n = 0
      · subst hn; simp
      · simp [hn]
    have hlt : b < W.heap.size := by
      obtain ⟨v, hv, _⟩ := hsp 0 h0 0 hz
      rw [hadd, hadd] at hv
      unfold World.cell? at hv
      rcases Nat.lt_or_ge b W.heap.size with h | h
      · exact h
      · rw [Array.getElem?_eq_none h] at hv; cases hv
    rw [hla]
    refine .vec (noG_owns b) hlt hl hrc.1 (fun i hi => ?_) fun i h h' => hrc.2 i h h'
    have hlc := len_flatten hzc
    simp only [List.length_map, hll] at hlc
    have hi' : i < len * P.cellsOf e := by omega
    obtain ⟨v, hv, hg⟩ := hsp (i / P.cellsOf e) (Nat.div_lt_of_lt_mul (by rw [Nat.mul_comm]; exact hi')) (i % P.cellsOf e) (Nat.mod_lt _ hz)
    have hdm : i / P.cellsOf e * P.cellsOf e + i % P.cellsOf e = i := by rw [Nat.mul_comm]; exact Nat.div_add_mod _ _
    rw [hdm] at hg
    rw [List.getElem?_eq_getElem hi] at hg
    rw [Option.some.inj hg, ← hv, hadd, hadd]
    congr 2
    omega
  · simp only [List.length_map] at h h'
    obtain ⟨_, _, y, hy, hφ⟩ := hQ i h
    simp only [List.getElem_map]
    rw [List.getElem?_eq_getElem h'] at hy
    rw [Option.some.inj hy]
    exact hφ

theorem drop_take_rows {α : Type} {z : Nat} : ∀ {n : Nat} {cs : List α}, cs.length = n * z → ((List.range n).map fun i => (cs.drop (i * z)).take z).flatten = cs := by
  intro n
  induction n with
  | zero => intro cs h; simp at h; subst h; rfl
  | succ n ih =>
    intro cs h
    have h1 : (cs.take (n * z)).length = n * z := by rw [List.length_take, h, Nat.succ_mul]; omega
    have := ih h1
    rw [List.range_succ, List.map_append, List.flatten_append]
    have e : ((List.range n).map fun i => (cs.drop (i * z)).take z) = (List.range n).map fun i => ((cs.take (n * z)).drop (i * z)).take z := by
      refine List.map_congr_left fun i hi => ?_
      have hi' := List.mem_range.1 hi
      rw [List.drop_take, List.take_take]
      congr 1
      have : i * z + z ≤ n * z := by rw [← Nat.succ_mul]; exact Nat.mul_le_mul_right _ hi'
      omega
    rw [e, this]
    simp only [List.map_cons, List.map_nil, List.flatten_cons, List.flatten_nil, List.append_nil]
    rw [List.take_of_length_le (l := cs.drop (n * z)) (by simp [h, Nat.succ_mul])]
    exact List.take_append_drop _ _

theorem opens_array {t e : TypeId} {n : Nat} {φ : DataW H → List AVal → Prop} (ht : P.underlying t = some (.array n e)) (hz : P.cellsOf t = n * P.cellsOf e) (he : Opens enc P W spare held e φ) :
    Opens enc P W spare held t fun d as => ∃ ds rows, d = .agg ds ∧ as = rows.flatten ∧ RowsOf φ ds rows ∧ rows.length = n ∧ ∀ i (h : i < rows.length), rows[i].length = P.cellsOf e := by
  intro fuel cs x h
  obtain ⟨xs, m, rfl, rfl, hcl, hxl, hel⟩ := DataW.trod_array ht h
  have hrow : ∀ i, i < n → ∃ as : List AVal, RelC P W as ((cs.drop (i * P.cellsOf e)).take (P.cellsOf e)) ∧ ∃ x, xs[i]? = some x ∧ φ x.1 as := by
    intro i hi
    have := hel i hi
    rw [List.getElem?_eq_getElem (by omega)] at this
    obtain ⟨as, ha, hφ⟩ := he _ _ _ this
    exact ⟨as, ha, _, List.getElem?_eq_getElem (by omega), hφ⟩
  obtain ⟨l, hll, hQ⟩ := exists_list n hrow
  refine ⟨l.flatten, ?_, _, l, rfl, rfl, ⟨by simp [hxl, hll], fun i h h' => ?_⟩, hll, fun i h => ?_⟩
  · rw [← drop_take_rows (n := n) (hcl.trans hz)]
    refine relC_rows (by simp [hll]) fun i h h' => ?_
    simp only [List.getElem_map, List.getElem_range]
    exact (hQ i h).1
  · obtain ⟨_, y, hy, hφ⟩ := hQ i h
    simp only [List.length_map] at h'
    simp only [List.getElem_map]
    rw [List.getElem?_eq_getElem h'] at hy
    rw [Option.some.inj hy]
    exact hφ
  · obtain ⟨hr, _⟩ := hQ i h
    rw [← hr.1, List.length_take, List.length_drop, hcl, hz]
    have : i * P.cellsOf e + P.cellsOf e ≤ n * P.cellsOf e := by rw [← Nat.succ_mul]; exact Nat.mul_le_mul_right _ (by omega)
    omega

theorem glob_of_laid {name : String} {d : DataW Unit} {g : Nat} {t : TypeId} {φ : DataW Unit → List AVal → Prop} {r : List (String × DataW Unit)} {ps : List MemPlace}
    (hg : P.globalNamed name = some g) (ht : (P.globals[g]?).map (·.type) = some t) (hop : Opens (fun _ => ()) P W (fun _ => true) false t φ)
    (h : DataW.LaidVars P W ((name, d) :: r) ps) : (∃ as, φ d as ∧ RelV P noG noH W (.vptr as 0) (.pointer (some ⟨g, 0, none⟩)) ∧ ∃ c e f, W.heap[g]? = some (.cells c e f) ∧ c.size = as.length) ∧ ∃ ps, DataW.LaidVars P W r ps := by
  obtain ⟨g', t', cs, fuel, p, q, h1, h2, h3, h4, h5, _⟩ := h
  rw [hg] at h1
  cases h1
  rw [ht] at h2
  cases h2
  obtain ⟨as, hr, hφ⟩ := hop _ _ _ h4
  refine ⟨⟨as, hφ, ?_, ?_⟩, _, h5⟩
  rotate_left
  · have h3' := h3
    unfold World.var? at h3'
    rw [hg] at h3'
    simp only [Option.bind_some] at h3'
    split at h3'
    · rename_i c e f hc
      cases h3'
      exact ⟨_, _, _, hc, by simpa using hr.1⟩
    · cases h3'
  have hcell := fun i => World.var?_cell hg h3 i
  have hlt : g < W.heap.size := by
    unfold World.var? at h3
    rw [hg] at h3
    simp only [Option.bind_some] at h3
    rcases Nat.lt_or_ge g W.heap.size with h | h
    · exact h
    · rw [Array.getElem?_eq_none h] at h3; cases h3
  have := RelV.vptr (P := P) (Γ := noG) (H := noH) (w := W) (cells := as) (off := 0) (b := g) (o := 0) (cs := cs.toList) (noG_owns g) hlt hr.1 (fun i hi => by
    rw [Nat.zero_add, hcell i]
    simp only [Array.length_toList] at hi
    simp [Array.getElem?_eq_getElem hi]) hr.2
  simpa using this
end Go.Hx
namespace Go.Hx
variable {P : Program} {G : Nat → Option (List AVal)} {H : AHeap}
theorem extractA_tup (l : List AVal) (i : Nat) : extractA (.tup l) i = l[i]? := rfl
theorem nilCheckA_vptr (cells : List AVal) (off : Nat) : nilCheckA H (.vptr cells off) = some (.vptr cells off) := rfl
theorem nilCheckA_ptr (id gen off : Nat) : nilCheckA H (.ptr id gen off) = (H.live id gen).map fun _ => .ptr id gen off := by
  simp only [nilCheckA]

theorem fieldAddrA_ptr (t : TypeId) (f : Nat) (id gen off : Nat) : fieldAddrA P H t f (.ptr id gen off) = (fieldA P t f).bind fun of => (H.live id gen).map fun _ => .ptr id gen (off + of.1) := rfl
theorem fieldAddrA_vptr (t : TypeId) (f : Nat) (cells : List AVal) (off : Nat) : fieldAddrA P H t f (.vptr cells off) = (fieldA P t f).bind fun of => some (.vptr cells (off + of.1)) := rfl

def OwnC (H : AHeap) (L : List Blk) (e : TypeId) (lo hi : Nat) (v : AVal) (cs : List AVal) : Prop :=
  (v = .lit (.slice none 0 0) ∧ cs = []) ∨ ∃ i g, lo ≤ i ∧ i < hi ∧ v = .own (H.next + i) g 0 cs.length 1 ∧ L[i]? = some (.arr g e cs)

theorem OwnC.nil {L : List Blk} {e : TypeId} {lo hi : Nat} : OwnC H L e lo hi (.lit (.slice none 0 0)) [] := .inl ⟨rfl, rfl⟩
theorem OwnC.keep {L L' : List Blk} {e : TypeId} {lo hi lo' hi' : Nat} {v : AVal} {cs : List AVal} (h : OwnC H L e lo hi v cs) (hl : lo' ≤ lo) (hh : hi ≤ hi') (hk : ∀ i g, lo ≤ i → i < hi → L[i]? = some (.arr g e cs) → L'[i]? = L[i]?) :
    OwnC H L' e lo' hi' v cs := by
  rcases h with h | ⟨i, g, h1, h2, h3, h4⟩
  · exact .inl h
  · exact .inr ⟨i, g, by omega, by omega, h3, by rw [hk i g h1 h2 h4]; exact h4⟩

theorem OwnC.fz {S : Nat → Prop} {L : List Blk} {e : TypeId} {lo hi : Nat} {v : AVal} {cs cs' : List AVal} {nx : Nat} (h : OwnC H L e lo hi v cs) (hS : ∀ i, S (H.next + i)) (hl : cs'.length = cs.length)
    (hc : ∀ i (h : i < cs.length) (h' : i < cs'.length), Fz S (ext H L) nx cs[i] cs'[i]) : Fz S (ext H L) nx v (.vec cs'.length cs') := by
  rcases h with ⟨rfl, rfl⟩ | ⟨i, g, _, _, rfl, h4⟩
  · obtain rfl := List.eq_nil_of_length_eq_zero hl
    exact .nil
  · rw [hl]
    have hi : i < L.length := by
      rcases Nat.lt_or_ge i L.length with h' | h'
      · exact h'
      · rw [List.getElem?_eq_none h'] at h4; cases h4
    refine .frz (hS i) (by rw [get_ext H L i hi]; exact h4) (by omega) fun j hj h2 h' => ?_
    simp only [Nat.zero_add] at h2 ⊢
    exact hc j h2 h'
end Go.Hx
namespace Go.Hx
variable {P : Program} {G : Nat → Option (List AVal)} {H : AHeap}

def convU (P : Program) (s d : TypeId) (x : Bool) (y : Option TypeDesc) (v : AVal) : Option AVal :=
  if x = true then (match y, v with
    | some (.int k'), .lit (.int _ a) => some (.lit (.int k' (k'.wrap a)))
    | _, _ => convA P s d v) else convA P s d v
theorem convA_U (s d : TypeId) (v : AVal) : convA P s d v = convU P s d (P.underlying s).isSome (P.underlying d) v := by
  unfold convU
  split
  · rename_i hs
    split
    · rename_i k' k a hd
      exact conv_int hs hd
    · rfl
  · rfl
theorem convU_int (s d : TypeId) (k k' : IntKind) (a : Int) : convU P s d true (some (.int k')) (.lit (.int k a)) = some (.lit (.int k' (k'.wrap a))) := rfl
def idxGU (P : Program) (d : Option TypeDesc) (cells : List AVal) (i : Int) : Option AVal := match d with
  | some (.array n e) => if 0 ≤ i ∧ i < (n : Int) then partA P e cells (i.toNat * P.cellsOf e) else none
  | _ => none
theorem indexA_agg (t : TypeId) (cells : List AVal) (k : IntKind) (i : Int) : indexA P t (.agg cells) (.lit (.int k i)) = idxGU P (P.underlying t) cells i := rfl
theorem idxGU_array (n : Nat) (e : TypeId) (cells : List AVal) (i : Int) : idxGU P (some (.array n e)) cells i = if 0 ≤ i ∧ i < (n : Int) then partA P e cells (i.toNat * P.cellsOf e) else none := rfl
theorem get_live {id g : Nat} {e : TypeId} {c : List AVal} (h : H.get id = some (.arr g e c)) : H.live id g = some (e, c) := by
  unfold AHeap.live; rw [h]; simp
theorem upd_next (a : Nat) (x : Blk) : (H.upd a x).next = H.next := rfl
def OwnN (H : AHeap) (L : List Blk) (e1 e0 : TypeId) (v : AVal) (rows : List (List AVal)) : Prop :=
  ∃ cs : List AVal, OwnC H L e1 0 L.length v cs ∧ cs.length = rows.length ∧ ∀ (j : Nat) (r : List AVal) (c : AVal), rows[j]? = some r → cs[j]? = some c → OwnC H L e0 0 L.length c r
theorem OwnN.nil {L : List Blk} {e1 e0 : TypeId} : OwnN H L e1 e0 (.lit (.slice none 0 0)) [] := ⟨[], .nil, rfl, fun j r c h => by simp at h⟩
theorem OwnC.lt {L : List Blk} {e : TypeId} {lo hi i g n z : Nat} {cs : List AVal} (h : OwnC H L e lo hi (.own (H.next + i) g 0 n z) cs) : i < L.length ∧ L[i]? = some (.arr g e cs) ∧ n = cs.length ∧ z = 1 := by
  rcases h with ⟨h, _⟩ | ⟨j, g2, _, _, h3, h4⟩
  · cases h
  · have := AVal.own.inj h3
    obtain rfl : i = j := by omega
    obtain ⟨_, rfl, _, rfl, rfl⟩ := this
    refine ⟨?_, h4, rfl, rfl⟩
    rcases Nat.lt_or_ge i L.length with h | h
    · exact h
    · rw [List.getElem?_eq_none h] at h4; cases h4
theorem OwnC.otherE {L L' : List Blk} {e e' : TypeId} {lo hi lo' hi' : Nat} {v u : AVal} {cs cs' : List AVal} (hv : OwnC H L e lo hi v cs) (hu : OwnC H L e' lo' hi' u cs') (hne : e ≠ e') (hh : hi' ≤ L.length)
    (hp : ∀ k, k < L.length → (∀ g n, v ≠ .own (H.next + k) g 0 n 1) → L'[k]? = L[k]?) : OwnC H L' e' lo' hi' u cs' := by
  refine hu.keep (Nat.le_refl _) (Nat.le_refl _) fun i g h1 h2 h3 => hp i (by omega) fun g' n he => ?_
  rcases hv with ⟨rfl, _⟩ | ⟨j, g2, _, _, rfl, h4⟩
  · cases he
  · have hj : j = i := by
      have := AVal.own.inj he
      omega
    subst hj
    rw [h3] at h4
    cases h4
    exact hne rfl
theorem OwnC.oneE {L : List Blk} {e : TypeId} {lo hi : Nat} {v : AVal} {cs : List AVal} (hv : OwnC H L e lo hi v cs) : v.one = true := by
  rcases hv with ⟨rfl, _⟩ | ⟨_, _, _, _, rfl, _⟩ <;> rfl
theorem OwnC.cellsE {L : List Blk} {e : TypeId} {lo hi : Nat} {v : AVal} {cs : List AVal} (hv : OwnC H L e lo hi v cs) : v.cells = [v] := by
  rcases hv with ⟨rfl, _⟩ | ⟨_, _, _, _, rfl, _⟩ <;> rfl
theorem OwnC.other {L L' : List Blk} {e e' : TypeId} {lo hi lo' hi' : Nat} {v u : AVal} {cs cs' : List AVal} (hv : OwnC H L e lo hi v cs) (hu : OwnC H L e' lo' hi' u cs') (hne : e ≠ e') (hh : hi' ≤ L.length)
    (hp : ∀ k, k < L.length → (∀ g n, v ≠ .own (H.next + k) g 0 n 1) → L'[k]? = L[k]?) : OwnC H L' e' lo' hi' u cs' := hv.otherE hu hne hh hp
theorem OwnC.one {L : List Blk} {e : TypeId} {lo hi : Nat} {v : AVal} {cs : List AVal} (hv : OwnC H L e lo hi v cs) : v.one = true := hv.oneE
theorem OwnC.cells {L : List Blk} {e : TypeId} {lo hi : Nat} {v : AVal} {cs : List AVal} (hv : OwnC H L e lo hi v cs) : v.cells = [v] := hv.cellsE
theorem OwnN.keep {L L' : List Blk} {e1 e0 : TypeId} {v : AVal} {rows : List (List AVal)} (h : OwnN H L e1 e0 v rows) (hl : L.length ≤ L'.length) (hk : ∀ i, i < L.length → L'[i]? = L[i]?) : OwnN H L' e1 e0 v rows := by
  obtain ⟨cs, c1, c2, c3⟩ := h
  exact ⟨cs, c1.keep (Nat.le_refl _) hl fun i _ _ hi _ => hk i hi, c2, fun j r c hr hc => (c3 j r c hr hc).keep (Nat.le_refl _) hl fun i _ _ hi _ => hk i hi⟩
theorem OwnN.fz {S : Nat → Prop} {L : List Blk} {e1 e0 : TypeId} {v : AVal} {rows rows' : List (List AVal)} {nx : Nat} (h : OwnN H L e1 e0 v rows) (hS : ∀ i, S (H.next + i)) (hl : rows'.length = rows.length)
    (hr : ∀ (j : Nat) (r r' : List AVal), rows[j]? = some r → rows'[j]? = some r' → r'.length = r.length ∧ ∀ i (h : i < r.length) (h' : i < r'.length), Fz S (ext H L) nx r[i] r'[i]) :
    Fz S (ext H L) nx v (.vec rows'.length (rows'.map fun r => .vec r.length r)) := by
  obtain ⟨cs, h1, h2, h3⟩ := h
  have := h1.fz (S := S) (nx := nx) (cs' := rows'.map fun r => .vec r.length r) hS (by simp [h2, hl]) fun i hi hi' => by
    simp only [List.getElem_map]
    have hi2 : i < rows.length := by omega
    have hi3 : i < rows'.length := by omega
    obtain ⟨a1, a2⟩ := hr i rows[i] rows'[i] (List.getElem?_eq_getElem hi2) (List.getElem?_eq_getElem hi3)
    exact (h3 i rows[i] cs[i] (List.getElem?_eq_getElem hi2) (List.getElem?_eq_getElem hi)).fz (S := S) (nx := nx) (cs' := rows'[i]) hS a1 a2
  rw [List.length_map] at this
  exact this
structure Over (H H2 : AHeap) : Prop where
  next : H.next ≤ H2.next
  old : ∀ id, id < H.next → H2.get id = H.get id
theorem Over.refl (H : AHeap) : Over H H := ⟨Nat.le_refl _, fun _ _ => rfl⟩
theorem Over.trans {H H2 H3 : AHeap} (a : Over H H2) (b : Over H2 H3) : Over H H3 :=
  ⟨Nat.le_trans a.next b.next, fun id h => (b.old id (Nat.lt_of_lt_of_le h a.next)).trans (a.old id h)⟩
theorem Over.ext (H : AHeap) (L : List Blk) : Over H (ext H L) := ⟨by simp [ext_next], fun id h => get_ext_old H L id h⟩
theorem fzH_over {H H2 : AHeap} (hc : Clo H) (ho : Over H H2) : FzH (fun id => H.next ≤ id) H2 H where
  gone id hs := by
    cases h : H.get id with
    | none => rfl
    | some b => have := hc.lt id b h; omega
  kept id b hs hb := by
    have hlt : id < H.next := Nat.lt_of_not_le hs
    rw [ho.old id hlt] at hb
    have hbb := hc.below id b hb
    refine ⟨hlt, b, hb, ?_⟩
    have hno : ∀ i, i < H.next → ¬ H.next ≤ i := fun i h => Nat.not_le_of_lt h
    cases b with
    | rsv => trivial
    | mp => rfl
    | arr g e cells => exact ⟨rfl, rfl, rfl, fun i h _ => .refl (hbb i h) hno⟩
    | loop st pend n env ps asg body => exact ⟨rfl, rfl, rfl, rfl, rfl, rfl, rfl, fun t ht => .refl (hbb t ht) hno⟩
  none id hs hb := by
    rw [ho.old id (Nat.lt_of_not_le hs)] at hb
    exact hb
theorem FinV.dropO {H2 : AHeap} (hG : GOk G) (hc : Clo H) (ho : Over H H2) {K : ARes → AHeap → Prop} {v v' : AVal} (hv : Fz (fun id => H.next ≤ id) H2 H.next v v') (hk : K (.ret v') H) : FinV P G H K v H2 :=
  ⟨v', H, .freeze hG (fzH_over hc ho) hv, Nat.le_refl _, hk⟩
theorem Fz.old {H H2 : AHeap} {nx : Nat} {v : AVal} (h : Below H.next v) (hn : H.next ≤ nx) : Fz (fun id => H.next ≤ id) H2 nx v v := by
  induction h with
  | lit v => exact .lit v
  | vec _ ih => exact .vec rfl fun i h _ => ih i h
  | vptr _ ih => exact .vptr rfl fun i h _ => ih i h
  | agg _ ih => exact .agg rfl fun i h _ => ih i h
  | tup _ ih => exact .tup rfl fun i h _ => ih i h
  | clo _ _ ih1 ih2 => exact .clo rfl rfl (fun i h _ => ih1 i h) fun i h _ => ih2 i h
  | own h => exact .own (by omega) (by omega)
  | ptr h => exact .ptr (by omega) (by omega)
  | yld h => exact .yld (by omega) (by omega)
theorem Fz.vecV {S : Nat → Prop} {H : AHeap} {nx : Nat} (rows : List (List Int)) : Fz S H nx (.vec rows.length (rows.map vecI)) (.vec rows.length (rows.map vecI)) :=
  .vec rfl fun i h _ => by simp only [List.getElem_map]; exact .keepInts _
theorem Fz.env {S : Nat → Prop} {H : AHeap} {nx : Nat} {args args' : List AVal} (hl : args'.length = args.length) (h : ∀ i (h : i < args.length) (h' : i < args'.length), Fz S H nx args[i] args'[i]) : ∀ t, Fz S H nx (envOf args t) (envOf args' t) := by
  intro t
  rw [envOf_app, envOf_app]
  by_cases ht : t < args.length
  · rw [List.getElem?_eq_getElem ht, List.getElem?_eq_getElem (by omega)]
    exact h t ht (by omega)
  · rw [List.getElem?_eq_none (by omega), List.getElem?_eq_none (by omega)]
    exact .lit _
end Go.Hx
namespace Go.Hx
open Go.ChangeShapes Go.WideShapes Go.RowKit
variable {P : Program} {W : World} {H : Type} {enc : TypeId × Value → H} {spare : Nat → Bool} {held : Bool}

theorem Opens.mono {t : TypeId} {φ ψ : DataW H → List AVal → Prop} (h : Opens enc P W spare held t φ) (hm : ∀ d as, φ d as → ψ d as) : Opens enc P W spare held t ψ := fun fuel cs x hx =>
  let ⟨as, h1, h2⟩ := h fuel cs x hx; ⟨as, h1, hm _ _ h2⟩

def intL (k : IntKind) (l : List Int) : List AVal := l.map fun n => .lit (.int k n)

theorem rows_each {α : Type} {φ : DataW H → List AVal → Prop} {f : α → List AVal} {q : α → Prop} (hφ : ∀ d as, φ d as → ∃ a, as = f a ∧ q a) : ∀ {rows : List (List AVal)} {ds : List (DataW H)}, RowsOf φ ds rows →
    ∃ l : List α, rows = l.map f ∧ ∀ a, a ∈ l → q a := by
  intro rows
  induction rows with
  | nil => intro ds _; exact ⟨[], rfl, fun a h => by cases h⟩
  | cons r rows ih =>
    intro ds h
    obtain ⟨h1, h2⟩ := h
    cases ds with
    | nil => simp at h1
    | cons d ds =>
      obtain ⟨a, ha, hq⟩ := hφ _ _ (h2 0 (by simp) (by simp))
      obtain ⟨l, hl, hq2⟩ := ih (ds := ds) ⟨by simpa using h1, fun i hi hi' => h2 (i + 1) (by simpa using hi) (by simpa using hi')⟩
      refine ⟨a :: l, by simp only [List.map_cons, ← hl]; simp only [List.getElem_cons_zero] at ha; rw [ha], fun b hb => ?_⟩
      rcases List.mem_cons.1 hb with rfl | hb
      · exact hq
      · exact hq2 b hb

theorem flatten_singles {α β : Type} (f : α → β) (l : List α) : (l.map fun a => [f a]).flatten = l.map f := by
  induction l with
  | nil => rfl
  | cons a l ih => simp only [List.map_cons, List.flatten_cons, ih]; rfl

theorem opens_ints {t e : TypeId} {k : IntKind} (ht : P.underlying t = some (.slice e)) (he : P.underlying e = some (.int k)) (hc : P.cellsOf e = 1) :
    Opens enc P W spare held t fun _ as => ∃ l : List Int, as = [.vec l.length (intL k l)] ∧ l.length ≤ maxLen ∧ ∀ c, c ∈ l → (Lit.int k c).wf = true :=
  (opens_slice ht (by omega) (opens_int he)).mono fun d as h => by
    rcases h with ⟨_, rfl⟩ | ⟨ds, rest, rows, _, rfl, hr, _, hl⟩
    · exact ⟨[], rfl, by decide, fun c h => by cases h⟩
    · obtain ⟨l, rfl, hq⟩ := rows_each (f := fun n => [AVal.lit (.int k n)]) (q := fun n => (Lit.int k n).wf = true) (fun d as ⟨n, _, h2, h3⟩ => ⟨n, h2, h3⟩) hr
      refine ⟨l, ?_, by simpa using hl, hq⟩
      rw [List.length_map]
      congr 2
      exact flatten_singles _ l

theorem arg_one {r : Reach} {b : Nat} {t : TypeId} {v : Value} {d : DataW H} {ps : List MemPlace} {φ : DataW H → List AVal → Prop} {ψ : AVal → Prop} (hop : Opens enc P W spare held t φ) (h1 : ∀ d as, φ d as → ∃ a, as = [a] ∧ ψ a)
    (hno : ∀ cs, ¬ Value.okWide P W r b t (.agg cs)) (hval : Value.okWide P W r b t v) (hd : DataW.Trod enc P W 0 spare held t v d ps) : ∃ a, RelV P noG noH W a v ∧ ψ a := by
  have hc : v.cells.toList = [v] := by
    cases v with
    | agg cs => exact absurd hval (hno cs)
    | _ => rfl
  obtain ⟨fuel, hf⟩ := hd
  rw [hc] at hf
  obtain ⟨as, hr, hφ⟩ := hop _ _ _ hf
  obtain ⟨a, rfl, hψ⟩ := h1 _ _ hφ
  exact ⟨a, hr.2 0 (by simp) (by simp), hψ⟩

theorem noAgg_int {r : Reach} {b : Nat} {t : TypeId} {k : IntKind} (ht : P.underlying t = some (.int k)) (cs : Array Value) : ¬ Value.okWide P W r b t (.agg cs) := fun h => by
  obtain ⟨n, hn⟩ := okWide_int ht h; cases hn
theorem noAgg_slice {r : Reach} {b : Nat} {t e : TypeId} (ht : P.underlying t = some (.slice e)) (cs : Array Value) : ¬ Value.okWide P W r b t (.agg cs) := fun h => by
  simp [Value.okWide, ht, Cell.okWide, Cell.ok] at h
theorem arg_int {r : Reach} {b : Nat} {t : TypeId} {k : IntKind} {v : Value} {d : DataW H} {ps : List MemPlace} (ht : P.underlying t = some (.int k)) (hval : Value.okWide P W r b t v) (hd : DataW.Trod enc P W 0 spare held t v d ps) :
    ∃ n, RelV P noG noH W (.lit (.int k n)) v ∧ (Lit.int k n).wf = true := by
  obtain ⟨a, h1, n, rfl, h2⟩ := arg_one (ψ := fun a => ∃ n, a = .lit (.int k n) ∧ (Lit.int k n).wf = true) (opens_int ht) (fun d as ⟨n, _, h2, h3⟩ => ⟨_, h2, n, rfl, h3⟩) (noAgg_int ht) hval hd
  exact ⟨n, h1, h2⟩
theorem arg_ints {r : Reach} {b : Nat} {t e : TypeId} {k : IntKind} {v : Value} {d : DataW H} {ps : List MemPlace} (ht : P.underlying t = some (.slice e)) (he : P.underlying e = some (.int k)) (hc : P.cellsOf e = 1)
    (hval : Value.okWide P W r b t v) (hd : DataW.Trod enc P W 0 spare held t v d ps) : ∃ l : List Int, RelV P noG noH W (.vec l.length (intL k l)) v ∧ l.length ≤ maxLen ∧ ∀ c, c ∈ l → (Lit.int k c).wf = true := by
  obtain ⟨a, h1, n, rfl, h2⟩ := arg_one (ψ := fun a => ∃ l : List Int, a = .vec l.length (intL k l) ∧ l.length ≤ maxLen ∧ ∀ c, c ∈ l → (Lit.int k c).wf = true) (opens_ints ht he hc) (fun d as ⟨n, h2, h3⟩ => ⟨_, h2, n, rfl, h3⟩) (noAgg_slice ht) hval hd
  exact ⟨n, h1, h2⟩
theorem wf_u8 {n : Int} (h : (Lit.int .u8 n).wf = true) : 0 ≤ n ∧ n ≤ 255 := by
  simpa [Lit.wf, IntKind.min, IntKind.max, IntKind.signed, IntKind.bits] using h
theorem rows_det {k : IntKind} : ∀ {l : List Int} {rows : List (List AVal)}, RowsOf (fun (d : DataW H) as => ∃ n, d = .lit (.int k n) ∧ as = [.lit (.int k n)] ∧ (Lit.int k n).wf = true) (l.map fun n => .lit (.int k n)) rows → rows.flatten = intL k l := by
  intro l
  induction l with
  | nil =>
    intro rows h
    have := h.1
    simp only [List.map_nil, List.length_nil] at this
    obtain rfl := List.eq_nil_of_length_eq_zero this.symm
    rfl
  | cons a l ih =>
    intro rows h
    obtain ⟨h1, h2⟩ := h
    cases rows with
    | nil => simp at h1
    | cons r rows =>
      obtain ⟨n, e1, e2, _⟩ := h2 0 (by simp) (by simp)
      simp only [List.map_cons, List.getElem_cons_zero, DataW.lit.injEq, Lit.int.injEq, true_and] at e1 e2
      subst e1
      have := ih (rows := rows) ⟨by simpa using h1, fun i hi hi' => h2 (i + 1) (by simpa using hi) (by simpa using hi')⟩
      simp only [List.flatten_cons, this, e2, intL, List.map_cons]
      rfl
theorem table_glob {name : String} {g : Nat} {t e : TypeId} {k : IntKind} {n : Nat} {l : List Int} {r : List (String × DataW Unit)} {ps : List MemPlace}
    (hg : P.globalNamed name = some g) (ht : (P.globals[g]?).map (·.type) = some t) (hu : P.underlying t = some (.array n e)) (he : P.underlying e = some (.int k)) (hz : P.cellsOf t = n * P.cellsOf e)
    (h : DataW.LaidVars P W ((name, .agg (l.map fun n => .lit (.int k n))) :: r) ps) : (RelV P noG noH W (.vptr (intL k l) 0) (.pointer (some ⟨g, 0, none⟩)) ∧ ∃ c e f, W.heap[g]? = some (.cells c e f) ∧ c.size = (intL k l).length) ∧ ∃ ps, DataW.LaidVars P W r ps := by
  obtain ⟨⟨as, ⟨ds, rows, e1, rfl, hr, _, _⟩, hR⟩, hrest⟩ := glob_of_laid hg ht (opens_array hu hz (opens_int he)) h
  cases e1
  rw [rows_det hr] at hR
  exact ⟨hR, hrest⟩
end Go.Hx
namespace Go.Hx
attribute [go_sem] List.replicate_one List.flatten_cons List.flatten_nil List.length_append List.append_nil Nat.sub_zero Bool.not_true Bool.not_false
attribute [go_sem] Bool.true_eq_false List.map_eq_nil_iff ints_nil Int.le_refl decide_true decide_false eq_self List.getElem?_map
attribute [go_sem] vc_skip vc_label vc_region vc_draw vc_seq vc_block vc_loop vc_rangeFunc
attribute [go_sem] vc_exit vc_scope vc_goto vc_ret vc_cond boolA_lit evA_tmp evA_const
attribute [go_sem] evA_func putA_app putA_none mask_app thenA_normal thenA_exit thenA_goto thenA_ret
attribute [go_sem] thenA_panic blockA_normal blockA_exit blockA_goto blockA_ret blockA_panic noGoto_normal noGoto_exit
attribute [go_sem] noGoto_ret noGoto_panic wpo_some wpo_none wpo_bind wpo_map wpo_ite Branch_true
attribute [go_sem] Branch_false opsV_nil opsV_plain opsV_guard' guardA_bool beq_true' beq_false'
attribute [go_sem] List.getElem?_toArray Option.bind_some opsD_nil opsD_plain opsD_guard opD_call opD_move opD_assign
attribute [go_sem] opD_pick opD_alloc opD_box opD_build opD_buildSlice opD_load opD_store opD_nilCheck
attribute [go_sem] opD_binOp opD_unOp opD_convert opD_makeInterface opD_makeFunc opD_makeSlice opD_slice opD_fieldAddr
attribute [go_sem] opD_field opD_indexAddr opD_index opD_extract opD_builtin lenA_U lenU_slice lenU_string
attribute [go_sem] lenU_array lenS_vec lenS_own lenS_nil lenStr_lit partA_U partU_int partU_bool
attribute [go_sem] partU_string partU_slice partU_pointer partU_struct partU_array setAt_zero setAt_succ List.set_cons_zero
attribute [go_sem] List.set_cons_succ loadA_vptr loadA_ptr storeA_ptr indexAddrV_U idxU_slice idxU_array idxS_vec
attribute [go_sem] idxS_own idxA_vptr idxA_ptr sliceA_U slU_slice slU_array slU_string slS_own
attribute [go_sem] slS_vec slS_nil slA_vptr slStr_lit boundA_none boundA_int sourceA_vec
attribute [go_sem] sourceA_own sourceA_nil appU_nil appU_own copyA_U cpyU_own makeSliceA_U
attribute [go_sem] mkU_slice zerosA_def flatten_one buildSliceA_U bsU_slice buildA_U buildU_struct buildU_array
attribute [go_sem] fillA_nil fillA_cons cells_int cells_bool cells_string cells_slice cells_agg cells_vec
attribute [go_sem] cells_own cells_ptr one_int one_bool one_string one_slice one_vec one_own
attribute [go_sem] one_ptr ints_get ints_length lin Int.toNat_natCast Int.natCast_nonneg vecI List.all_cons
attribute [go_sem] List.all_nil Bool.and_true Nat.mul_one idsV_lit idsV_vec idsV_vptr idsV_agg idsV_own
attribute [go_sem] idsV_ptr isOwn_own isOwn_lit isOwn_vec fpB_len
attribute [go_sem] lenIds_vec ApartA_nil ApartA_none ApartA_cons
attribute [go_sem] djF_mk addF_nil addF_eff addF_rs List.take_succ_cons List.take_zero
attribute [go_sem] List.take_nil List.drop_succ_cons List.drop_zero List.drop_nil List.forall_mem_cons List.not_mem_nil List.mem_cons List.mem_singleton
attribute [go_sem] or_false false_or or_true true_or not_or false_implies implies_true forall_const
attribute [go_sem] opV_call opV_panic opV_move opV_assign opV_pick opV_alloc opV_build
attribute [go_sem] opV_buildSlice opV_load opV_store opV_nilCheck opV_binOp nilK_none nilK_some sliceT_slice
attribute [go_sem] nilOf_lit nilOf_eql nilOf_neq eql_neq neq_neq Bool.false_eq_true opV_unOp opV_convert
attribute [go_sem] opV_makeFunc opV_makeSlice opV_slice opV_indexAddr opV_index
attribute [go_sem] opV_extract opV_builtin builtin_len builtin_append builtin_copy builtin_min bin_add
attribute [go_sem] bin_sub bin_mul bin_quo bin_rem bin_lss bin_leq bin_gtr bin_geq
attribute [go_sem] bin_eql bin_neq un_not ext_next lay_next lay_ext lay_ext' live_ext
attribute [go_sem] live_ext0 upd_ext upd_ext0 liveL_some List.map_cons List.map_nil if_true if_false
attribute [go_sem] ne_eq not_false_eq_true not_true_eq_false true_and and_true false_and and_false List.length_cons
attribute [go_sem] List.length_nil Nat.zero_add Nat.add_zero Option.isSome_some List.append_assoc List.cons_append List.nil_append Option.map_some
attribute [go_sem] Option.map_none RdIn envOf_app List.getElem?_cons_zero List.getElem?_cons_succ List.getElem?_nil Option.getD_some Option.getD_none
attribute [go_sem] bodyQ_ret bodyQ_normal resA_nil resA_tmp resA_cell resV_one resV_two resV_nil
attribute [go_sem] extractA_tup nilCheckA_vptr nilCheckA_ptr Int.natCast_zero Int.cast_ofNat_Int indexA_agg idxGU_array
attribute [go_sem] convH_lit convH_agg convA_U convU_int fieldAddrA_ptr fieldAddrA_vptr iv_int Nat.le_refl
end Go.Hx
namespace Go.Hx
variable {P : Program} {G : Nat → Option (List AVal)} {H H' : AHeap}

def AHeap.cut (H : AHeap) (n : Nat) : AHeap := ⟨fun j => if j < n then H.get j else none, H.next⟩
theorem cut_get {n id : Nat} (h : id < n) : (H.cut n).get id = H.get id := by simp [AHeap.cut, h]
theorem cut_none {n id : Nat} (h : n ≤ id) : (H.cut n).get id = none := by simp [AHeap.cut, Nat.not_lt.2 h]
theorem Over.cut {B : AHeap} (h : Over B H) : Over B (H.cut B.next) := ⟨h.next, fun id hi => (cut_get hi).trans (h.old id hi)⟩
open Classical in
theorem Fz.dead {S : Nat → Prop} {H : AHeap} {nx : Nat} {v : AVal} (h : Below nx v) : Fz S H nx v v := by
  induction h with
  | lit v => exact .lit v
  | vec _ ih => exact .vec rfl fun i h _ => ih i h
  | vptr _ ih => exact .vptr rfl fun i h _ => ih i h
  | agg _ ih => exact .agg rfl fun i h _ => ih i h
  | tup _ ih => exact .tup rfl fun i h _ => ih i h
  | clo _ _ ih1 ih2 => exact .clo rfl rfl (fun i h _ => ih1 i h) fun i h _ => ih2 i h
  | @own id _ _ _ _ h => by_cases hs : S id; exact .deadOwn h hs; exact .own h hs
  | @ptr id _ _ h => by_cases hs : S id; exact .deadPtr h hs; exact .ptr h hs
  | @yld id h => by_cases hs : S id; exact .deadYld h hs; exact .yld h hs
theorem fzH_cut (hc : Clo H) (n : Nat) : FzH (fun id => n ≤ id) H (H.cut n) where
  gone id hs := cut_none hs
  kept id b hs hb := by
    have hlt : id < n := Nat.lt_of_not_le hs
    have hbb := hc.below id b hb
    refine ⟨hc.lt id b hb, b, by rw [cut_get hlt]; exact hb, ?_⟩
    cases b with
    | rsv => trivial
    | mp => rfl
    | arr g e cells => exact ⟨rfl, rfl, rfl, fun i h _ => .dead (hbb i h)⟩
    | loop st pend n env ps asg body => exact ⟨rfl, rfl, rfl, rfl, rfl, rfl, rfl, fun t ht => .dead (hbb t ht)⟩
  none id hs hb := by rw [cut_get (Nat.lt_of_not_le hs)]; exact hb
def OwnG (lo : Nat) (H : AHeap) (e : TypeId) (v : AVal) (cs : List AVal) : Prop :=
  (v = .lit (.slice none 0 0) ∧ cs = []) ∨ ∃ id g, lo ≤ id ∧ id < H.next ∧ v = .own id g 0 cs.length 1 ∧ H.get id = some (.arr g e cs)
theorem OwnG.nil {lo : Nat} {e : TypeId} : OwnG lo H e (.lit (.slice none 0 0)) [] := .inl ⟨rfl, rfl⟩
theorem OwnG.keep {lo lo' : Nat} {e : TypeId} {v : AVal} {cs : List AVal} (h : OwnG lo H e v cs) (hl : lo' ≤ lo) (hn : H.next ≤ H'.next) (hk : ∀ id g, lo ≤ id → id < H.next → H.get id = some (.arr g e cs) → v = .own id g 0 cs.length 1 → H'.get id = H.get id) : OwnG lo' H' e v cs := by
  rcases h with h | ⟨id, g, h1, h2, h3, h4⟩
  · exact .inl h
  · exact .inr ⟨id, g, by omega, by omega, h3, by rw [hk id g h1 h2 h4 h3]; exact h4⟩
theorem OwnG.over {lo : Nat} {e : TypeId} {v : AVal} {cs : List AVal} (h : OwnG lo H e v cs) (ho : Over H H') : OwnG lo H' e v cs := h.keep (Nat.le_refl _) ho.next fun id _ _ h2 _ _ => ho.old id h2
theorem OwnG.one {lo : Nat} {e : TypeId} {v : AVal} {cs : List AVal} (h : OwnG lo H e v cs) : v.one = true := by
  rcases h with ⟨rfl, _⟩ | ⟨_, _, _, _, rfl, _⟩ <;> rfl
theorem OwnG.cells {lo : Nat} {e : TypeId} {v : AVal} {cs : List AVal} (h : OwnG lo H e v cs) : v.cells = [v] := by
  rcases h with ⟨rfl, _⟩ | ⟨_, _, _, _, rfl, _⟩ <;> rfl
theorem OwnG.fz {S : Nat → Prop} {lo nx : Nat} {e : TypeId} {v : AVal} {cs cs' : List AVal} (h : OwnG lo H e v cs) (hS : ∀ i, lo ≤ i → S i) (hl : cs'.length = cs.length)
    (hc : ∀ i (h : i < cs.length) (h' : i < cs'.length), Fz S H nx cs[i] cs'[i]) : Fz S H nx v (.vec cs'.length cs') := by
  rcases h with ⟨rfl, rfl⟩ | ⟨id, g, h1, _, rfl, h4⟩
  · obtain rfl := List.eq_nil_of_length_eq_zero hl
    exact .nil
  · rw [hl]
    refine .frz (hS id h1) h4 (by omega) fun j hj h2 h' => ?_
    simp only [Nat.zero_add] at h2 ⊢
    exact hc j h2 h'
theorem OwnG.fzI {S : Nat → Prop} {lo nx : Nat} {e : TypeId} {v : AVal} {l : List Int} (h : OwnG lo H e v (ints l)) (hS : ∀ i, lo ≤ i → S i) : Fz S H nx v (vecI l) := by
  have := h.fz (S := S) (nx := nx) (cs' := ints l) hS rfl fun i hi _ => by simp only [ints, List.getElem_map]; exact .lit _
  rw [ints_length] at this
  exact this
theorem OwnG.new {e : TypeId} {cs : List AVal} : OwnG H.next (ext H [.arr 0 e cs]) e (.own H.next 0 0 cs.length 1) cs :=
  .inr ⟨H.next, 0, Nat.le_refl _, by simp [ext_next], rfl, by simpa using get_ext H [.arr 0 e cs] 0 (by simp)⟩

theorem ext1_get_old {b : Blk} {id : Nat} (h : id < H.next) : (ext H [b]).get id = H.get id := get_ext_old H [b] id h
theorem ext1_get_new {b : Blk} : (ext H [b]).get H.next = some b := by simpa using get_ext H [b] 0 (by simp)
theorem lay_at {n : Nat} {b : Blk} (h : n = H.next) : H.lay n b = some (ext H [b]) := by subst h; exact lay_next H b

theorem app_oneG {t e : TypeId} {lo n : Nat} {v x : AVal} {cs : List AVal} {z : List AVal} (ht : P.underlying t = some (.slice e)) (hz : P.cellsOf e = 1) (hzero : zeroA P e = some z) (hx : x.one = true)
    (hb : (cs.length + 1) * P.bytesOf e ≤ 2 ^ 46 ∧ cs.length + 1 ≤ 2 ^ 46) (ho : OwnG lo H e v cs) (hlo : lo ≤ H.next) (hn : n = H.next + 1) :
    ∃ v' H', appendA P (ext H [.arr 0 e [x]]) n t t v (.own H.next 0 0 1 1) = some (v', H') ∧ OwnG lo H' e v' (cs ++ [x]) ∧ H.next ≤ H'.next ∧ (∀ k, k < H.next → (∀ g n, v ≠ .own k g 0 n 1) → H'.get k = H.get k) := by
  have hsrc : sourceA (ext H [.arr 0 e [x]]) 1 (.own H.next 0 0 1 1) = some (1, [x]) := by
    unfold sourceA
    have := get_live (H := ext H [.arr 0 e [x]]) (g := 0) (ext1_get_new (b := .arr 0 e [x]))
    simp [this]
  have hne : (ext H [Blk.arr 0 e [x]]).next = H.next + 1 := rfl
  rcases ho with ⟨rfl, rfl⟩ | ⟨i, g, h1, h2, rfl, h4⟩
  · refine ⟨.own (H.next + 1) 0 0 1 1, ext (ext H [.arr 0 e [x]]) [.arr 0 e [x]], ?_, .inr ⟨H.next + 1, 0, by omega, by simp [ext_next], by simp, ?_⟩, by simp [ext_next]; omega, fun k hk _ => ?_⟩
    · unfold appendA; rw [ht]
      simp only [hzero, hz, Option.bind_some, hsrc]
      rw [if_neg (by decide), if_pos (by simpa using hb), lay_at (by rw [hn, hne]), hn]
      rfl
    · rw [← hne]; exact ext1_get_new
    · rw [ext1_get_old (by rw [hne]; omega), ext1_get_old hk]
  · have h4' : (ext H [.arr 0 e [x]]).get i = some (.arr g e cs) := by rw [ext1_get_old h2]; exact h4
    refine ⟨.own i (g + 1) 0 (cs.length + 1) 1, (ext H [.arr 0 e [x]]).upd i (.arr (g + 1) e (cs ++ [x])), ?_, .inr ⟨i, g + 1, h1, by rw [upd_next, hne]; omega, by simp, by rw [upd_get, if_pos rfl]⟩, by rw [upd_next, hne]; omega, fun k hk hne => ?_⟩
    · unfold appendA; rw [ht]
      have hl := get_live h4'
      simp only [hzero, hz, Option.bind_some, hsrc, hl]
      rw [if_pos ⟨trivial, trivial, by omega, hb.1, hb.2, by simp [hx]⟩]
      simp
    · rw [upd_get, if_neg, ext1_get_old hk]
      rintro rfl; exact hne _ _ rfl

def OwnG2 (lo : Nat) (H : AHeap) (e1 e0 : TypeId) (v : AVal) (rows : List (List AVal)) : Prop :=
  ∃ cs : List AVal, OwnG lo H e1 v cs ∧ cs.length = rows.length ∧ ∀ (j : Nat) (r : List AVal) (c : AVal), rows[j]? = some r → cs[j]? = some c → OwnG lo H e0 c r
theorem OwnG2.nil {lo : Nat} {e1 e0 : TypeId} : OwnG2 lo H e1 e0 (.lit (.slice none 0 0)) [] := ⟨[], .nil, rfl, fun j r c h => by simp at h⟩
theorem OwnG2.over {lo : Nat} {e1 e0 : TypeId} {v : AVal} {rows : List (List AVal)} (h : OwnG2 lo H e1 e0 v rows) (ho : Over H H') : OwnG2 lo H' e1 e0 v rows := by
  obtain ⟨cs, c1, c2, c3⟩ := h
  exact ⟨cs, c1.over ho, c2, fun j r c hr hc => (c3 j r c hr hc).over ho⟩
theorem OwnG2.fz {S : Nat → Prop} {lo nx : Nat} {e1 e0 : TypeId} {v : AVal} {rows rows' : List (List AVal)} (h : OwnG2 lo H e1 e0 v rows) (hS : ∀ i, lo ≤ i → S i) (hl : rows'.length = rows.length)
    (hr : ∀ (j : Nat) (r r' : List AVal), rows[j]? = some r → rows'[j]? = some r' → r'.length = r.length ∧ ∀ i (h : i < r.length) (h' : i < r'.length), Fz S H nx r[i] r'[i]) :
    Fz S H nx v (.vec rows'.length (rows'.map fun r => .vec r.length r)) := by
  obtain ⟨cs, h1, h2, h3⟩ := h
  have := h1.fz (S := S) (nx := nx) (cs' := rows'.map fun r => .vec r.length r) hS (by simp [h2, hl]) fun i hi hi' => by
    simp only [List.getElem_map]
    have hi2 : i < rows.length := by omega
    have hi3 : i < rows'.length := by omega
    obtain ⟨a1, a2⟩ := hr i rows[i] rows'[i] (List.getElem?_eq_getElem hi2) (List.getElem?_eq_getElem hi3)
    exact (h3 i rows[i] cs[i] (List.getElem?_eq_getElem hi2) (List.getElem?_eq_getElem hi)).fz (S := S) (nx := nx) (cs' := rows'[i]) hS a1 a2
  rw [List.length_map] at this
  exact this
attribute [go_sem] Int.reduceToNat Int.reduceLE Int.reduceLT Int.reduceAdd Int.reduceSub Int.reduceMul Int.reduceEq Int.reduceNe Nat.reduceEqDiff Nat.reducePow Nat.reduceDiv Nat.reduceMod Nat.reduceAdd Nat.reduceMul Nat.reduceSub Nat.reduceLT Nat.reduceLeDiff reduceIte reduceCtorEq
end Go.Hx
