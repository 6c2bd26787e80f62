/-
  Networks and diagrams as plain data, and as abstract values. Plain: no program stands in this text. No conditions.
-/
import Derived.Test.YtikgmgmphkalkaaDoorLibE
import Derived.Test.YtikgmgmphkalkaaDoorConA
import Derived.Test.YtikgmgmphkalkaaDoorLibC
set_option linter.all false
namespace Go.Proofs
open Go.Hx

def vecV (l : List (List Int)) : AVal := .vec l.length (l.map vecI)
structure NodeP where
  card : Int
  parents : List Int
  rows : List (List Int)
structure UtilP where
  vars : List Int
  w : List Int
def NodeP.cells (x : NodeP) : List AVal := [lin x.card, vecI x.parents, vecV x.rows]
def UtilP.cells (x : UtilP) : List AVal := [vecI x.vars, vecI x.w]
def nodesC (l : List NodeP) : List AVal := (l.map NodeP.cells).flatten
def utilsC (l : List UtilP) : List AVal := (l.map UtilP.cells).flatten
def nodesV (l : List NodeP) : AVal := .vec l.length (nodesC l)
def utilsV (l : List UtilP) : AVal := .vec l.length (utilsC l)
structure InfP where
  grain : Int
  nodes : List NodeP
  decs : Nat
  utils : List UtilP
theorem get_lt {α : Type} {l : List α} {i : Nat} {x : α} (h : l[i]? = some x) : i < l.length := by
  rcases Nat.lt_or_ge i l.length with h' | h'
  · exact h'
  · rw [List.getElem?_eq_none h'] at h; cases h
theorem get_of_lt {α : Type} {l : List α} {i : Nat} (h : i < l.length) : ∃ x, l[i]? = some x := ⟨_, List.getElem?_eq_getElem h⟩
def prodL (l : List Int) : Int := l.foldl (· * ·) 1
theorem take_succ_get {α : Type} {l : List α} {k : Nat} {x : α} (h : l[k]? = some x) : l.take (k + 1) = l.take k ++ [x] := by
  rw [List.take_add_one, h]; rfl
def cardsL (l : List NodeP) : List Int := l.map (·.card)
def atL (l places : List Int) : List Int := places.map fun p => l.getD p.toNat 0
def PlacesOk (places : List Int) (n : Int) : Prop := places.Pairwise (· < ·) ∧ ∀ p ∈ places, 0 ≤ p ∧ p < n
end Go.Proofs
set_option maxRecDepth 100000
namespace Go.Proofs
open Go.Hx
def primesL : List Int := [2, 3, 5, 7, 11, 13, 17, 19, 23, 29, 31, 37, 41, 43, 47, 53, 59, 61]
def G0 : Nat → Option (List AVal) := fun g => if g = 0 then some (ints primesL) else none
theorem G0_ok : GOk G0 := fun g cells h => by
  unfold G0 at h
  split at h
  · cases h
    refine .vptr fun i hi => ?_
    simp only [ints, List.getElem_map]
    exact .lit _
  · cases h
end Go.Proofs
namespace Go.Hx
variable {P : Program} {G : Nat → Option (List AVal)} {Γ Γ' : Gam} {H H' : AHeap} {w w' : World}
theorem W.env {n : Nat} {rd : Option Nat} {Q : AX → St → Prop} {c : Code} {ρ : Env} {H : AHeap} (h : ∀ E, E = ρ → W P G n rd c Q ⟨E, H⟩) : W P G n rd c Q ⟨ρ, H⟩ := h ρ rfl
theorem Below.mono {n m : Nat} {v : AVal} (h : Below n v) (hm : n ≤ m) : Below m v := by
  induction h with
  | lit v => exact .lit v
  | vec h ih => exact .vec ih
  | vptr h ih => exact .vptr ih
  | agg h ih => exact .agg ih
  | tup h ih => exact .tup ih
  | clo h1 h2 ih1 ih2 => exact .clo ih1 ih2
  | own h => exact .own (by omega)
  | ptr h => exact .ptr (by omega)
  | yld h => exact .yld (by omega)
theorem setAt_one {l : List AVal} {i : Nat} {x : AVal} (h : i < l.length) : setAt l i [x] = l.set i x := by
  unfold setAt
  rw [List.set_eq_take_append_cons_drop, if_pos h]
  simp
section
variable {t : TypeId} {x y : Operand} {k k' : IntKind} {a b : Int}
theorem bin_shr (hb : 0 ≤ b) : binA P .shr t x y (.lit (.int k a)) (.lit (.int k' b)) = some (.lit (.int k (a.fdiv (2 ^ (min b.toNat k.bits))))) := by
  have h : ¬ b < 0 := by omega
  simp [binA, AVal.toVal, eqGuard, binOp, Op.shift, h, pureRun, bind, Sem.bind, pure]
theorem bin_shl (hb : 0 ≤ b) : binA P .shl t x y (.lit (.int k a)) (.lit (.int k' b)) = some (.lit (.int k (k.wrap (a * 2 ^ (min b.toNat k.bits))))) := by
  have h : ¬ b < 0 := by omega
  simp [binA, AVal.toVal, eqGuard, binOp, Op.shift, h, pureRun, bind, Sem.bind, pure]
theorem bin_and : binA P .and t x y (.lit (.int k a)) (.lit (.int k b)) = some (.lit (.int k (k.wrap ((BitVec.ofInt k.bits a &&& BitVec.ofInt k.bits b).toNat : Nat)))) := by
  simp [binA, AVal.toVal, eqGuard, binOp, Op.intBits, pureRun, bind, Sem.bind, pure]
theorem bin_xor : binA P .xor t x y (.lit (.int k a)) (.lit (.int k b)) = some (.lit (.int k (k.wrap ((BitVec.ofInt k.bits a ^^^ BitVec.ofInt k.bits b).toNat : Nat)))) := by
  simp [binA, AVal.toVal, eqGuard, binOp, Op.intBits, pureRun, bind, Sem.bind, pure]
end
end Go.Hx
namespace Go.Proofs
open Go.Hx
theorem get_ext0 (H : AHeap) (b : Blk) (L : List Blk) : (ext H (b :: L)).get H.next = some b := get_ext H (b :: L) 0 (by simp)
theorem ne_of_get {α : Type} {l : List α} {i : Nat} {a : α} (h : l[i]? = some a) : ¬ l = [] := by rintro rfl; simp at h
theorem setAt_ints {l : List Int} {i : Nat} {x : Int} (h : i < l.length) : setAt (ints l) i [.lit (.int .i64 x)] = ints (l.set i x) := by
  rw [setAt_one (by simpa [ints] using h)]
  simp [ints, lin]
theorem guardA_undef (w : Bool) : guardA w (some (.lit undef)) = some false := rfl
end Go.Proofs
namespace Go.Proofs

def before (r : Nat → Int) (i j : Nat) : Prop := r j < r i ∨ (r i = r j ∧ i < j)
theorem before_asymm {r : Nat → Int} {i j : Nat} (h : before r i j) : ¬ before r j i := fun k => by unfold before at *; omega
theorem before_tri {r : Nat → Int} {i j : Nat} (h : i ≠ j) : before r i j ∨ before r j i := by unfold before; omega
structure Top (r : Nat → Int) (n k : Nat) (M : Nat → Bool) : Prop where
  count : (List.range n).countP M = k
  first : ∀ i j, i < n → j < n → M i = true → M j = false → before r i j

theorem countP_lt_of {l : List Nat} {p q : Nat → Bool} (h : ∀ x ∈ l, p x = true → q x = true) {a : Nat} (ha : a ∈ l) (hp : p a = false) (hq : q a = true) : l.countP p < l.countP q := by
  induction l with
  | nil => cases ha
  | cons x l ih =>
    have hm : l.countP p ≤ l.countP q := List.countP_mono_left fun y hy => h y (by simp [hy])
    rcases List.mem_cons.1 ha with rfl | ha
    · rw [List.countP_cons, List.countP_cons, hp, hq]
      simp
      omega
    · have := ih (fun y hy => h y (by simp [hy])) ha
      have hx := h x (by simp)
      rw [List.countP_cons, List.countP_cons]
      cases hpx : p x
      · simp; omega
      · rw [hx hpx]; simp; omega

theorem Top.unique {r : Nat → Int} {n k : Nat} {M M' : Nat → Bool} (h : Top r n k M) (h' : Top r n k M') : ∀ i, i < n → M i = M' i := by
  have key : ∀ {M M' : Nat → Bool}, Top r n k M → Top r n k M' → ∀ i, i < n → M i = true → M' i = true := by
    intro M M' h h' i hi hm
    rcases Bool.eq_false_or_eq_true (M' i) with e | e
    · exact e
    -- some place of M' is not in M
    have : ∃ j, j < n ∧ M' j = true ∧ M j = false := by
      refine Classical.byContradiction fun hno => ?_
      have hsub : ∀ x ∈ List.range n, M' x = true → M x = true := fun x hx hx' => by
        rcases Bool.eq_false_or_eq_true (M x) with e | e
        · exact e
        · exact absurd ⟨x, List.mem_range.1 hx, hx', e⟩ hno
      have := countP_lt_of hsub (List.mem_range.2 hi) e hm
      rw [h.count, h'.count] at this
      omega
    obtain ⟨j, hj, a, b⟩ := this
    exact absurd (h'.first j i hj hi a e) (before_asymm (h.first i j hi hj hm b))
  intro i hi
  have a := key h h' i hi
  have b := key h' h i hi
  cases h1 : M i <;> cases h2 : M' i <;> simp_all

theorem Top.zero {r : Nat → Int} {n : Nat} : Top r n 0 (fun _ => false) := ⟨by simp, fun _ _ _ _ h => by cases h⟩
theorem Top.step {r : Nat → Int} {n k b : Nat} {M : Nat → Bool} (h : Top r n k M) (hb : b < n) (hm : M b = false) (hmin : ∀ j, j < n → M j = false → j ≠ b → before r b j) :
    Top r n (k + 1) (fun i => decide (i = b) || M i) where
  count := by
    have : ∀ l : List Nat, l.Nodup → b ∈ l → l.countP (fun i => decide (i = b) || M i) = l.countP M + 1 := by
      intro l
      induction l with
      | nil => intro _ h; cases h
      | cons x l ih =>
        intro hnd hmem
        obtain ⟨h1, h2⟩ := List.nodup_cons.1 hnd
        rw [List.countP_cons, List.countP_cons]
        rcases List.mem_cons.1 hmem with rfl | hmem
        · have : l.countP (fun i => decide (i = b) || M i) = l.countP M := List.countP_congr fun y hy => by
            have : y ≠ b := by rintro rfl; exact h1 hy
            simp [this]
          rw [this]; simp [hm]
        · have hx : x ≠ b := by rintro rfl; exact h1 hmem
          rw [ih h2 hmem]; simp [hx]; omega
    rw [this _ List.nodup_range (List.mem_range.2 hb), h.count]
  first i j hi hj h1 h2 := by
    simp only [Bool.or_eq_true, decide_eq_true_eq, Bool.or_eq_false_iff, decide_eq_false_iff_not] at h1 h2
    rcases h1 with rfl | h1
    · exact hmin j hj h2.2 h2.1
    · exact h.first i j hi hj h1 h2.2

theorem Top.sorted {r : Nat → Int} {n k : Nat} {l : List Nat} (hp : l.Perm (List.range n)) (hs : l.Pairwise (before r)) (hk : k ≤ n) : Top r n k (fun i => decide (i ∈ l.take k)) where
  count := by
    rw [← hp.countP_eq]
    have hnd : l.Nodup := hp.nodup_iff.2 List.nodup_range
    have hl : l.length = n := by simpa using hp.length_eq
    conv => lhs; rw [← List.take_append_drop k l]
    rw [List.countP_append]
    have e1 : (l.take k).countP (fun i => decide (i ∈ (List.take k l ++ List.drop k l).take k)) = k := by
      have : (l.take k).length = k := by simp; omega
      conv => rhs; rw [← this]
      rw [List.countP_eq_length]
      intro x hx
      simpa using hx
    have e2 : (l.drop k).countP (fun i => decide (i ∈ (List.take k l ++ List.drop k l).take k)) = 0 := by
      rw [List.countP_eq_zero]
      intro x hx
      rw [List.take_append_drop]
      simp only [decide_eq_true_eq]
      intro hx2
      have := (List.take_append_drop k l) ▸ hnd
      rw [List.nodup_append] at this
      exact this.2.2 x hx2 x hx rfl
    rw [e1, e2]; rfl
  first i j hi hj h1 h2 := by
    simp only [decide_eq_true_eq, decide_eq_false_iff_not] at h1 h2
    have hjl : j ∈ l := hp.mem_iff.2 (List.mem_range.2 hj)
    rw [← List.take_append_drop k l] at hjl hs
    rcases List.mem_append.1 hjl with h | h
    · exact absurd h h2
    · exact (List.pairwise_append.1 hs).2.2 i h1 j h

def effC (c : List Int) : List Int := if 0 < c.sum then c else List.replicate c.length 1
def effT (c : List Int) : Int := if 0 < c.sum then c.sum else c.length
def partAt (sp : Int) (c : List Int) (i : Nat) : Int := sp * (effC c).getD i 0 / effT c
def restAt (sp : Int) (c : List Int) (i : Nat) : Int := sp * (effC c).getD i 0 % effT c
def spareOf (grain least : Int) (c : List Int) : Int := grain - least * c.length
def leftOf (sp : Int) (c : List Int) : Int := sp - ((List.range c.length).map (partAt sp c)).sum

theorem effC_len (c : List Int) : (effC c).length = c.length := by unfold effC; split <;> simp
theorem effC_sum (c : List Int) : (effC c).sum = effT c := by
  unfold effC effT; split
  · rfl
  · simp
theorem effC_nonneg {c : List Int} (h : ∀ x ∈ c, 0 ≤ x) : ∀ x ∈ effC c, 0 ≤ x := by
  unfold effC; split
  · exact h
  · intro x hx; rw [List.mem_replicate] at hx; omega
theorem effT_pos {c : List Int} (h : 0 < c.length) : 0 < effT c := by unfold effT; split <;> omega
theorem sum_getD : ∀ (l : List Int), ((List.range l.length).map fun i => l.getD i 0).sum = l.sum := by
  intro l
  have : ((List.range l.length).map fun i => l.getD i 0) = l := by
    apply List.ext_getElem
    · simp
    · intro i h1 h2; simp at h1 ⊢; simp [h1]
  rw [this]
theorem sum_map_add' (l : List Nat) (f g : Nat → Int) : (l.map fun i => f i + g i).sum = (l.map f).sum + (l.map g).sum := by
  induction l with
  | nil => rfl
  | cons x l ih => simp only [List.map_cons, List.sum_cons, ih]; omega
theorem sum_map_mul' (l : List Nat) (k : Int) (f : Nat → Int) : (l.map fun i => k * f i).sum = k * (l.map f).sum := by
  induction l with
  | nil => simp
  | cons x l ih => simp only [List.map_cons, List.sum_cons, ih]; rw [Int.mul_add]
theorem sum_le_const {l : List Nat} {f : Nat → Int} {b : Int} (h : ∀ i ∈ l, f i ≤ b) : (l.map f).sum ≤ b * l.length := by
  induction l with
  | nil => simp
  | cons x l ih =>
    have h1 := ih fun i hi => h i (by simp [hi])
    have h2 := h x (by simp)
    simp only [List.map_cons, List.sum_cons, List.length_cons]
    have : b * ((l.length + 1 : Nat) : Int) = b * l.length + b := by push_cast; rw [Int.mul_add]; simp
    omega
theorem sum_nonneg' {l : List Nat} {f : Nat → Int} (h : ∀ i ∈ l, 0 ≤ f i) : 0 ≤ (l.map f).sum := by
  induction l with
  | nil => simp
  | cons x l ih =>
    have h1 := ih fun i hi => h i (by simp [hi])
    have h2 := h x (by simp)
    simp only [List.map_cons, List.sum_cons]; omega

theorem rest_bound {sp : Int} {c : List Int} (h : 0 < c.length) (i : Nat) : 0 ≤ restAt sp c i ∧ restAt sp c i < effT c :=
  ⟨Int.emod_nonneg _ (by have := effT_pos h; omega), Int.emod_lt_of_pos _ (effT_pos h)⟩
theorem left_mul {sp : Int} {c : List Int} (h : 0 < c.length) : leftOf sp c * effT c = ((List.range c.length).map (restAt sp c)).sum := by
  have e : ∀ i, sp * (effC c).getD i 0 = effT c * partAt sp c i + restAt sp c i := fun i => by
    unfold partAt restAt
    exact (Int.mul_ediv_add_emod _ _).symm
  have h1 : ((List.range c.length).map fun i => sp * (effC c).getD i 0).sum = sp * effT c := by
    rw [sum_map_mul', ← effC_len c, sum_getD, effC_sum]
  have h2 : ((List.range c.length).map fun i => sp * (effC c).getD i 0).sum = effT c * ((List.range c.length).map (partAt sp c)).sum + ((List.range c.length).map (restAt sp c)).sum := by
    rw [← sum_map_mul', ← sum_map_add']
    congr 1
    exact List.map_congr_left fun i _ => e i
  unfold leftOf
  rw [Int.sub_mul, ← h1, h2, Int.mul_comm (effT c)]
  omega
theorem left_bound {sp : Int} {c : List Int} (h : 0 < c.length) : 0 ≤ leftOf sp c ∧ leftOf sp c < c.length := by
  have hT := effT_pos h
  have e := left_mul (sp := sp) h
  have h0 : 0 ≤ ((List.range c.length).map (restAt sp c)).sum := sum_nonneg' fun i _ => (rest_bound h i).1
  have h1 : ((List.range c.length).map (restAt sp c)).sum ≤ (effT c - 1) * (List.range c.length).length := sum_le_const fun i _ => by have := (rest_bound (sp := sp) h i).2; omega
  rw [← e] at h0 h1
  simp only [List.length_range] at h1
  constructor
  · exact Classical.byContradiction fun hn => by
      have : leftOf sp c * effT c < 0 := Int.mul_neg_of_neg_of_pos (by omega) hT
      omega
  · exact Classical.byContradiction fun hn => by
      have h3 : (c.length : Int) * effT c ≤ leftOf sp c * effT c := Int.mul_le_mul_of_nonneg_right (by omega) (by omega)
      have h4 : (effT c - 1) * (c.length : Int) = c.length * effT c - c.length := by rw [Int.sub_mul, Int.mul_comm]; omega
      omega

def sharesM (least sp : Int) (c : List Int) (M : Nat → Bool) : List Int := (List.range c.length).map fun i => least + partAt sp c i + if M i then 1 else 0
def ShareOk (least sp : Int) (c s : List Int) : Prop := ∃ M, Top (restAt sp c) c.length (leftOf sp c).toNat M ∧ s = sharesM least sp c M
theorem ShareOk.unique {least sp : Int} {c s s' : List Int} (h : ShareOk least sp c s) (h' : ShareOk least sp c s') : s = s' := by
  obtain ⟨M, h1, rfl⟩ := h
  obtain ⟨M', h2, rfl⟩ := h'
  unfold sharesM
  apply List.map_congr_left
  intro i hi
  rw [h1.unique h2 i (List.mem_range.1 hi)]

end Go.Proofs
namespace Go.Proofs

def sumR (n : Nat) (f : Nat → Int) : Int := ((List.range n).map f).sum
theorem sumR_add (n : Nat) (f g : Nat → Int) : sumR n (fun i => f i + g i) = sumR n f + sumR n g := sum_map_add' _ _ _
theorem sumR_mul (n : Nat) (k : Int) (f : Nat → Int) : sumR n (fun i => k * f i) = k * sumR n f := sum_map_mul' _ _ _
theorem sumR_congr {n : Nat} {f g : Nat → Int} (h : ∀ i, i < n → f i = g i) : sumR n f = sumR n g := by
  unfold sumR; rw [List.map_congr_left fun i hi => h i (List.mem_range.1 hi)]
theorem sum_map_le {l : List Nat} {f g : Nat → Int} (h : ∀ i ∈ l, f i ≤ g i) : (l.map f).sum ≤ (l.map g).sum := by
  induction l with
  | nil => simp
  | cons x l ih =>
    have h1 := ih fun i hi => h i (by simp [hi])
    have h2 := h x (by simp)
    simp only [List.map_cons, List.sum_cons]; omega
theorem sumR_le {n : Nat} {f g : Nat → Int} (h : ∀ i, i < n → f i ≤ g i) : sumR n f ≤ sumR n g := sum_map_le fun i hi => h i (List.mem_range.1 hi)
theorem count_sum (l : List Nat) (p : Nat → Bool) : ((l.countP p : Nat) : Int) = (l.map fun i => if p i then (1 : Int) else 0).sum := by
  induction l with
  | nil => rfl
  | cons x l ih =>
    rw [List.countP_cons]
    cases h : p x
    · simp [ih, h]
    · simp [ih, h]; omega

theorem threshold (l : List Nat) (p : Nat → Bool) (g : Nat → Int) : ∃ θ : Int, 0 ≤ θ ∧ (∀ i ∈ l, p i = true → g i ≤ θ) ∧ (θ = 0 ∨ ∃ i ∈ l, p i = true ∧ θ = g i) := by
  induction l with
  | nil => exact ⟨0, by omega, fun i h => (by cases h), .inl rfl⟩
  | cons x l ih =>
    obtain ⟨θ, h0, h1, h2⟩ := ih
    by_cases hx : p x = true ∧ θ < g x
    · refine ⟨g x, by omega, fun i hi hp => ?_, .inr ⟨x, by simp, hx.1, rfl⟩⟩
      rcases List.mem_cons.1 hi with rfl | hi
      · exact Int.le_refl _
      · have := h1 i hi hp; omega
    · refine ⟨θ, h0, fun i hi hp => ?_, ?_⟩
      · rcases List.mem_cons.1 hi with rfl | hi
        · exact Classical.byContradiction fun hn => hx ⟨hp, by omega⟩
        · exact h1 i hi hp
      · rcases h2 with h2 | ⟨i, hi, hp, he⟩
        · exact .inl h2
        · exact .inr ⟨i, by simp [hi], hp, he⟩

theorem least_sum {n : Nat} {M N : Nat → Bool} {g : Nat → Int} (hg : ∀ i, i < n → 0 ≤ g i) (hM : ∀ i j, i < n → j < n → M i = true → M j = false → g i ≤ g j) (hc : (List.range n).countP M ≤ (List.range n).countP N) :
    sumR n (fun i => if M i then g i else 0) ≤ sumR n (fun i => if N i then g i else 0) := by
  obtain ⟨θ, h0, h1, h2⟩ := threshold (List.range n) M g
  have h3 : ∀ j, j < n → M j = false → θ ≤ g j := fun j hj hm => by
    rcases h2 with rfl | ⟨i, hi, hp, rfl⟩
    · exact hg j hj
    · exact hM i j (List.mem_range.1 hi) hj hp hm
  have hpt : sumR n (fun i => (if M i then g i else 0) + θ * (if N i then 1 else 0)) ≤ sumR n (fun i => (if N i then g i else 0) + θ * (if M i then 1 else 0)) := by
    refine sumR_le fun i hi => ?_
    have a := h1 i (List.mem_range.2 hi)
    have b := h3 i hi
    cases hm : M i <;> cases hn : N i
    · simp
    · simp; exact b hm
    · simp; exact a hm
    · simp
  rw [sumR_add, sumR_add, sumR_mul, sumR_mul] at hpt
  have e1 : sumR n (fun i => if M i then (1 : Int) else 0) = ((List.range n).countP M : Nat) := (count_sum _ _).symm
  have e2 : sumR n (fun i => if N i then (1 : Int) else 0) = ((List.range n).countP N : Nat) := (count_sum _ _).symm
  rw [e1, e2] at hpt
  have h4 : θ * ((List.range n).countP M : Nat) ≤ θ * ((List.range n).countP N : Nat) := Int.mul_le_mul_of_nonneg_left (by omega) h0
  omega

def absI (d : Int) : Int := max d (-d)
def posI (d : Int) : Int := max d 0
theorem abs_pos (d : Int) : absI d = 2 * posI d + (-1) * d := by unfold absI posI; omega
theorem abs_neg (d : Int) : absI d = 2 * posI (-d) + d := by unfold absI posI; omega

theorem abs_sum1 {n : Nat} {f : Nat → Int} (h : sumR n f = 0) : sumR n (fun i => absI (f i)) = 2 * sumR n (fun i => posI (f i)) := by
  rw [sumR_congr fun i _ => abs_pos _, sumR_add, sumR_mul, sumR_mul, h]; omega
theorem abs_sum2 {n : Nat} {f : Nat → Int} (h : sumR n f = 0) : sumR n (fun i => absI (f i)) = 2 * sumR n (fun i => posI (-f i)) := by
  rw [sumR_congr fun i _ => abs_neg _, sumR_add, sumR_mul, h]; omega
theorem countP_not (l : List Nat) (p : Nat → Bool) : l.countP (fun i => !p i) + l.countP p = l.length := by
  induction l with
  | nil => rfl
  | cons x l ih =>
    rw [List.countP_cons, List.countP_cons, List.length_cons]
    cases h : p x <;> simp <;> omega

theorem nearest {n : Nat} {t k : Nat} {ρ q x : Nat → Int} {M : Nat → Bool} (hρ : ∀ i, i < n → 0 ≤ ρ i ∧ ρ i < t) (hM : Top ρ n k M)
    (h0 : sumR n (fun i => (t : Int) * (q i + (if M i then 1 else 0)) - (t * q i + ρ i)) = 0) (h1 : sumR n (fun i => (t : Int) * x i - (t * q i + ρ i)) = 0) :
    sumR n (fun i => absI (t * (q i + (if M i then 1 else 0)) - (t * q i + ρ i))) ≤ sumR n (fun i => absI (t * x i - (t * q i + ρ i))) := by
  let N : Nat → Bool := fun i => decide (q i + 1 ≤ x i)
  have ge : ∀ i j, i < n → j < n → M i = true → M j = false → ρ j ≤ ρ i := fun i j hi hj a b => by
    have := hM.first i j hi hj a b
    unfold before at this; omega
  rcases Nat.le_total k ((List.range n).countP N) with hk | hk
  · rw [abs_sum1 h0, abs_sum1 h1]
    have a1 : sumR n (fun i => posI (t * (q i + (if M i then 1 else 0)) - (t * q i + ρ i))) = sumR n (fun i => if M i then t - ρ i else 0) := sumR_congr fun i hi => by
      have := hρ i hi
      rw [Int.mul_add]
      unfold posI
      cases M i <;> simp <;> omega
    have a2 : sumR n (fun i => if N i then t - ρ i else 0) ≤ sumR n (fun i => posI (t * x i - (t * q i + ρ i))) := sumR_le fun i hi => by
      have := hρ i hi
      unfold posI
      by_cases h : q i + 1 ≤ x i
      · have h5 : (t : Int) * (q i + 1) ≤ t * x i := Int.mul_le_mul_of_nonneg_left h (by omega)
        rw [Int.mul_add] at h5
        simp only [N, h, decide_true, if_true]
        omega
      · simp only [N, h, decide_false, Bool.false_eq_true, if_false]
        omega
    have a3 := least_sum (M := M) (N := N) (g := fun i => t - ρ i) (fun i hi => by have := hρ i hi; omega) (fun i j hi hj a b => by have := ge i j hi hj a b; omega) (by rw [hM.count]; exact hk)
    rw [a1]
    omega
  · rw [abs_sum2 h0, abs_sum2 h1]
    have a1 : sumR n (fun i => posI (-(t * (q i + (if M i then 1 else 0)) - (t * q i + ρ i)))) = sumR n (fun i => if !M i then ρ i else 0) := sumR_congr fun i hi => by
      have := hρ i hi
      rw [Int.mul_add]
      unfold posI
      cases M i <;> simp <;> omega
    have a2 : sumR n (fun i => if !N i then ρ i else 0) ≤ sumR n (fun i => posI (-(t * x i - (t * q i + ρ i)))) := sumR_le fun i hi => by
      have := hρ i hi
      unfold posI
      by_cases h : q i + 1 ≤ x i
      · simp only [N, h, decide_true, Bool.not_true, Bool.false_eq_true, if_false]
        omega
      · have h5 : (t : Int) * x i ≤ t * q i := Int.mul_le_mul_of_nonneg_left (by omega) (by omega)
        simp only [N, h, decide_false, Bool.not_false, if_true]
        omega
    have c1 := countP_not (List.range n) M
    have c2 := countP_not (List.range n) N
    have a3 := least_sum (M := fun i => !M i) (N := fun i => !N i) (g := ρ) (fun i hi => (hρ i hi).1) (fun i j hi hj a b => by
      simp only [Bool.not_eq_true', Bool.not_eq_false'] at a b
      exact ge j i hj hi b a) (by have := hM.count; omega)
    rw [a1]
    omega
end Go.Proofs
namespace Go.Proofs
theorem shares_len (least sp : Int) (c : List Int) (M : Nat → Bool) : (sharesM least sp c M).length = c.length := by simp [sharesM]
theorem shares_get {least sp : Int} {c : List Int} {M : Nat → Bool} {i : Nat} (h : i < c.length) : (sharesM least sp c M)[i]? = some (least + partAt sp c i + if M i then 1 else 0) := by
  unfold sharesM; rw [List.getElem?_map, List.getElem?_range h]; rfl
theorem eff_nn {c : List Int} (h : ∀ x ∈ c, 0 ≤ x) (i : Nat) : 0 ≤ (effC c).getD i 0 := by
  rw [List.getD_eq_getElem?_getD]
  cases e : (effC c)[i]? with
  | none => exact Int.le_refl _
  | some a => exact effC_nonneg h a (List.mem_of_getElem? e)
theorem part_nn {c : List Int} (h : ∀ x ∈ c, 0 ≤ x) (h0 : 0 < c.length) {sp : Int} (hs : 0 ≤ sp) (i : Nat) : 0 ≤ partAt sp c i :=
  Int.ediv_nonneg (Int.mul_nonneg hs (eff_nn h i)) (Int.le_of_lt (effT_pos h0))
theorem sum_ge_mem : ∀ {l : List Int}, (∀ x ∈ l, 0 ≤ x) → ∀ x ∈ l, x ≤ l.sum
  | a :: l, h, x, hx => by
    have h1 : 0 ≤ l.sum := by
      have : ∀ l : List Int, (∀ x ∈ l, 0 ≤ x) → 0 ≤ l.sum := by
        intro l
        induction l with
        | nil => intro _; simp
        | cons b l ih => intro h; have := h b (by simp); have := ih fun x hx => h x (by simp [hx]); rw [List.sum_cons]; omega
      exact this l fun x hx => h x (by simp [hx])
    rw [List.sum_cons]
    rcases List.mem_cons.1 hx with rfl | hx
    · omega
    · have := sum_ge_mem (fun y hy => h y (by simp [hy])) x hx
      have := h a (by simp)
      omega
end Go.Proofs
namespace Go.Proofs
open Go.Hx
theorem getD_set {α : Type} (l : List α) (i j : Nat) (a d : α) (hi : i < l.length) : (l.set i a).getD j d = if i = j then a else l.getD j d := by
  rw [List.getD_eq_getElem?_getD, List.getD_eq_getElem?_getD, List.getElem?_set]
  by_cases h : i = j
  · subst h; rw [if_pos rfl, if_pos hi, if_pos rfl]; rfl
  · rw [if_neg h, if_neg h]
theorem lget {l : List Nat} {i : Nat} (h : i < l.length) : l[i]? = some (l.getD i 0) := by
  rw [List.getD_eq_getElem?_getD, List.getElem?_eq_getElem h]; rfl
def swapL (l : List Nat) (i j : Nat) : List Nat := (l.set i (l.getD j 0)).set j (l.getD i 0)
theorem swapL_len (l : List Nat) (i j : Nat) : (swapL l i j).length = l.length := by simp [swapL]
theorem swapL_get {l : List Nat} {i j : Nat} (hi : i < l.length) (hj : j < l.length) (hij : i ≠ j) (a : Nat) : (swapL l i j).getD a 0 = if a = j then l.getD i 0 else if a = i then l.getD j 0 else l.getD a 0 := by
  unfold swapL
  rw [getD_set _ _ _ _ _ (by rw [List.length_set]; exact hj), getD_set _ _ _ _ _ hi]
  by_cases h1 : a = j
  · rw [if_pos h1, if_pos h1.symm]
  · rw [if_neg h1, if_neg fun h => h1 h.symm]
    by_cases h2 : a = i
    · rw [if_pos h2, if_pos h2.symm]
    · rw [if_neg h2, if_neg fun h => h2 h.symm]
def Srt (f : Nat → Nat) (l : List Nat) (n : Nat) : Prop := ∀ a b, a < b → b < n → f (l.getD a 0) ≤ f (l.getD b 0)
theorem swapL_perm {l : List Nat} {i j : Nat} (hi : i < l.length) (hj : j < l.length) : (swapL l i j).Perm l := by
  unfold swapL
  rw [List.getD_eq_getElem?_getD, List.getD_eq_getElem?_getD, List.getElem?_eq_getElem hi, List.getElem?_eq_getElem hj]
  exact List.set_set_perm hi hj
def rankF (r : Nat → Int) (T n : Nat) (i : Nat) : Nat := (T - (r i).toNat) * n + i
theorem rank_lt {r : Nat → Int} {T n : Nat} (hr : ∀ i, i < n → 0 ≤ r i ∧ r i < T) {i j : Nat} (hi : i < n) (hj : j < n) : rankF r T n i < rankF r T n j ↔ before r i j := by
  have h1 := hr i hi
  have h2 := hr j hj
  unfold rankF before
  obtain ⟨a, ha⟩ : ∃ a, a = T - (r i).toNat := ⟨_, rfl⟩
  obtain ⟨b, hb⟩ : ∃ b, b = T - (r j).toNat := ⟨_, rfl⟩
  rw [← ha, ← hb]
  rcases Nat.lt_trichotomy a b with h | h | h
  · have : (a + 1) * n ≤ b * n := Nat.mul_le_mul_right _ h
    rw [Nat.add_mul, Nat.one_mul] at this
    constructor
    · intro _; left; omega
    · intro _; omega
  · subst h
    constructor
    · intro h; right; omega
    · rintro (h | h) <;> omega
  · have : (b + 1) * n ≤ a * n := Nat.mul_le_mul_right _ h
    rw [Nat.add_mul, Nat.one_mul] at this
    constructor
    · intro h; omega
    · rintro (h | h) <;> omega
theorem srt_before {r : Nat → Int} {T n : Nat} (hr : ∀ i, i < n → 0 ≤ r i ∧ r i < T) {l : List Nat} (hp : l.Perm (List.range n)) (hs : Srt (rankF r T n) l l.length) : l.Pairwise (before r) := by
  have hm : ∀ a ∈ l, a < n := fun a ha => List.mem_range.1 (hp.mem_iff.1 ha)
  have hnd : l.Nodup := hp.nodup_iff.2 List.nodup_range
  rw [List.pairwise_iff_getElem]
  intro i j hi hj hij
  have h := hs i j hij hj
  rw [List.getD_eq_getElem?_getD, List.getD_eq_getElem?_getD, List.getElem?_eq_getElem hi, List.getElem?_eq_getElem hj] at h
  simp only [Option.getD_some] at h
  have hne : l[i] ≠ l[j] := fun e => by
    have := (List.getElem?_inj hi hnd).1 (show l[i]? = l[j]? by rw [List.getElem?_eq_getElem hi, e, ← List.getElem?_eq_getElem hj])
    omega
  rcases before_tri hne (r := r) with b | b
  · exact b
  · have := (rank_lt hr (hm _ (List.getElem_mem hj)) (hm _ (List.getElem_mem hi))).2 b
    omega
end Go.Proofs
namespace Go.Hx
variable {P : Program} {G : Nat → Option (List AVal)} {Γ Γ' : Gam} {H H' : AHeap} {w w' : World}
theorem W.midN {n : Nat} {rd : Option Nat} {Q : AX → St → Prop} {s : St} {x y : Code} (Φ : St → Prop) (h : W P G n rd x (fun ax s' => ax = .normal ∧ Φ s') s) (h2 : ∀ s', Φ s' → W P G n rd y Q s') : W P G n rd (.seq x y) Q s :=
  W.seq (h.mono fun ax s' ⟨e, hp⟩ => by subst e; exact h2 s' hp)
theorem upd_self {H : AHeap} {id : Nat} {b : Blk} (h : H.get id = some b) : H.upd id b = H := by
  have e : (fun j => if j = id then some b else H.get j) = H.get := by
    funext j
    by_cases hj : j = id
    · rw [if_pos hj, hj, h]
    · rw [if_neg hj]
  show AHeap.mk (fun j => if j = id then some b else H.get j) H.next = H
  rw [e]
theorem upd_upd (H : AHeap) (id : Nat) (b c : Blk) : (H.upd id b).upd id c = H.upd id c := by
  unfold AHeap.upd
  congr 1
  funext j
  by_cases hj : j = id <;> simp [hj]
end Go.Hx
namespace Go.Proofs
open Go.Hx
def natsJ (l : List Nat) : List Int := l.map fun (v : Nat) => (v : Int)
theorem natsJ_len (l : List Nat) : (natsJ l).length = l.length := by simp [natsJ]
theorem natsJ_get {l : List Nat} {i k : Nat} (h : l[i]? = some k) : (natsJ l)[i]? = some (k : Int) := by simp [natsJ, h]
theorem natsJ_set (l : List Nat) (i k : Nat) : (natsJ l).set i (k : Int) = natsJ (l.set i k) := by unfold natsJ; rw [List.map_set]
def nB (g : Nat) (q : List Nat) : Blk := .arr g 3 (ints (natsJ q))
def CmpOk (cv : AVal) (f : Nat → Nat) (l : List Nat) (Inv : AHeap → Prop) : Prop := ∀ a b, a ∈ l → b ∈ l → ∀ Hx, Inv Hx → ∃ z : Int, (z < 0 ↔ f a < f b) ∧ ∀ K, K (.ret (lin z)) Hx → AApply Tryd.prog G0 cv [lin (a : Nat), lin (b : Nat)] Hx K
def PermR (a b : Nat) (l l' : List Nat) : Prop := l'.Perm l ∧ ∀ i, i < a ∨ b ≤ i → l'.getD i 0 = l.getD i 0
theorem PermR.refl (a b : Nat) (l : List Nat) : PermR a b l l := ⟨.refl _, fun _ _ => rfl⟩
theorem PermR.trans {a b : Nat} {l m r : List Nat} (h : PermR a b l m) (k : PermR a b m r) : PermR a b l r := ⟨k.1.trans h.1, fun i hi => (k.2 i hi).trans (h.2 i hi)⟩
theorem PermR.len {a b : Nat} {l m : List Nat} (h : PermR a b l m) : m.length = l.length := h.1.length_eq
theorem PermR.mono {a b a' b' : Nat} {l m : List Nat} (h : PermR a b l m) (ha : a' ≤ a) (hb : b ≤ b') : PermR a' b' l m := ⟨h.1, fun i hi => h.2 i (by omega)⟩
theorem PermR.swap {a b i j : Nat} {l : List Nat} (h1 : a ≤ i) (h2 : i < b) (h3 : a ≤ j) (h4 : j < b) (hb : b ≤ l.length) : PermR a b l (swapL l i j) := by
  refine ⟨swapL_perm (by omega) (by omega), fun k hk => ?_⟩
  unfold swapL
  rw [getD_set _ _ _ _ _ (by rw [List.length_set]; omega), getD_set _ _ _ _ _ (by omega), if_neg (by omega), if_neg (by omega)]
theorem swapL_at {l : List Nat} {i j : Nat} (hi : i < l.length) (hj : j < l.length) (a : Nat) : (swapL l i j).getD a 0 = if a = j then l.getD i 0 else if a = i then l.getD j 0 else l.getD a 0 := by
  unfold swapL
  rw [getD_set _ _ _ _ _ (by rw [List.length_set]; exact hj), getD_set _ _ _ _ _ hi]
  by_cases h1 : a = j
  · rw [if_pos h1, if_pos h1.symm]
  · rw [if_neg h1, if_neg fun h => h1 h.symm]
    by_cases h2 : a = i
    · rw [if_pos h2, if_pos h2.symm]
    · rw [if_neg h2, if_neg fun h => h2 h.symm]
theorem mem_range_of {a b : Nat} {l : List Nat} {x : Nat} : x ∈ (l.take b).drop a ↔ ∃ i, a ≤ i ∧ i < b ∧ i < l.length ∧ l.getD i 0 = x := by
  rw [List.mem_iff_getElem?]
  constructor
  · rintro ⟨k, hk⟩
    rw [List.getElem?_drop, List.getElem?_take] at hk
    split at hk
    · exact ⟨a + k, by omega, by omega, get_lt hk, by rw [List.getD_eq_getElem?_getD, hk]; rfl⟩
    · cases hk
  · rintro ⟨i, h1, h2, h3, h4⟩
    refine ⟨i - a, ?_⟩
    rw [List.getElem?_drop, List.getElem?_take, if_pos (by omega), show a + (i - a) = i by omega, lget h3, h4]
theorem ext_getD {l m : List Nat} (hl : l.length = m.length) (h : ∀ i, i < l.length → l.getD i 0 = m.getD i 0) : l = m := by
  apply List.ext_getElem?
  intro i
  rcases Nat.lt_or_ge i l.length with hi | hi
  · rw [lget hi, lget (by omega), h i hi]
  · rw [List.getElem?_eq_none hi, List.getElem?_eq_none (by omega)]
theorem PermR.mid {a b : Nat} {l m : List Nat} (h : PermR a b l m) (hab : a ≤ b) (hb : b ≤ l.length) : ((m.take b).drop a).Perm ((l.take b).drop a) := by
  have hl := h.len
  have e1 : m.take a = l.take a := ext_getD (by simp [hl]) fun i hi => by
    rw [List.length_take] at hi
    rw [List.getD_eq_getElem?_getD, List.getD_eq_getElem?_getD, List.getElem?_take, List.getElem?_take, if_pos (by omega), if_pos (by omega), lget (by omega), lget (by omega), h.2 i (by omega)]
  have e2 : m.drop b = l.drop b := ext_getD (by simp [hl]) fun i hi => by
    rw [List.length_drop] at hi
    rw [List.getD_eq_getElem?_getD, List.getD_eq_getElem?_getD, List.getElem?_drop, List.getElem?_drop, lget (by omega), lget (by omega), h.2 (b + i) (by omega)]
  have cut : ∀ l : List Nat, l = l.take a ++ ((l.take b).drop a ++ l.drop b) := fun l => by
    rw [← List.append_assoc]
    have : l.take a ++ (l.take b).drop a = l.take b := by
      have := List.take_append_drop a (l.take b)
      rw [List.take_take, Nat.min_eq_left hab] at this
      exact this
    rw [this, List.take_append_drop]
  have hp := h.1
  rw [cut m, cut l, e1, e2] at hp
  exact (List.perm_append_right_iff _).1 ((List.perm_append_left_iff _).1 hp)
theorem PermR.all {a b : Nat} {l m : List Nat} (h : PermR a b l m) (hb : b ≤ l.length) {p : Nat → Prop} (hp : ∀ i, a ≤ i → i < b → p (l.getD i 0)) : ∀ i, a ≤ i → i < b → p (m.getD i 0) := by
  intro i h1 h2
  have hl := h.len
  have : m.getD i 0 ∈ (m.take b).drop a := mem_range_of.2 ⟨i, h1, h2, by omega, rfl⟩
  obtain ⟨k, k1, k2, _, k4⟩ := mem_range_of.1 ((h.mid (by omega) hb).mem_iff.1 this)
  rw [← k4]
  exact hp k k1 k2
def SrtR (f : Nat → Nat) (l : List Nat) (a b : Nat) : Prop := ∀ i j, a ≤ i → i < j → j < b → f (l.getD i 0) ≤ f (l.getD j 0)
def DistF (f : Nat → Nat) (l : List Nat) : Prop := (l.map f).Nodup
theorem DistF.perm {f : Nat → Nat} {l m : List Nat} (h : DistF f l) (hp : m.Perm l) : DistF f m := (hp.map f).nodup_iff.2 h
theorem DistF.ne {f : Nat → Nat} {l : List Nat} (h : DistF f l) {i j : Nat} (hij : i ≠ j) (hi : i < l.length) (hj : j < l.length) : f (l.getD i 0) ≠ f (l.getD j 0) := by
  intro e
  have g : ∀ k, k < l.length → (l.map f)[k]? = some (f (l.getD k 0)) := fun k hk => by rw [List.getElem?_map, lget hk]; rfl
  refine hij ((List.getElem?_inj (by rw [List.length_map]; exact hi) h).1 ?_)
  rw [g i hi, g j hj, e]
def Bl (f : Nat → Nat) (l : List Nat) (a b : Nat) : Prop := a = 0 ∨ ∀ i, a ≤ i → i < b → f (l.getD (a - 1) 0) < f (l.getD i 0)
theorem Bl.perm {f : Nat → Nat} {l m : List Nat} {a b : Nat} (h : Bl f l a b) (hp : PermR a b l m) (hb : b ≤ l.length) : Bl f m a b := by
  rcases h with h | h
  · exact .inl h
  · by_cases ha : a = 0
    · exact .inl ha
    · refine .inr fun i h1 h2 => ?_
      rw [hp.2 (a - 1) (by omega)]
      exact hp.all hb (p := fun x => f (l.getD (a - 1) 0) < f x) h i h1 h2
def Kid (k c : Nat) : Prop := c = 2 * k + 1 ∨ c = 2 * k + 2
def HeapF (f : Nat → Nat) (l : List Nat) (a lo hi : Nat) : Prop := ∀ k c, lo ≤ k → Kid k c → c < hi → f (l.getD (a + c) 0) ≤ f (l.getD (a + k) 0)
def SiftI (f : Nat → Nat) (l : List Nat) (a lo hi r : Nat) : Prop :=
  (∀ k c, lo ≤ k → k ≠ r → Kid k c → c < hi → f (l.getD (a + c) 0) ≤ f (l.getD (a + k) 0)) ∧ ∀ k c, lo ≤ k → Kid k r → Kid r c → c < hi → f (l.getD (a + c) 0) ≤ f (l.getD (a + k) 0)
theorem SiftI.start {f : Nat → Nat} {l : List Nat} {a lo hi : Nat} (h : HeapF f l a (lo + 1) hi) : SiftI f l a lo hi lo :=
  ⟨fun k c h1 h2 h3 h4 => h k c (by omega) h3 h4, fun k c h1 h2 h3 h4 => by unfold Kid at h2; omega⟩
theorem SiftI.done {f : Nat → Nat} {l : List Nat} {a lo hi r : Nat} (h : SiftI f l a lo hi r) (hd : ∀ c, Kid r c → c < hi → f (l.getD (a + c) 0) ≤ f (l.getD (a + r) 0)) : HeapF f l a lo hi := fun k c h1 h3 h4 => by
  by_cases hk : k = r
  · subst hk; exact hd c h3 h4
  · exact h.1 k c h1 hk h3 h4
theorem SiftI.step {f : Nat → Nat} {l : List Nat} {a lo hi r c : Nat} (h : SiftI f l a lo hi r) (hlo : lo ≤ r) (hb : a + hi ≤ l.length) (hc : Kid r c) (hci : c < hi) (hmax : ∀ d, Kid r d → d < hi → f (l.getD (a + d) 0) ≤ f (l.getD (a + c) 0)) (hlt : f (l.getD (a + r) 0) ≤ f (l.getD (a + c) 0)) :
    SiftI f (swapL l (a + r) (a + c)) a lo hi c := by
  have hrc : r < c := by unfold Kid at hc; omega
  have g := fun k => swapL_at (l := l) (i := a + r) (j := a + c) (by omega) (by omega) (a + k)
  have gk : ∀ k, k ≠ r → k ≠ c → (swapL l (a + r) (a + c)).getD (a + k) 0 = l.getD (a + k) 0 := fun k h1 h2 => by rw [g, if_neg (by omega), if_neg (by omega)]
  have gr : (swapL l (a + r) (a + c)).getD (a + r) 0 = l.getD (a + c) 0 := by rw [g, if_neg (by omega), if_pos rfl]
  have gc : (swapL l (a + r) (a + c)).getD (a + c) 0 = l.getD (a + r) 0 := by rw [g, if_pos rfl]
  constructor
  · intro k d h1 h2 h3 h4
    by_cases hk : k = r
    · subst hk
      rw [gr]
      by_cases hd : d = c
      · subst hd; rw [gc]; exact hlt
      · rw [gk d (by unfold Kid at h3; omega) hd]; exact hmax d h3 h4
    · rw [gk k hk h2]
      by_cases hd : d = r
      · subst hd
        rw [gr]
        exact h.2 k c h1 h3 hc hci
      · rw [gk d hd (by unfold Kid at h3 hc; omega)]
        exact h.1 k d h1 hk h3 h4
  · intro k d h1 h2 h3 h4
    obtain rfl : k = r := by unfold Kid at h2 hc; omega
    rw [gr, gk d (by unfold Kid at h3; omega) (by unfold Kid at h3; omega)]
    exact h.1 c d (by omega) (by omega) h3 h4
theorem HeapF.vac {f : Nat → Nat} {l : List Nat} {a lo hi : Nat} (h : hi ≤ 2 * lo + 1) : HeapF f l a lo hi := fun k c h1 h2 h3 => by unfold Kid at h2; omega
theorem HeapF.max {f : Nat → Nat} {l : List Nat} {a hi : Nat} (h : HeapF f l a 0 hi) : ∀ k, k < hi → f (l.getD (a + k) 0) ≤ f (l.getD a 0) := by
  intro k
  induction k using Nat.strongRecOn with
  | _ k ih =>
    intro hk
    by_cases h0 : k = 0
    · subst h0; exact Nat.le_refl _
    · have h1 := h ((k - 1) / 2) k (by omega) (by unfold Kid; omega) hk
      exact Nat.le_trans h1 (ih _ (by omega) (by omega))
theorem HeapF.pop {f : Nat → Nat} {l : List Nat} {a i : Nat} (h : HeapF f l a 0 (i + 1)) (hb : a + i < l.length) : HeapF f (swapL l a (a + i)) a 1 i := by
  intro k c h1 h2 h3
  have g := fun k => swapL_at (l := l) (i := a) (j := a + i) (by omega) (by omega) (a + k)
  rw [g, g, if_neg (by omega), if_neg (by unfold Kid at h2; omega), if_neg (by unfold Kid at h2; omega), if_neg (by omega)]
  exact h k c (by omega) h2 (by omega)
def PopI (f : Nat → Nat) (l : List Nat) (a m b : Nat) : Prop := ∀ i j, a ≤ i → i < j → j < b → m ≤ j → f (l.getD i 0) ≤ f (l.getD j 0)
theorem PopI.start {f : Nat → Nat} {l : List Nat} {a b : Nat} : PopI f l a b b := fun i j h1 h2 h3 h4 => by omega
theorem PopI.done {f : Nat → Nat} {l : List Nat} {a b : Nat} (h : PopI f l a a b) : SrtR f l a b := fun i j h1 h2 h3 => h i j h1 h2 h3 (by omega)
theorem PopI.step {f : Nat → Nat} {l m : List Nat} {a i b : Nat} (h : PopI f l a (a + (i + 1)) b) (hh : HeapF f l a 0 (i + 1)) (hi : a + i < b) (hb : b ≤ l.length) (hp : PermR a (a + i) (swapL l a (a + i)) m) : PopI f m a (a + i) b := by
  have g := fun k => swapL_at (l := l) (i := a) (j := a + i) (by omega) (by omega) k
  have mx := hh.max
  have sl : (swapL l a (a + i)).length = l.length := swapL_len ..
  have big : ∀ k, a ≤ k → k < a + i → f ((swapL l a (a + i)).getD k 0) ≤ f (l.getD a 0) := fun k h1 h2 => by
    rw [g, if_neg (by omega)]
    split
    · have := mx i (by omega); exact this
    · have := mx (k - a) (by omega); rw [show a + (k - a) = k by omega] at this; exact this
  have big' := hp.all (by omega) (p := fun x => f x ≤ f (l.getD a 0)) big
  have tail : ∀ k, a + i ≤ k → m.getD k 0 = (swapL l a (a + i)).getD k 0 := fun k hk => hp.2 k (.inr hk)
  intro x y h1 h2 h3 h4
  rw [tail y h4]
  by_cases hy : y = a + i
  · subst hy
    rw [g, if_pos rfl]
    exact big' x h1 h2
  · rw [g, if_neg hy, if_neg (by omega)]
    rcases Nat.lt_or_ge x (a + i) with hx | hx
    · have e : ∀ z, a ≤ z → z < a + i → f ((swapL l a (a + i)).getD z 0) ≤ f (l.getD y 0) := fun z z1 z2 => Nat.le_trans (big z z1 z2) (h a y (by omega) (by omega) h3 (by omega))
      exact hp.all (by omega) (p := fun x => f x ≤ f (l.getD y 0)) e x h1 hx
    · rw [tail x hx, g]
      split
      · exact h a y (by omega) (by omega) h3 (by omega)
      · rw [if_neg (by omega)]
        exact h x y h1 h2 h3 (by omega)
def Out (f : Nat → Nat) (l : List Nat) (a b c d : Nat) : Prop := ∀ i j, a ≤ i → i < j → j < b → (i < c ∨ d ≤ j) → f (l.getD i 0) ≤ f (l.getD j 0)
theorem Out.start {f : Nat → Nat} {l : List Nat} {a b : Nat} : Out f l a b a b := fun i j h1 h2 h3 h4 => by omega
theorem Out.perm {f : Nat → Nat} {l m : List Nat} {a b c d : Nat} (h : Out f l a b c d) (hp : PermR c d l m) (h1 : a ≤ c) (h2 : d ≤ b) (hb : b ≤ l.length) : Out f m a b c d := by
  intro i j q1 q2 q3 q4
  by_cases hi : c ≤ i ∧ i < d
  · have hj : d ≤ j := by omega
    rw [hp.2 j (.inr hj)]
    exact hp.all (by omega) (p := fun x => f x ≤ f (l.getD j 0)) (fun k k1 k2 => h k j (by omega) (by omega) q3 (.inr hj)) i hi.1 hi.2
  · rw [hp.2 i (by omega)]
    by_cases hj : c ≤ j ∧ j < d
    · have hic : i < c := by omega
      exact hp.all (by omega) (p := fun x => f (l.getD i 0) ≤ f x) (fun k k1 k2 => h i k q1 (by omega) (by omega) (.inl hic)) j hj.1 hj.2
    · rw [hp.2 j (by omega)]
      exact h i j q1 q2 q3 q4
theorem Out.done {f : Nat → Nat} {l : List Nat} {a b c d : Nat} (h : Out f l a b c d) (hs : SrtR f l c d) : SrtR f l a b := fun i j h1 h2 h3 => by
  by_cases hc : i < c ∨ d ≤ j
  · exact h i j h1 h2 h3 hc
  · exact hs i j (by omega) h2 (by omega)
def Parted (f : Nat → Nat) (l : List Nat) (c d m : Nat) : Prop := (∀ i, c ≤ i → i < m → f (l.getD i 0) ≤ f (l.getD m 0)) ∧ ∀ i, m < i → i < d → f (l.getD m 0) ≤ f (l.getD i 0)
theorem Parted.le {f : Nat → Nat} {l : List Nat} {c d m : Nat} (h : Parted f l c d m) {i j : Nat} (h1 : c ≤ i) (h2 : j < d) (h3 : i ≤ m) (h4 : m ≤ j) : f (l.getD i 0) ≤ f (l.getD j 0) := by
  have a1 : f (l.getD i 0) ≤ f (l.getD m 0) := by
    rcases Nat.lt_or_ge i m with q | q
    · exact h.1 i h1 q
    · rw [show i = m by omega]; exact Nat.le_refl _
  have a2 : f (l.getD m 0) ≤ f (l.getD j 0) := by
    rcases Nat.lt_or_ge m j with q | q
    · exact h.2 j q h2
    · rw [show j = m by omega]; exact Nat.le_refl _
  omega
theorem Out.left {f : Nat → Nat} {l m : List Nat} {a b c d p : Nat} (h : Out f l a b c d) (hp : Parted f l c d p) (h1 : c ≤ p) (h2 : p < d) (h3 : a ≤ c) (h4 : d ≤ b) (hb : b ≤ l.length) (hm : PermR c p l m) (hs : SrtR f m c p) : Out f m a b (p + 1) d := by
  have hout := h.perm (hm.mono (Nat.le_refl _) (show p ≤ d by omega)) h3 h4 hb
  have hm' : Parted f m c d p := by
    have ep := hm.2 p (.inr (Nat.le_refl _))
    refine ⟨fun i i1 i2 => ?_, fun i i1 i2 => ?_⟩
    · rw [ep]; exact hm.all (by omega) (p := fun x => f x ≤ f (l.getD p 0)) hp.1 i i1 i2
    · rw [ep, hm.2 i (by omega)]; exact hp.2 i i1 i2
  intro i j q1 q2 q3 q4
  by_cases hc : i < c ∨ d ≤ j
  · exact hout i j q1 q2 q3 hc
  · rcases Nat.lt_or_ge j p with hj | hj
    · exact hs i j (by omega) q2 hj
    · exact hm'.le (by omega) (by omega) (by omega) hj
theorem Out.right {f : Nat → Nat} {l m : List Nat} {a b c d p : Nat} (h : Out f l a b c d) (hp : Parted f l c d p) (h1 : c ≤ p) (h2 : p < d) (h3 : a ≤ c) (h4 : d ≤ b) (hb : b ≤ l.length) (hm : PermR (p + 1) d l m) (hs : SrtR f m (p + 1) d) : Out f m a b c p := by
  have hout := h.perm (hm.mono (show c ≤ p + 1 by omega) (Nat.le_refl _)) h3 h4 hb
  have hm' : Parted f m c d p := by
    have ep := hm.2 p (.inl (by omega))
    refine ⟨fun i i1 i2 => ?_, fun i i1 i2 => ?_⟩
    · rw [ep, hm.2 i (by omega)]; exact hp.1 i i1 i2
    · rw [ep]; exact hm.all (by omega) (p := fun x => f (l.getD p 0) ≤ f x) (fun k k1 k2 => hp.2 k (by omega) k2) i (by omega) i2
  intro i j q1 q2 q3 q4
  by_cases hc : i < c ∨ d ≤ j
  · exact hout i j q1 q2 q3 hc
  · rcases Nat.lt_or_ge p i with hi | hi
    · exact hs i j (by omega) q2 (by omega)
    · exact hm'.le (by omega) (by omega) hi (by omega)
theorem Out.bl {f : Nat → Nat} {l : List Nat} {a b c d : Nat} (h : Out f l a b c d) (hB : Bl f l a b) (hD : DistF f l) (h1 : a ≤ c) (h2 : d ≤ b) (hb : b ≤ l.length) : Bl f l c d := by
  by_cases hc : c = a
  · subst hc
    rcases hB with q | q
    · exact .inl q
    · exact .inr fun i i1 i2 => q i i1 (by omega)
  · refine .inr fun i i1 i2 => ?_
    have h1 := h (c - 1) i (by omega) (by omega) (by omega) (.inl (by omega))
    have h2 := hD.ne (i := c - 1) (j := i) (by omega) (by omega) (by omega)
    omega
structure SH (cv : AVal) (f : Nat → Nat) (rid : Nat) (rb : Blk) (id g n : Nat) (l : List Nat) (H : AHeap) : Prop where
  hl : l.length = n
  hn : n ≤ 1024
  hg : H.get id = some (nB g l)
  hr : H.get rid = some rb
  ne : rid ≠ id
  il : id < H.next
  rl : rid < H.next
  cmp : CmpOk cv f l fun Hx => Hx.get rid = some rb
section
variable {cv : AVal} {f : Nat → Nat} {rid : Nat} {rb : Blk} {id g n : Nat} {l q : List Nat} {H H' : AHeap}
theorem SH.upd (S : SH cv f rid rb id g n l H) (hp : q.Perm l) : SH cv f rid rb id g n q (H.upd id (nB g q)) :=
  ⟨by rw [hp.length_eq, S.hl], S.hn, by rw [upd_get, if_pos rfl], by rw [upd_get, if_neg S.ne]; exact S.hr, S.ne, S.il, S.rl, fun a b ha hb => S.cmp a b (hp.mem_iff.1 ha) (hp.mem_iff.1 hb)⟩
theorem SH.over (S : SH cv f rid rb id g n l H) (ho : Over H H') : SH cv f rid rb id g n l H' :=
  ⟨S.hl, S.hn, (ho.old _ S.il).trans S.hg, (ho.old _ S.rl).trans S.hr, S.ne, by have := S.il; have := ho.next; omega, by have := S.rl; have := ho.next; omega, S.cmp⟩
theorem SH.live (S : SH cv f rid rb id g n l H) : H.live id g = some (3, ints (natsJ l)) := get_live S.hg
theorem SH.len (S : SH cv f rid rb id g n l H) : (ints (natsJ l)).length = n := by rw [ints_length, natsJ_len, S.hl]
theorem SH.cell (S : SH cv f rid rb id g n l H) {i : Nat} (hi : i < n) : (ints (natsJ l))[i]? = some (.lit (.int .i64 ((l.getD i 0 : Nat) : Int))) := by
  rw [ints_get, natsJ_get (lget (by rw [S.hl]; exact hi))]; rfl
theorem SH.ask (S : SH cv f rid rb id g n l H) {i j : Nat} (hi : i < n) (hj : j < n) : ∃ z : Int, (z < 0 ↔ f (l.getD i 0) < f (l.getD j 0)) ∧ ∀ K, K (.ret (lin z)) H → AApply Tryd.prog G0 cv [.lit (.int .i64 ((l.getD i 0 : Nat) : Int)), .lit (.int .i64 ((l.getD j 0 : Nat) : Int))] H K :=
  S.cmp _ _ (List.mem_of_getElem? (lget (by rw [S.hl]; exact hi))) (List.mem_of_getElem? (lget (by rw [S.hl]; exact hj))) H S.hr
theorem SH.s1 (S : SH cv f rid rb id g n l H) {i : Nat} (hi : i < n) (x : Nat) : setAt (ints (natsJ l)) i [.lit (.int .i64 (x : Int))] = ints (natsJ (l.set i x)) := by
  rw [setAt_ints (by rw [natsJ_len, S.hl]; exact hi), natsJ_set]
theorem SH.len1 (S : SH cv f rid rb id g n l H) (i x : Nat) : (ints (natsJ (l.set i x))).length = n := by rw [ints_length, natsJ_len, List.length_set, S.hl]
theorem SH.live1 (_S : SH cv f rid rb id g n l H) (q : List Nat) : (H.upd id (.arr g 3 (ints (natsJ q)))).live id g = some (3, ints (natsJ q)) := get_live (by rw [upd_get, if_pos rfl])
theorem SH.s2 (S : SH cv f rid rb id g n l H) {i j : Nat} (hj : j < n) : setAt (ints (natsJ (l.set i (l.getD j 0)))) j [.lit (.int .i64 ((l.getD i 0 : Nat) : Int))] = ints (natsJ (swapL l i j)) := by
  rw [setAt_ints (by rw [natsJ_len, List.length_set, S.hl]; exact hj), natsJ_set]; rfl
theorem SH.u2 (_S : SH cv f rid rb id g n l H) (p q : List Nat) : (H.upd id (.arr g 3 (ints (natsJ p)))).upd id (.arr g 3 (ints (natsJ q))) = H.upd id (nB g q) := upd_upd ..
theorem SH.self (S : SH cv f rid rb id g n l H) : H.upd id (nB g l) = H := upd_self S.hg
end
theorem nB_upd (H : AHeap) (id g : Nat) (p q : List Nat) : (H.upd id (nB g p)).upd id (nB g q) = H.upd id (nB g q) := upd_upd ..
section
variable {cv : AVal} {f : Nat → Nat} {rid : Nat} {rb : Blk} {id g n a b : Nat} {l : List Nat} {H : AHeap}
set_option maxHeartbeats 4000000 in
theorem revRange_spec (S : SH cv f rid rb id g n l H) (hab : a < b) (hb : b ≤ n) (K : ARes → AHeap → Prop) (hK : ∀ q, PermR a b l q → K (.ret (.tup [])) (H.upd id (nB g q))) :
    ACall Tryd.prog G0 100 [.own id g 0 n 1, lin a, lin b, cv] H K := by
  have hn := S.hn
  have w0 : IntKind.i64.wrap ((b : Int) - 1) = ((b - 1 : Nat) : Int) := by rw [IntWalk.i64_in _ (by omega)]; omega
  refine ACall.of_bodyW (n := 34) (rs := []) Tryd.func100 rfl rfl rfl (by decide) (by simp) ?_
  refine W.seq (vc_sound _ _ _ (by rfl) ?_)
  simp (config := { maxSteps := 1000000 }) only [go_sem, appendA_U]
  refine W.seq (vc_sound _ _ _ (by rfl) ?_)
  simp (config := { maxSteps := 1000000 }) only [go_sem, w0, appendA_U]
  refine W.env fun E hE => ?_
  have e0 : E 0 = .own id g 0 n 1 := by rw [hE]; simp (config := { maxSteps := 1000000 }) only [go_sem, appendA_U]
  have e8 : E 8 = lin a := by rw [hE]; simp (config := { maxSteps := 1000000 }) only [go_sem, appendA_U]
  have e9 : E 9 = lin ((b - 1 : Nat) : Int) := by rw [hE]; simp (config := { maxSteps := 1000000 }) only [go_sem, w0, appendA_U]
  clear hE
  refine W.block ?_
  refine W.loop0 17179861760 (by rfl) (fun ρ Hx => ∃ (i : Nat) (j : Int) (q : List Nat), ρ 8 = lin i ∧ ρ 9 = lin j ∧ a ≤ i ∧ j < b ∧ i + j = (a : Int) + b - 1 ∧ PermR a b l q ∧ Hx = H.upd id (nB g q)) (fun ρ Hx => (iv (ρ 9) + 1).toNat) ?_ ?_
  · exact ⟨a, _, l, e8, e9, Nat.le_refl _, by omega, by omega, .refl _ _ _, S.self.symm⟩
  rintro ρ Hx ⟨i, j, q, h8, h9, hi, hj, hij, hp, hHx⟩
  refine W.env fun E1 hE1 => ?_
  have f0 : E1 0 = .own id g 0 n 1 := by rw [hE1]; simp (config := { maxSteps := 1000000 }) only [go_sem, e0, appendA_U]
  have f8 : E1 8 = lin i := by rw [hE1]; simp (config := { maxSteps := 1000000 }) only [go_sem, h8, appendA_U]
  have f9 : E1 9 = lin j := by rw [hE1]; simp (config := { maxSteps := 1000000 }) only [go_sem, h9, appendA_U]
  clear hE1
  by_cases hlt : (i : Int) < j
  rotate_left
  · refine vc_sound _ _ _ (by rfl) ?_
    simp (config := { maxSteps := 1000000 }) only [go_sem, f8, f9, hlt, appendA_U]
    rw [hHx]
    exact FinV.mk (by rw [upd_next]; exact Nat.le_refl _) (hK q hp)
  obtain ⟨j, rfl⟩ := Int.eq_ofNat_of_zero_le (show 0 ≤ j by omega)
  have T := S.upd hp.1
  rw [← hHx] at T
  have b1 : (i : Int) < n := by omega
  have b2 : (j : Int) < n := by omega
  have w1 := IntWalk.i64_in ((i : Int) + 1) (by omega)
  have w2 := IntWalk.i64_in ((j : Int) - 1) (by omega)
  refine W.seq (vc_sound _ _ _ (by rfl) ?_)
  simp (config := { maxSteps := 1000000 }) only [go_sem, f8, f9, hlt, appendA_U]
  refine W.block (W.seq ?_)
  refine W.draw 14 [0, 0, 0, 0, 0, 0, 48, 112, 0, 0, 768, 1792, 4083, 8179] Tryd.mixed (by kernel_rfl) (by kernel_rfl) ?_
  simp (config := { maxSteps := 1000000 }) only [go_sem, f0, f8, f9, T.live, T.len, T.cell (show i < n by omega), T.cell (show j < n by omega), b1, b2, T.s1 (show i < n by omega), T.s2 (i := i) (show j < n by omega), T.len1, T.live1, appendA_U]
  refine ⟨by omega, by omega, ?_⟩
  refine vc_sound _ _ _ (by rfl) ?_
  simp (config := { maxSteps := 1000000 }) only [go_sem, f8, f9, w1, w2, appendA_U]
  refine ⟨by rw [hHx]; exact Nat.le_refl _, ⟨i + 1, (j : Int) - 1, swapL q i j, rfl, rfl, by omega, by omega, by omega, hp.trans (.swap (by omega) (by omega) (by omega) (by omega) (by rw [hp.len, S.hl]; exact hb)), ?_⟩, by rw [h9]; simp only [lin, iv_int]; omega⟩
  rw [T.u2, hHx, nB_upd]
end
end Go.Proofs
