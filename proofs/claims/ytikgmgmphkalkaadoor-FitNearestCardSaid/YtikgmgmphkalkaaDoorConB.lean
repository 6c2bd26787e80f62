/-
  Networks and diagrams as plain data, and as abstract values. Plain: no program stands in this text. No conditions.
-/
import Derived.Test.YtikgmgmphkalkaaDoorLibE
import Derived.Test.YtikgmgmphkalkaaDoorConA
import Derived.Test.YtikgmgmphkalkaaDoorLibC
import Derived.Test.YtikgmgmphkalkaaDoorLibD
import Derived.Test.YtikgmgmphkalkaaDoorRows
import Derived.ProofKit
import Derived.LaidMore
import Derived.Stop.Joined
set_option linter.all false
namespace Go.Proofs
open Go.Hx

def vecV (l : List (List Int)) : AVal := .vec l.length (l.map vecI)
structure NodeP where
  card : Int
  parents : List Int
  rows : List (List Int)
structure UtilP where
  vars : List Int
  w : List Int
def NodeP.cells (x : NodeP) : List AVal := [lin x.card, vecI x.parents, vecV x.rows]
def UtilP.cells (x : UtilP) : List AVal := [vecI x.vars, vecI x.w]
structure InfP where
  grain : Int
  nodes : List NodeP
  decs : Nat
  utils : List UtilP
theorem get_lt {α : Type} {l : List α} {i : Nat} {x : α} (h : l[i]? = some x) : i < l.length := by
  rcases Nat.lt_or_ge i l.length with h' | h'
  · exact h'
  · rw [List.getElem?_eq_none h'] at h; cases h
theorem get_of_lt {α : Type} {l : List α} {i : Nat} (h : i < l.length) : ∃ x, l[i]? = some x := ⟨_, List.getElem?_eq_getElem h⟩
theorem take_succ_get {α : Type} {l : List α} {k : Nat} {x : α} (h : l[k]? = some x) : l.take (k + 1) = l.take k ++ [x] := by
  rw [List.take_add_one, h]; rfl
def bytesL (l : List Int) : List AVal := l.map fun n => .lit (.int .u8 n)
theorem bytesL_get {l : List Int} {k : Nat} {a : Int} (h : l[k]? = some a) : (bytesL l)[k]? = some (.lit (.int .u8 a)) := by unfold bytesL; rw [List.getElem?_map, h]; rfl
theorem bytesL_len (l : List Int) : (bytesL l).length = l.length := by simp [bytesL]
end Go.Proofs
set_option maxRecDepth 100000
namespace Go.Proofs
open Go.Hx
def primesL : List Int := [2, 3, 5, 7, 11, 13, 17, 19, 23, 29, 31, 37, 41, 43, 47, 53, 59, 61]
def G0 : Nat → Option (List AVal) := fun g => if g = 0 then some (ints primesL) else none
theorem G0_ok : GOk G0 := fun g cells h => by
  unfold G0 at h
  split at h
  · cases h
    refine .vptr fun i hi => ?_
    simp only [ints, List.getElem_map]
    exact .lit _
  · cases h
end Go.Proofs
namespace Go.Hx
variable {P : Program} {G : Nat → Option (List AVal)} {Γ Γ' : Gam} {H H' : AHeap} {w w' : World}
theorem W.env {n : Nat} {rd : Option Nat} {Q : AX → St → Prop} {c : Code} {ρ : Env} {H : AHeap} (h : ∀ E, E = ρ → W P G n rd c Q ⟨E, H⟩) : W P G n rd c Q ⟨ρ, H⟩ := h ρ rfl
theorem Below.mono {n m : Nat} {v : AVal} (h : Below n v) (hm : n ≤ m) : Below m v := by
  induction h with
  | lit v => exact .lit v
  | vec h ih => exact .vec ih
  | vptr h ih => exact .vptr ih
  | agg h ih => exact .agg ih
  | tup h ih => exact .tup ih
  | clo h1 h2 ih1 ih2 => exact .clo ih1 ih2
  | own h => exact .own (by omega)
  | ptr h => exact .ptr (by omega)
  | yld h => exact .yld (by omega)
theorem setAt_one {l : List AVal} {i : Nat} {x : AVal} (h : i < l.length) : setAt l i [x] = l.set i x := by
  unfold setAt
  rw [List.set_eq_take_append_cons_drop, if_pos h]
  simp
section
variable {t : TypeId} {x y : Operand} {k k' : IntKind} {a b : Int}
end
end Go.Hx
namespace Go.Proofs
open Go.Hx
theorem ne_of_get {α : Type} {l : List α} {i : Nat} {a : α} (h : l[i]? = some a) : ¬ l = [] := by rintro rfl; simp at h
theorem setAt_ints {l : List Int} {i : Nat} {x : Int} (h : i < l.length) : setAt (ints l) i [.lit (.int .i64 x)] = ints (l.set i x) := by
  rw [setAt_one (by simpa [ints] using h)]
  simp [ints, lin]
theorem guardA_undef (w : Bool) : guardA w (some (.lit undef)) = some false := rfl
end Go.Proofs
namespace Go.Proofs

def before (r : Nat → Int) (i j : Nat) : Prop := r j < r i ∨ (r i = r j ∧ i < j)
theorem before_tri {r : Nat → Int} {i j : Nat} (h : i ≠ j) : before r i j ∨ before r j i := by unfold before; omega
structure Top (r : Nat → Int) (n k : Nat) (M : Nat → Bool) : Prop where
  count : (List.range n).countP M = k
  first : ∀ i j, i < n → j < n → M i = true → M j = false → before r i j

theorem Top.zero {r : Nat → Int} {n : Nat} : Top r n 0 (fun _ => false) := ⟨by simp, fun _ _ _ _ h => by cases h⟩
theorem Top.step {r : Nat → Int} {n k b : Nat} {M : Nat → Bool} (h : Top r n k M) (hb : b < n) (hm : M b = false) (hmin : ∀ j, j < n → M j = false → j ≠ b → before r b j) :
    Top r n (k + 1) (fun i => decide (i = b) || M i) where
  count := by
    have : ∀ l : List Nat, l.Nodup → b ∈ l → l.countP (fun i => decide (i = b) || M i) = l.countP M + 1 := by
      intro l
      induction l with
      | nil => intro _ h; cases h
      | cons x l ih =>
        intro hnd hmem
        obtain ⟨h1, h2⟩ := List.nodup_cons.1 hnd
        rw [List.countP_cons, List.countP_cons]
        rcases List.mem_cons.1 hmem with rfl | hmem
        · have : l.countP (fun i => decide (i = b) || M i) = l.countP M := List.countP_congr fun y hy => by
            have : y ≠ b := by rintro rfl; exact h1 hy
            simp [this]
          rw [this]; simp [hm]
        · have hx : x ≠ b := by rintro rfl; exact h1 hmem
          rw [ih h2 hmem]; simp [hx]; omega
    rw [this _ List.nodup_range (List.mem_range.2 hb), h.count]
  first i j hi hj h1 h2 := by
    simp only [Bool.or_eq_true, decide_eq_true_eq, Bool.or_eq_false_iff, decide_eq_false_iff_not] at h1 h2
    rcases h1 with rfl | h1
    · exact hmin j hj h2.2 h2.1
    · exact h.first i j hi hj h1 h2.2

theorem Top.sorted {r : Nat → Int} {n k : Nat} {l : List Nat} (hp : l.Perm (List.range n)) (hs : l.Pairwise (before r)) (hk : k ≤ n) : Top r n k (fun i => decide (i ∈ l.take k)) where
  count := by
    rw [← hp.countP_eq]
    have hnd : l.Nodup := hp.nodup_iff.2 List.nodup_range
    have hl : l.length = n := by simpa using hp.length_eq
    conv => lhs; rw [← List.take_append_drop k l]
    rw [List.countP_append]
    have e1 : (l.take k).countP (fun i => decide (i ∈ (List.take k l ++ List.drop k l).take k)) = k := by
      have : (l.take k).length = k := by simp; omega
      conv => rhs; rw [← this]
      rw [List.countP_eq_length]
      intro x hx
      simpa using hx
    have e2 : (l.drop k).countP (fun i => decide (i ∈ (List.take k l ++ List.drop k l).take k)) = 0 := by
      rw [List.countP_eq_zero]
      intro x hx
      rw [List.take_append_drop]
      simp only [decide_eq_true_eq]
      intro hx2
      have := (List.take_append_drop k l) ▸ hnd
      rw [List.nodup_append] at this
      exact this.2.2 x hx2 x hx rfl
    rw [e1, e2]; rfl
  first i j hi hj h1 h2 := by
    simp only [decide_eq_true_eq, decide_eq_false_iff_not] at h1 h2
    have hjl : j ∈ l := hp.mem_iff.2 (List.mem_range.2 hj)
    rw [← List.take_append_drop k l] at hjl hs
    rcases List.mem_append.1 hjl with h | h
    · exact absurd h h2
    · exact (List.pairwise_append.1 hs).2.2 i h1 j h

def effC (c : List Int) : List Int := if 0 < c.sum then c else List.replicate c.length 1
def effT (c : List Int) : Int := if 0 < c.sum then c.sum else c.length
def partAt (sp : Int) (c : List Int) (i : Nat) : Int := sp * (effC c).getD i 0 / effT c
def restAt (sp : Int) (c : List Int) (i : Nat) : Int := sp * (effC c).getD i 0 % effT c
def spareOf (grain least : Int) (c : List Int) : Int := grain - least * c.length
def leftOf (sp : Int) (c : List Int) : Int := sp - ((List.range c.length).map (partAt sp c)).sum

theorem effC_len (c : List Int) : (effC c).length = c.length := by unfold effC; split <;> simp
theorem effC_sum (c : List Int) : (effC c).sum = effT c := by
  unfold effC effT; split
  · rfl
  · simp
theorem effC_nonneg {c : List Int} (h : ∀ x ∈ c, 0 ≤ x) : ∀ x ∈ effC c, 0 ≤ x := by
  unfold effC; split
  · exact h
  · intro x hx; rw [List.mem_replicate] at hx; omega
theorem effT_pos {c : List Int} (h : 0 < c.length) : 0 < effT c := by unfold effT; split <;> omega
theorem sum_getD : ∀ (l : List Int), ((List.range l.length).map fun i => l.getD i 0).sum = l.sum := by
  intro l
  have : ((List.range l.length).map fun i => l.getD i 0) = l := by
    apply List.ext_getElem
    · simp
    · intro i h1 h2; simp at h1 ⊢; simp [h1]
  rw [this]
theorem sum_map_add' (l : List Nat) (f g : Nat → Int) : (l.map fun i => f i + g i).sum = (l.map f).sum + (l.map g).sum := by
  induction l with
  | nil => rfl
  | cons x l ih => simp only [List.map_cons, List.sum_cons, ih]; omega
theorem sum_map_mul' (l : List Nat) (k : Int) (f : Nat → Int) : (l.map fun i => k * f i).sum = k * (l.map f).sum := by
  induction l with
  | nil => simp
  | cons x l ih => simp only [List.map_cons, List.sum_cons, ih]; rw [Int.mul_add]
theorem sum_le_const {l : List Nat} {f : Nat → Int} {b : Int} (h : ∀ i ∈ l, f i ≤ b) : (l.map f).sum ≤ b * l.length := by
  induction l with
  | nil => simp
  | cons x l ih =>
    have h1 := ih fun i hi => h i (by simp [hi])
    have h2 := h x (by simp)
    simp only [List.map_cons, List.sum_cons, List.length_cons]
    have : b * ((l.length + 1 : Nat) : Int) = b * l.length + b := by push_cast; rw [Int.mul_add]; simp
    omega
theorem sum_nonneg' {l : List Nat} {f : Nat → Int} (h : ∀ i ∈ l, 0 ≤ f i) : 0 ≤ (l.map f).sum := by
  induction l with
  | nil => simp
  | cons x l ih =>
    have h1 := ih fun i hi => h i (by simp [hi])
    have h2 := h x (by simp)
    simp only [List.map_cons, List.sum_cons]; omega

theorem rest_bound {sp : Int} {c : List Int} (h : 0 < c.length) (i : Nat) : 0 ≤ restAt sp c i ∧ restAt sp c i < effT c :=
  ⟨Int.emod_nonneg _ (by have := effT_pos h; omega), Int.emod_lt_of_pos _ (effT_pos h)⟩
theorem left_mul {sp : Int} {c : List Int} (h : 0 < c.length) : leftOf sp c * effT c = ((List.range c.length).map (restAt sp c)).sum := by
  have e : ∀ i, sp * (effC c).getD i 0 = effT c * partAt sp c i + restAt sp c i := fun i => by
    unfold partAt restAt
    exact (Int.mul_ediv_add_emod _ _).symm
  have h1 : ((List.range c.length).map fun i => sp * (effC c).getD i 0).sum = sp * effT c := by
    rw [sum_map_mul', ← effC_len c, sum_getD, effC_sum]
  have h2 : ((List.range c.length).map fun i => sp * (effC c).getD i 0).sum = effT c * ((List.range c.length).map (partAt sp c)).sum + ((List.range c.length).map (restAt sp c)).sum := by
    rw [← sum_map_mul', ← sum_map_add']
    congr 1
    exact List.map_congr_left fun i _ => e i
  unfold leftOf
  rw [Int.sub_mul, ← h1, h2, Int.mul_comm (effT c)]
  omega
theorem left_bound {sp : Int} {c : List Int} (h : 0 < c.length) : 0 ≤ leftOf sp c ∧ leftOf sp c < c.length := by
  have hT := effT_pos h
  have e := left_mul (sp := sp) h
  have h0 : 0 ≤ ((List.range c.length).map (restAt sp c)).sum := sum_nonneg' fun i _ => (rest_bound h i).1
  have h1 : ((List.range c.length).map (restAt sp c)).sum ≤ (effT c - 1) * (List.range c.length).length := sum_le_const fun i _ => by have := (rest_bound (sp := sp) h i).2; omega
  rw [← e] at h0 h1
  simp only [List.length_range] at h1
  constructor
  · exact Classical.byContradiction fun hn => by
      have : leftOf sp c * effT c < 0 := Int.mul_neg_of_neg_of_pos (by omega) hT
      omega
  · exact Classical.byContradiction fun hn => by
      have h3 : (c.length : Int) * effT c ≤ leftOf sp c * effT c := Int.mul_le_mul_of_nonneg_right (by omega) (by omega)
      have h4 : (effT c - 1) * (c.length : Int) = c.length * effT c - c.length := by rw [Int.sub_mul, Int.mul_comm]; omega
      omega

def sharesM (least sp : Int) (c : List Int) (M : Nat → Bool) : List Int := (List.range c.length).map fun i => least + partAt sp c i + if M i then 1 else 0
def ShareOk (least sp : Int) (c s : List Int) : Prop := ∃ M, Top (restAt sp c) c.length (leftOf sp c).toNat M ∧ s = sharesM least sp c M
end Go.Proofs
namespace Go.Proofs

def sumR (n : Nat) (f : Nat → Int) : Int := ((List.range n).map f).sum
theorem sumR_add (n : Nat) (f g : Nat → Int) : sumR n (fun i => f i + g i) = sumR n f + sumR n g := sum_map_add' _ _ _
theorem sumR_mul (n : Nat) (k : Int) (f : Nat → Int) : sumR n (fun i => k * f i) = k * sumR n f := sum_map_mul' _ _ _
theorem sumR_congr {n : Nat} {f g : Nat → Int} (h : ∀ i, i < n → f i = g i) : sumR n f = sumR n g := by
  unfold sumR; rw [List.map_congr_left fun i hi => h i (List.mem_range.1 hi)]
theorem sum_map_le {l : List Nat} {f g : Nat → Int} (h : ∀ i ∈ l, f i ≤ g i) : (l.map f).sum ≤ (l.map g).sum := by
  induction l with
  | nil => simp
  | cons x l ih =>
    have h1 := ih fun i hi => h i (by simp [hi])
    have h2 := h x (by simp)
    simp only [List.map_cons, List.sum_cons]; omega
theorem sumR_le {n : Nat} {f g : Nat → Int} (h : ∀ i, i < n → f i ≤ g i) : sumR n f ≤ sumR n g := sum_map_le fun i hi => h i (List.mem_range.1 hi)
theorem sumR_succ (n : Nat) (f : Nat → Int) : sumR (n + 1) f = sumR n f + f n := by
  unfold sumR; rw [List.range_succ]; simp
theorem count_sum (l : List Nat) (p : Nat → Bool) : ((l.countP p : Nat) : Int) = (l.map fun i => if p i then (1 : Int) else 0).sum := by
  induction l with
  | nil => rfl
  | cons x l ih =>
    rw [List.countP_cons]
    cases h : p x
    · simp [ih, h]
    · simp [ih, h]; omega

theorem threshold (l : List Nat) (p : Nat → Bool) (g : Nat → Int) : ∃ θ : Int, 0 ≤ θ ∧ (∀ i ∈ l, p i = true → g i ≤ θ) ∧ (θ = 0 ∨ ∃ i ∈ l, p i = true ∧ θ = g i) := by
  induction l with
  | nil => exact ⟨0, by omega, fun i h => (by cases h), .inl rfl⟩
  | cons x l ih =>
    obtain ⟨θ, h0, h1, h2⟩ := ih
    by_cases hx : p x = true ∧ θ < g x
    · refine ⟨g x, by omega, fun i hi hp => ?_, .inr ⟨x, by simp, hx.1, rfl⟩⟩
      rcases List.mem_cons.1 hi with rfl | hi
      · exact Int.le_refl _
      · have := h1 i hi hp; omega
    · refine ⟨θ, h0, fun i hi hp => ?_, ?_⟩
      · rcases List.mem_cons.1 hi with rfl | hi
        · exact Classical.byContradiction fun hn => hx ⟨hp, by omega⟩
        · exact h1 i hi hp
      · rcases h2 with h2 | ⟨i, hi, hp, he⟩
        · exact .inl h2
        · exact .inr ⟨i, by simp [hi], hp, he⟩

theorem least_sum {n : Nat} {M N : Nat → Bool} {g : Nat → Int} (hg : ∀ i, i < n → 0 ≤ g i) (hM : ∀ i j, i < n → j < n → M i = true → M j = false → g i ≤ g j) (hc : (List.range n).countP M ≤ (List.range n).countP N) :
    sumR n (fun i => if M i then g i else 0) ≤ sumR n (fun i => if N i then g i else 0) := by
  obtain ⟨θ, h0, h1, h2⟩ := threshold (List.range n) M g
  have h3 : ∀ j, j < n → M j = false → θ ≤ g j := fun j hj hm => by
    rcases h2 with rfl | ⟨i, hi, hp, rfl⟩
    · exact hg j hj
    · exact hM i j (List.mem_range.1 hi) hj hp hm
  have hpt : sumR n (fun i => (if M i then g i else 0) + θ * (if N i then 1 else 0)) ≤ sumR n (fun i => (if N i then g i else 0) + θ * (if M i then 1 else 0)) := by
    refine sumR_le fun i hi => ?_
    have a := h1 i (List.mem_range.2 hi)
    have b := h3 i hi
    cases hm : M i <;> cases hn : N i
    · simp
    · simp; exact b hm
    · simp; exact a hm
    · simp
  rw [sumR_add, sumR_add, sumR_mul, sumR_mul] at hpt
  have e1 : sumR n (fun i => if M i then (1 : Int) else 0) = ((List.range n).countP M : Nat) := (count_sum _ _).symm
  have e2 : sumR n (fun i => if N i then (1 : Int) else 0) = ((List.range n).countP N : Nat) := (count_sum _ _).symm
  rw [e1, e2] at hpt
  have h4 : θ * ((List.range n).countP M : Nat) ≤ θ * ((List.range n).countP N : Nat) := Int.mul_le_mul_of_nonneg_left (by omega) h0
  omega

def absI (d : Int) : Int := max d (-d)
def posI (d : Int) : Int := max d 0
theorem abs_pos (d : Int) : absI d = 2 * posI d + (-1) * d := by unfold absI posI; omega
theorem abs_neg (d : Int) : absI d = 2 * posI (-d) + d := by unfold absI posI; omega

theorem abs_sum1 {n : Nat} {f : Nat → Int} (h : sumR n f = 0) : sumR n (fun i => absI (f i)) = 2 * sumR n (fun i => posI (f i)) := by
  rw [sumR_congr fun i _ => abs_pos _, sumR_add, sumR_mul, sumR_mul, h]; omega
theorem abs_sum2 {n : Nat} {f : Nat → Int} (h : sumR n f = 0) : sumR n (fun i => absI (f i)) = 2 * sumR n (fun i => posI (-f i)) := by
  rw [sumR_congr fun i _ => abs_neg _, sumR_add, sumR_mul, h]; omega
theorem countP_not (l : List Nat) (p : Nat → Bool) : l.countP (fun i => !p i) + l.countP p = l.length := by
  induction l with
  | nil => rfl
  | cons x l ih =>
    rw [List.countP_cons, List.countP_cons, List.length_cons]
    cases h : p x <;> simp <;> omega

theorem nearest {n : Nat} {t k : Nat} {ρ q x : Nat → Int} {M : Nat → Bool} (hρ : ∀ i, i < n → 0 ≤ ρ i ∧ ρ i < t) (hM : Top ρ n k M)
    (h0 : sumR n (fun i => (t : Int) * (q i + (if M i then 1 else 0)) - (t * q i + ρ i)) = 0) (h1 : sumR n (fun i => (t : Int) * x i - (t * q i + ρ i)) = 0) :
    sumR n (fun i => absI (t * (q i + (if M i then 1 else 0)) - (t * q i + ρ i))) ≤ sumR n (fun i => absI (t * x i - (t * q i + ρ i))) := by
  let N : Nat → Bool := fun i => decide (q i + 1 ≤ x i)
  have ge : ∀ i j, i < n → j < n → M i = true → M j = false → ρ j ≤ ρ i := fun i j hi hj a b => by
    have := hM.first i j hi hj a b
    unfold before at this; omega
  rcases Nat.le_total k ((List.range n).countP N) with hk | hk
  · rw [abs_sum1 h0, abs_sum1 h1]
    have a1 : sumR n (fun i => posI (t * (q i + (if M i then 1 else 0)) - (t * q i + ρ i))) = sumR n (fun i => if M i then t - ρ i else 0) := sumR_congr fun i hi => by
      have := hρ i hi
      rw [Int.mul_add]
      unfold posI
      cases M i <;> simp <;> omega
    have a2 : sumR n (fun i => if N i then t - ρ i else 0) ≤ sumR n (fun i => posI (t * x i - (t * q i + ρ i))) := sumR_le fun i hi => by
      have := hρ i hi
      unfold posI
      by_cases h : q i + 1 ≤ x i
      · have h5 : (t : Int) * (q i + 1) ≤ t * x i := Int.mul_le_mul_of_nonneg_left h (by omega)
        rw [Int.mul_add] at h5
        simp only [N, h, decide_true, if_true]
        omega
      · simp only [N, h, decide_false, Bool.false_eq_true, if_false]
        omega
    have a3 := least_sum (M := M) (N := N) (g := fun i => t - ρ i) (fun i hi => by have := hρ i hi; omega) (fun i j hi hj a b => by have := ge i j hi hj a b; omega) (by rw [hM.count]; exact hk)
    rw [a1]
    omega
  · rw [abs_sum2 h0, abs_sum2 h1]
    have a1 : sumR n (fun i => posI (-(t * (q i + (if M i then 1 else 0)) - (t * q i + ρ i)))) = sumR n (fun i => if !M i then ρ i else 0) := sumR_congr fun i hi => by
      have := hρ i hi
      rw [Int.mul_add]
      unfold posI
      cases M i <;> simp <;> omega
    have a2 : sumR n (fun i => if !N i then ρ i else 0) ≤ sumR n (fun i => posI (-(t * x i - (t * q i + ρ i)))) := sumR_le fun i hi => by
      have := hρ i hi
      unfold posI
      by_cases h : q i + 1 ≤ x i
      · simp only [N, h, decide_true, Bool.not_true, Bool.false_eq_true, if_false]
        omega
      · have h5 : (t : Int) * x i ≤ t * q i := Int.mul_le_mul_of_nonneg_left (by omega) (by omega)
        simp only [N, h, decide_false, Bool.not_false, if_true]
        omega
    have c1 := countP_not (List.range n) M
    have c2 := countP_not (List.range n) N
    have a3 := least_sum (M := fun i => !M i) (N := fun i => !N i) (g := ρ) (fun i hi => (hρ i hi).1) (fun i j hi hj a b => by
      simp only [Bool.not_eq_true', Bool.not_eq_false'] at a b
      exact ge j i hj hi b a) (by have := hM.count; omega)
    rw [a1]
    omega
end Go.Proofs
namespace Go.Proofs
theorem shares_len (least sp : Int) (c : List Int) (M : Nat → Bool) : (sharesM least sp c M).length = c.length := by simp [sharesM]
theorem shares_get {least sp : Int} {c : List Int} {M : Nat → Bool} {i : Nat} (h : i < c.length) : (sharesM least sp c M)[i]? = some (least + partAt sp c i + if M i then 1 else 0) := by
  unfold sharesM; rw [List.getElem?_map, List.getElem?_range h]; rfl
theorem sum_const (n : Nat) (a : Int) : ((List.range n).map fun _ => a).sum = a * n := by
  induction n with
  | zero => simp
  | succ n ih => rw [List.range_succ, List.map_append, List.sum_append, ih]; simp; rw [Int.mul_add, Int.mul_one]
theorem eff_nn {c : List Int} (h : ∀ x ∈ c, 0 ≤ x) (i : Nat) : 0 ≤ (effC c).getD i 0 := by
  rw [List.getD_eq_getElem?_getD]
  cases e : (effC c)[i]? with
  | none => exact Int.le_refl _
  | some a => exact effC_nonneg h a (List.mem_of_getElem? e)
theorem part_nn {c : List Int} (h : ∀ x ∈ c, 0 ≤ x) (h0 : 0 < c.length) {sp : Int} (hs : 0 ≤ sp) (i : Nat) : 0 ≤ partAt sp c i :=
  Int.ediv_nonneg (Int.mul_nonneg hs (eff_nn h i)) (Int.le_of_lt (effT_pos h0))
theorem part_rest (sp : Int) (c : List Int) (i : Nat) : effT c * partAt sp c i + restAt sp c i = sp * (effC c).getD i 0 := Int.mul_ediv_add_emod ..
theorem share_sum {least grain : Int} {c s : List Int} (h0 : 0 < c.length) (h : ShareOk least (spareOf grain least c) c s) : s.length = c.length ∧ s.sum = grain := by
  obtain ⟨M, hM, rfl⟩ := h
  refine ⟨shares_len .., ?_⟩
  have hb := left_bound (sp := spareOf grain least c) h0
  have hc := count_sum (List.range c.length) M
  rw [hM.count] at hc
  have e1 : (sharesM least (spareOf grain least c) c M).sum = ((List.range c.length).map fun _ => least).sum + (((List.range c.length).map (partAt (spareOf grain least c) c)).sum + ((List.range c.length).map fun i => if M i then (1 : Int) else 0).sum) := by
    rw [← sum_map_add', ← sum_map_add']
    unfold sharesM
    congr 1
    exact List.map_congr_left fun i _ => by omega
  rw [e1, sum_const, ← hc]
  have : ((leftOf (spareOf grain least c) c).toNat : Int) = leftOf (spareOf grain least c) c := by omega
  rw [this]
  unfold leftOf spareOf
  omega
theorem share_ge {least grain : Int} {c s : List Int} (hc : ∀ x ∈ c, 0 ≤ x) (h0 : 0 < c.length) (hs : 0 ≤ spareOf grain least c) (h : ShareOk least (spareOf grain least c) c s) : ∀ x ∈ s, least ≤ x := by
  obtain ⟨M, hM, rfl⟩ := h
  intro x hx
  unfold sharesM at hx
  obtain ⟨i, hi, rfl⟩ := List.mem_map.1 hx
  have := part_nn hc h0 hs i
  split <;> omega
theorem sum_ge_mem : ∀ {l : List Int}, (∀ x ∈ l, 0 ≤ x) → ∀ x ∈ l, x ≤ l.sum
  | a :: l, h, x, hx => by
    have h1 : 0 ≤ l.sum := by
      have : ∀ l : List Int, (∀ x ∈ l, 0 ≤ x) → 0 ≤ l.sum := by
        intro l
        induction l with
        | nil => intro _; simp
        | cons b l ih => intro h; have := h b (by simp); have := ih fun x hx => h x (by simp [hx]); rw [List.sum_cons]; omega
      exact this l fun x hx => h x (by simp [hx])
    rw [List.sum_cons]
    rcases List.mem_cons.1 hx with rfl | hx
    · omega
    · have := sum_ge_mem (fun y hy => h y (by simp [hy])) x hx
      have := h a (by simp)
      omega
theorem share_mono {least grain : Int} {c s : List Int} (h0 : 0 < c.length) (hs : 0 ≤ spareOf grain least c) (h : ShareOk least (spareOf grain least c) c s) {i j : Nat} (hi : i < c.length) (hj : j < c.length) (hlt : (effC c).getD j 0 < (effC c).getD i 0) : s.getD j 0 ≤ s.getD i 0 := by
  obtain ⟨M, hM, rfl⟩ := h
  obtain ⟨sp, hsp⟩ : ∃ sp, sp = spareOf grain least c := ⟨_, rfl⟩
  rw [← hsp] at hs hM ⊢
  rw [List.getD_eq_getElem?_getD, List.getD_eq_getElem?_getD, shares_get hi, shares_get hj]
  simp only [Option.getD_some]
  have hT := effT_pos h0
  have ei := part_rest sp c i
  have ej := part_rest sp c j
  have ri := rest_bound (sp := sp) h0 i
  have rj := rest_bound (sp := sp) h0 j
  have hle : sp * (effC c).getD j 0 ≤ sp * (effC c).getD i 0 := Int.mul_le_mul_of_nonneg_left (Int.le_of_lt hlt) hs
  have hpart : partAt sp c j ≤ partAt sp c i := Int.ediv_le_ediv hT hle
  rcases Int.lt_or_eq_of_le hpart with hp | hp
  · have a1 : (if M j then (1 : Int) else 0) ≤ 1 := by split <;> omega
    have a2 : (0 : Int) ≤ if M i then 1 else 0 := by split <;> omega
    omega
  · have a3 : M j = true → M i = true := fun hm => by
      rcases Bool.eq_false_or_eq_true (M i) with e | e
      · exact e
      have hb := hM.first j i hj hi hm e
      rcases Int.lt_or_eq_of_le hs with hs0 | hs0
      · have : sp * (effC c).getD j 0 < sp * (effC c).getD i 0 := Int.mul_lt_mul_of_pos_left hlt hs0
        rw [hp] at ej
        unfold before at hb
        omega
      · have hz : leftOf sp c = 0 := by
          rw [← hs0]
          unfold leftOf partAt
          have : ((List.range c.length).map fun i => 0 * (effC c).getD i 0 / effT c).sum = ((List.range c.length).map fun _ => (0 : Int)).sum := by
            congr 1
            exact List.map_congr_left fun i _ => by rw [Int.zero_mul, Int.zero_ediv]
          rw [this, sum_const]
          omega
        have hcnt := hM.count
        rw [hz] at hcnt
        have := List.countP_eq_zero.1 hcnt j (List.mem_range.2 hj)
        exact absurd hm this
    rw [hp]
    cases hmj : M j with
    | false =>
      have a2 : (0 : Int) ≤ if M i then 1 else 0 := by split <;> omega
      simp only [Bool.false_eq_true, if_false]
      omega
    | true =>
      rw [a3 hmj]
      omega
def distL (c w : List Int) (grain least : Int) : Int := sumR c.length fun i => absI (c.sum * (w.getD i 0 - least) - (grain - least * c.length) * c.getD i 0)
theorem share_near {least grain : Int} {c s w : List Int} (h0 : 0 < c.length) (h : ShareOk least (spareOf grain least c) c s) (hw : w.length = c.length) (hws : w.sum = grain) : distL (effC c) s grain least ≤ distL (effC c) w grain least := by
  have hsum := share_sum h0 h
  obtain ⟨M, hM, rfl⟩ := h
  obtain ⟨sp, hsp⟩ : ∃ sp, sp = spareOf grain least c := ⟨_, rfl⟩
  have hT := effT_pos h0
  obtain ⟨t, ht⟩ := Int.eq_ofNat_of_zero_le (Int.le_of_lt hT)
  have hl := effC_len c
  have hes := effC_sum c
  rw [← hsp] at hM hsum ⊢
  have hpr := fun i => part_rest sp c i
  rw [ht] at hpr hes
  have hgr : grain - least * c.length = sp := hsp.symm
  have key : ∀ x : Nat → Int, sumR c.length x = sp → sumR c.length (fun i => (t : Int) * x i - (t * partAt sp c i + restAt sp c i)) = 0 := fun x hx => by
    have e1 : sumR c.length (fun i => (t : Int) * x i - (t * partAt sp c i + restAt sp c i)) = sumR c.length (fun i => (t : Int) * x i + (-sp) * (effC c).getD i 0) := sumR_congr fun i _ => by rw [hpr, Int.neg_mul]; omega
    rw [e1, sumR_add, sumR_mul, sumR_mul, hx]
    have e2 : sumR c.length (fun i => (effC c).getD i 0) = t := by
      have := sum_getD (effC c)
      rw [hl, hes] at this
      exact this
    rw [e2, Int.neg_mul, Int.mul_comm]
    omega
  have sumw : ∀ l : List Int, l.length = c.length → l.sum = grain → sumR c.length (fun i => l.getD i 0 - least) = sp := fun l h1 h2 => by
    have e1 : sumR c.length (fun i => l.getD i 0 - least) = sumR c.length (fun i => l.getD i 0 + (-least)) := sumR_congr fun i _ => by omega
    rw [e1, sumR_add]
    have e2 : sumR c.length (fun i => l.getD i 0) = grain := by
      have := sum_getD l
      rw [h1, h2] at this
      exact this
    have e3 : sumR c.length (fun _ => -least) = (-least) * c.length := sum_const _ _
    rw [e2, e3, Int.neg_mul]
    omega
  have hS : ∀ i, i < c.length → (sharesM least sp c M).getD i 0 - least = partAt sp c i + if M i then 1 else 0 := fun i hi => by
    rw [List.getD_eq_getElem?_getD, shares_get hi]
    simp only [Option.getD_some]
    omega
  have h0' := key (fun i => partAt sp c i + if M i then 1 else 0) ((sumR_congr fun i hi => (hS i hi).symm).trans (sumw _ hsum.1 hsum.2))
  have h1' := key (fun i => w.getD i 0 - least) (sumw w hw hws)
  have hn := nearest (n := c.length) (t := t) (k := (leftOf sp c).toNat) (ρ := restAt sp c) (q := partAt sp c) (x := fun i => w.getD i 0 - least) (M := M) (fun i hi => by have := rest_bound (sp := sp) h0 i; rw [ht] at this; exact this) hM h0' h1'
  unfold distL
  rw [hl, hes, hgr]
  refine Int.le_trans (Int.le_of_eq (sumR_congr fun i hi => ?_)) (Int.le_trans hn (Int.le_of_eq (sumR_congr fun i hi => ?_)))
  · rw [hS i hi, hpr]
  · rw [hpr]
end Go.Proofs
namespace Go.Proofs
open Go.Hx
theorem getD_set {α : Type} (l : List α) (i j : Nat) (a d : α) (hi : i < l.length) : (l.set i a).getD j d = if i = j then a else l.getD j d := by
  rw [List.getD_eq_getElem?_getD, List.getD_eq_getElem?_getD, List.getElem?_set]
  by_cases h : i = j
  · subst h; rw [if_pos rfl, if_pos hi, if_pos rfl]; rfl
  · rw [if_neg h, if_neg h]
theorem lget {l : List Nat} {i : Nat} (h : i < l.length) : l[i]? = some (l.getD i 0) := by
  rw [List.getD_eq_getElem?_getD, List.getElem?_eq_getElem h]; rfl
def swapL (l : List Nat) (i j : Nat) : List Nat := (l.set i (l.getD j 0)).set j (l.getD i 0)
theorem swapL_get {l : List Nat} {i j : Nat} (hi : i < l.length) (hj : j < l.length) (hij : i ≠ j) (a : Nat) : (swapL l i j).getD a 0 = if a = j then l.getD i 0 else if a = i then l.getD j 0 else l.getD a 0 := by
  unfold swapL
  rw [getD_set _ _ _ _ _ (by rw [List.length_set]; exact hj), getD_set _ _ _ _ _ hi]
  by_cases h1 : a = j
  · rw [if_pos h1, if_pos h1.symm]
  · rw [if_neg h1, if_neg fun h => h1 h.symm]
    by_cases h2 : a = i
    · rw [if_pos h2, if_pos h2.symm]
    · rw [if_neg h2, if_neg fun h => h2 h.symm]
def Srt (f : Nat → Nat) (l : List Nat) (n : Nat) : Prop := ∀ a b, a < b → b < n → f (l.getD a 0) ≤ f (l.getD b 0)
def Ins (f : Nat → Nat) (l : List Nat) (i j : Nat) : Prop := (∀ a b, a < b → b ≤ i → a ≠ j → b ≠ j → f (l.getD a 0) ≤ f (l.getD b 0)) ∧ ∀ b, j < b → b ≤ i → f (l.getD j 0) ≤ f (l.getD b 0)
theorem ins_start {f : Nat → Nat} {l : List Nat} {i : Nat} (h : Srt f l i) : Ins f l i i := ⟨fun a b h1 h2 h3 h4 => h a b h1 (by omega), fun b h1 h2 => by omega⟩
theorem ins_done {f : Nat → Nat} {l : List Nat} {i j : Nat} (h : Ins f l i j) (hj : j ≤ i) (hd : j = 0 ∨ f (l.getD (j - 1) 0) ≤ f (l.getD j 0)) : Srt f l (i + 1) := by
  intro a b h1 h2
  by_cases hb : b = j
  · subst hb
    rcases hd with h0 | h0
    · omega
    · by_cases ha : a = b - 1
      · rw [ha]; exact h0
      · exact Nat.le_trans (h.1 a (b - 1) (by omega) (by omega) (by omega) (by omega)) h0
  · by_cases ha : a = j
    · subst ha; exact h.2 b h1 (by omega)
    · exact h.1 a b h1 (by omega) ha hb
theorem ins_step {f : Nat → Nat} {l : List Nat} {i j : Nat} (h : Ins f l i j) (hj : j ≤ i) (hi : i < l.length) (h0 : 0 < j) (hlt : f (l.getD j 0) < f (l.getD (j - 1) 0)) : Ins f (swapL l j (j - 1)) i (j - 1) := by
  have g := swapL_get (l := l) (i := j) (j := j - 1) (by omega) (by omega) (by omega)
  constructor
  · intro a b h1 h2 h3 h4
    rw [g a, g b, if_neg h3, if_neg h4]
    by_cases ha : a = j
    · rw [if_pos ha, if_neg (by omega)]
      exact h.1 (j - 1) b (by omega) h2 (by omega) (by omega)
    · rw [if_neg ha]
      by_cases hb : b = j
      · rw [if_pos hb]
        exact h.1 a (j - 1) (by omega) (by omega) ha (by omega)
      · rw [if_neg hb]
        exact h.1 a b h1 h2 ha hb
  · intro b h1 h2
    rw [g (j - 1), if_pos rfl, g b, if_neg (by omega)]
    by_cases hb : b = j
    · rw [if_pos hb]; exact Nat.le_of_lt hlt
    · rw [if_neg hb]; exact h.2 b (by omega) h2
theorem swapL_perm {l : List Nat} {i j : Nat} (hi : i < l.length) (hj : j < l.length) : (swapL l i j).Perm l := by
  unfold swapL
  rw [List.getD_eq_getElem?_getD, List.getD_eq_getElem?_getD, List.getElem?_eq_getElem hi, List.getElem?_eq_getElem hj]
  exact List.set_set_perm hi hj
def rankF (r : Nat → Int) (T n : Nat) (i : Nat) : Nat := (T - (r i).toNat) * n + i
theorem rank_lt {r : Nat → Int} {T n : Nat} (hr : ∀ i, i < n → 0 ≤ r i ∧ r i < T) {i j : Nat} (hi : i < n) (hj : j < n) : rankF r T n i < rankF r T n j ↔ before r i j := by
  have h1 := hr i hi
  have h2 := hr j hj
  unfold rankF before
  obtain ⟨a, ha⟩ : ∃ a, a = T - (r i).toNat := ⟨_, rfl⟩
  obtain ⟨b, hb⟩ : ∃ b, b = T - (r j).toNat := ⟨_, rfl⟩
  rw [← ha, ← hb]
  rcases Nat.lt_trichotomy a b with h | h | h
  · have : (a + 1) * n ≤ b * n := Nat.mul_le_mul_right _ h
    rw [Nat.add_mul, Nat.one_mul] at this
    constructor
    · intro _; left; omega
    · intro _; omega
  · subst h
    constructor
    · intro h; right; omega
    · rintro (h | h) <;> omega
  · have : (b + 1) * n ≤ a * n := Nat.mul_le_mul_right _ h
    rw [Nat.add_mul, Nat.one_mul] at this
    constructor
    · intro h; omega
    · rintro (h | h) <;> omega
theorem srt_before {r : Nat → Int} {T n : Nat} (hr : ∀ i, i < n → 0 ≤ r i ∧ r i < T) {l : List Nat} (hp : l.Perm (List.range n)) (hs : Srt (rankF r T n) l l.length) : l.Pairwise (before r) := by
  have hm : ∀ a ∈ l, a < n := fun a ha => List.mem_range.1 (hp.mem_iff.1 ha)
  have hnd : l.Nodup := hp.nodup_iff.2 List.nodup_range
  rw [List.pairwise_iff_getElem]
  intro i j hi hj hij
  have h := hs i j hij hj
  rw [List.getD_eq_getElem?_getD, List.getD_eq_getElem?_getD, List.getElem?_eq_getElem hi, List.getElem?_eq_getElem hj] at h
  simp only [Option.getD_some] at h
  have hne : l[i] ≠ l[j] := fun e => by
    have := (List.getElem?_inj hi hnd).1 (show l[i]? = l[j]? by rw [List.getElem?_eq_getElem hi, e, ← List.getElem?_eq_getElem hj])
    omega
  rcases before_tri hne (r := r) with b | b
  · exact b
  · have := (rank_lt hr (hm _ (List.getElem_mem hj)) (hm _ (List.getElem_mem hi))).2 b
    omega
end Go.Proofs
set_option linter.unusedVariables false
namespace Go.Proofs
theorem mem_take_succ {l : List Nat} {m i : Nat} (hi : l[m]? = some i) (a : Nat) : a ∈ l.take (m + 1) ↔ a ∈ l.take m ∨ a = i := by
  rw [List.take_add_one, hi]
  simp
theorem not_mem_take {l : List Nat} (hnd : l.Nodup) {m i : Nat} (hi : l[m]? = some i) : i ∉ l.take m := fun h => by
  obtain ⟨j, hj⟩ := List.mem_iff_getElem?.1 h
  have hjm : j < m := by
    have := get_lt hj
    rw [List.length_take] at this
    omega
  rw [List.getElem?_take_of_lt hjm] at hj
  have := (List.getElem?_inj (get_lt hj) hnd).1 (hj.trans hi.symm)
  omega
theorem shares_none (least sp : Int) (c : List Int) (l : List Nat) : sharesM least sp c (fun a => decide (a ∈ l.take 0)) = (List.range c.length).map fun i => least + partAt sp c i := by
  unfold sharesM
  refine List.map_congr_left fun i _ => ?_
  simp
theorem shares_at {least sp : Int} {c : List Int} {l : List Nat} (hnd : l.Nodup) {m i : Nat} (hi : l[m]? = some i) (hic : i < c.length) : (sharesM least sp c fun a => decide (a ∈ l.take m))[i]? = some (least + partAt sp c i) := by
  rw [shares_get hic, decide_eq_false (not_mem_take hnd hi)]
  simp
theorem shares_step {least sp : Int} {c : List Int} {l : List Nat} (hnd : l.Nodup) {m i : Nat} (hi : l[m]? = some i) (hic : i < c.length) : (sharesM least sp c fun a => decide (a ∈ l.take m)).set i (least + partAt sp c i + 1) = sharesM least sp c fun a => decide (a ∈ l.take (m + 1)) := by
  apply List.ext_getElem?
  intro a
  rw [List.getElem?_set]
  by_cases h : i = a
  · subst h
    rw [if_pos rfl, if_pos (by rw [shares_len]; exact hic), shares_get hic, decide_eq_true ((mem_take_succ hi i).2 (.inr rfl))]
    simp
  · rw [if_neg h]
    rcases Nat.lt_or_ge a c.length with ha | ha
    · rw [shares_get ha, shares_get ha]
      congr 2
      have : (a ∈ l.take (m + 1)) ↔ a ∈ l.take m := by rw [mem_take_succ hi]; exact ⟨fun h' => h'.elim id fun e => absurd e.symm h, .inl⟩
      simp only [this]
    · rw [List.getElem?_eq_none (by rw [shares_len]; exact ha), List.getElem?_eq_none (by rw [shares_len]; exact ha)]
theorem part_pos {sp : Int} {c : List Int} (h : 0 < c.sum) {i : Nat} {x : Int} (hx : c[i]? = some x) : partAt sp c i = sp * x / c.sum ∧ restAt sp c i = sp * x % c.sum := by
  unfold partAt restAt effC effT
  rw [if_pos h, if_pos h, List.getD_eq_getElem?_getD, hx]
  exact ⟨rfl, rfl⟩
theorem part_zero {sp : Int} {c : List Int} (h : ¬ 0 < c.sum) {i : Nat} (hi : i < c.length) : partAt sp c i = sp / c.length ∧ restAt sp c i = sp % c.length := by
  unfold partAt restAt effC effT
  rw [if_neg h, if_neg h, List.getD_eq_getElem?_getD, List.getElem?_replicate, if_pos hi]
  simp
def leftK (sp : Int) (c : List Int) (k : Nat) : Int := sp - ((List.range k).map (partAt sp c)).sum
theorem leftK_succ (sp : Int) (c : List Int) (k : Nat) : leftK sp c (k + 1) = leftK sp c k - partAt sp c k := by
  unfold leftK
  rw [List.range_succ, List.map_append, List.sum_append]
  simp
  omega
theorem part_le {sp : Int} {c : List Int} (hc : ∀ x ∈ c, 0 ≤ x) (h0 : 0 < c.length) (hs : 0 ≤ sp) (i : Nat) : partAt sp c i ≤ sp := by
  have hT := effT_pos h0
  refine Int.ediv_le_of_le_mul hT ?_
  have : (effC c).getD i 0 ≤ effT c := by
    rw [List.getD_eq_getElem?_getD]
    cases e : (effC c)[i]? with
    | none => exact Int.le_of_lt hT
    | some a =>
      have := sum_ge_mem (effC_nonneg hc) a (List.mem_of_getElem? e)
      rw [effC_sum] at this
      exact this
  exact Int.mul_le_mul_of_nonneg_left this hs
theorem leftK_rng {sp : Int} {c : List Int} (hc : ∀ x ∈ c, 0 ≤ x) (h0 : 0 < c.length) (hs : 0 ≤ sp) (k : Nat) : leftK sp c k ≤ sp ∧ sp - sp * k ≤ leftK sp c k := by
  induction k with
  | zero => simp [leftK]
  | succ k ih =>
    rw [leftK_succ]
    have h1 := part_nn hc h0 hs k
    have h2 := part_le hc h0 hs k
    have h3 : sp * ((k + 1 : Nat) : Int) = sp * k + sp := by push_cast; rw [Int.mul_add, Int.mul_one]
    omega
end Go.Proofs
namespace Go.Hx
variable {P : Program} {G : Nat → Option (List AVal)} {Γ Γ' : Gam} {H H' : AHeap} {w w' : World}
theorem W.midN {n : Nat} {rd : Option Nat} {Q : AX → St → Prop} {s : St} {x y : Code} (Φ : St → Prop) (h : W P G n rd x (fun ax s' => ax = .normal ∧ Φ s') s) (h2 : ∀ s', Φ s' → W P G n rd y Q s') : W P G n rd (.seq x y) Q s :=
  W.seq (h.mono fun ax s' ⟨e, hp⟩ => by subst e; exact h2 s' hp)
theorem upd_self {H : AHeap} {id : Nat} {b : Blk} (h : H.get id = some b) : H.upd id b = H := by
  have e : (fun j => if j = id then some b else H.get j) = H.get := by
    funext j
    by_cases hj : j = id
    · rw [if_pos hj, hj, h]
    · rw [if_neg hj]
  show AHeap.mk (fun j => if j = id then some b else H.get j) H.next = H
  rw [e]
theorem upd_upd (H : AHeap) (id : Nat) (b c : Blk) : (H.upd id b).upd id c = H.upd id c := by
  unfold AHeap.upd
  congr 1
  funext j
  by_cases hj : j = id <;> simp [hj]
end Go.Hx
namespace Go.Proofs
open Go.Hx
def natsJ (l : List Nat) : List Int := l.map fun (v : Nat) => (v : Int)
theorem natsJ_len (l : List Nat) : (natsJ l).length = l.length := by simp [natsJ]
theorem natsJ_get {l : List Nat} {i k : Nat} (h : l[i]? = some k) : (natsJ l)[i]? = some (k : Int) := by simp [natsJ, h]
theorem natsJ_set (l : List Nat) (i k : Nat) : (natsJ l).set i (k : Int) = natsJ (l.set i k) := by unfold natsJ; rw [List.map_set]
noncomputable def Tryd.epW : EP := { P := Tryd.prog, G := G0, gd := fun _ => none, known := knownOf [] }
theorem Tryd.epW_ok : EOk Tryd.epW := .of_known (l := []) rfl G0_ok Tryd.mixed (fun _ _ h => by cases h) trivial
theorem Tryd.works_chk : chk Tryd.epW 1000000 14 [] (.lit (.bool true)) = true := by kernel_rfl
theorem works_ok (H : AHeap) (K : ARes → AHeap → Prop) (hK : K (.ret (.lit (.bool true))) H) : ACall Tryd.prog G0 14 [] H K :=
  (ACall.frame (args' := []) G0_ok rfl (fun i h _ => absurd h (Nat.not_lt_zero _)) (chk_ok Tryd.epW_ok Tryd.works_chk)).mono fun r H' ⟨h1, h2⟩ => by rw [h1, h2]; exact hK
end Go.Proofs
namespace Go.Proofs.YtikgmgmphkalkaaDoor
open Go.ChangeShapes Go.WideShapes Go.ChangeAt Go.RowKit Go.Hx

theorem Tryd.own : ownKnob Tryd.prog.godebug = none := by kernel_rfl
theorem Tryd.laidOut : laidOutB Tryd.prog = true := by kernel_rfl
theorem Tryd.boolT : Tryd.prog.underlying 4 = some .bool := by kernel_rfl
def nameF : String := match (Rows.fitKnownRow.laid) with
  | p :: _ => p.1
  | [] => Tryd.f0.name
theorem Tryd.gFact : Tryd.prog.globalNamed nameF = some 0 := by kernel_rfl
theorem Tryd.tFact : (Tryd.prog.globals[0]?).map (·.type) = some 83 := by kernel_rfl
theorem Tryd.uFact : Tryd.prog.underlying 83 = some (.array 18 3) := by kernel_rfl
theorem Tryd.cFact : Tryd.prog.cellsOf 83 = 18 * Tryd.prog.cellsOf 3 := by kernel_rfl
theorem Tryd.door_met (os : Os) (args : Array Value) : laidMetH Tryd.prog Rows.fitKnownRow.laid ((World.doorLaid Tryd.prog 400 os).forCall (fun _ _ => 0) ⟨#[], args, []⟩).memory :=
  laidMetH_of_parts3 (fuel := 8) (laidMet_of_run' 8 (by kernel_rfl) (by kernel_rfl)) (by kernel_rfl) (by kernel_rfl)
theorem Tryd.glob_ok {W : World} (h : laidMetH Tryd.prog Rows.fitKnownRow.laid W) : GlobOk Tryd.prog G0 W := by
  rw [MakeChecks.laidMetH_plain _ _ _ (by kernel_rfl)] at h
  obtain ⟨ps, hL, _⟩ := h
  have hL' : DataW.LaidVars Tryd.prog W [(nameF, .agg (primesL.map fun n => .lit (.int .i64 n)))] ps := hL
  obtain ⟨h1, _⟩ := table_glob Tryd.gFact Tryd.tFact Tryd.uFact Tryd.underlying3 Tryd.cFact hL'
  intro g cells hg
  unfold G0 at hg
  split at hg
  · rename_i h0
    subst h0
    cases hg
    exact h1
  · cases hg
section
variable {W : World} {H : Type} {enc : TypeId × Value → H} {spare : Nat → Bool} {held : Bool}
theorem arg_bytes {r : Reach} {b : Nat} {v : Value} {d : DataW H} {ps : List MemPlace} (hval : Value.okWide Tryd.prog W r b 23 v) (hd : DataW.Trod enc Tryd.prog W 0 spare held 23 v d ps) :
    ∃ l : List Int, RelV Tryd.prog noG noH W (.vec l.length (bytesL l)) v ∧ (l.length : Int) < 2 ^ 63 ∧ ∀ x ∈ l, 0 ≤ x ∧ x ≤ 255 := by
  obtain ⟨l, h1, h2, h3⟩ := arg_ints Tryd.underlying23 Tryd.underlying5 Tryd.cells5 hval hd
  exact ⟨l, h1, by have : maxLen < 2 ^ 63 := by decide
                   omega, fun c hc => wf_u8 (h3 c hc)⟩
end
end Go.Proofs.YtikgmgmphkalkaaDoor
namespace Go.Proofs
open Go.Hx
def nB (g : Nat) (q : List Nat) : Blk := .arr g 3 (ints (natsJ q))
def CmpOk (cv : AVal) (f : Nat → Nat) (l : List Nat) (Inv : AHeap → Prop) : Prop := ∀ a b, a ∈ l → b ∈ l → ∀ Hx, Inv Hx → ∃ z : Int, (z < 0 ↔ f a < f b) ∧ ∀ K, K (.ret (lin z)) Hx → AApply Tryd.prog G0 cv [lin (a : Nat), lin (b : Nat)] Hx K
set_option maxHeartbeats 4000000 in
theorem insSort_spec {cv : AVal} {f : Nat → Nat} {Inv : AHeap → Prop} {id g : Nat} {l : List Nat} (hl : l.length ≤ 64) (h2 : 2 ≤ l.length) (H : AHeap) (hid : H.get id = some (nB g l)) (hInv : ∀ q, Inv (H.upd id (nB g q))) (hcmp : CmpOk cv f l Inv) (K : ARes → AHeap → Prop)
    (hK : ∀ l', l'.Perm l → Srt f l' l.length → K (.ret (.tup [])) (H.upd id (nB g l'))) :
    ACall Tryd.prog G0 96 [.own id g 0 l.length 1, lin 0, lin l.length, cv] H K := by
  refine ACall.of_bodyW (n := 53) (rs := []) Tryd.func96 rfl rfl rfl (by decide) (by simp) ?_
  refine W.seq (vc_sound _ _ _ (by rfl) ?_)
  simp (config := { maxSteps := 1000000 }) only [go_sem, appendA_U]
  refine W.env fun E hE => ?_
  have e0 : E 0 = .own id g 0 l.length 1 := by rw [hE]; simp (config := { maxSteps := 1000000 }) only [go_sem, appendA_U]
  have e1 : E 1 = lin 0 := by rw [hE]; simp (config := { maxSteps := 1000000 }) only [go_sem, appendA_U]
  have e2 : E 2 = lin l.length := by rw [hE]; simp (config := { maxSteps := 1000000 }) only [go_sem, appendA_U]
  have e3 : E 3 = cv := by rw [hE]; simp (config := { maxSteps := 1000000 }) only [go_sem, appendA_U]
  have e8 : E 8 = lin 1 := by rw [hE]; simp (config := { maxSteps := 1000000 }) only [go_sem, appendA_U]; rfl
  clear hE
  refine W.block ?_
  refine W.loop0 9007199254737664 (by rfl) (fun ρ Hx => ∃ (i : Nat) (q : List Nat), ρ 8 = lin i ∧ 1 ≤ i ∧ i ≤ l.length ∧ q.Perm l ∧ Srt f q i ∧ Hx = H.upd id (nB g q)) (fun ρ Hx => l.length - (iv (ρ 8)).toNat) ?_ ?_
  · exact ⟨1, l, e8, by omega, by omega, .refl _, fun a b h1 h2 => by omega, (upd_self hid).symm⟩
  rintro ρ Hx ⟨i, q, h8, hi1, hi, hq, hS, hHx⟩
  have ql := hq.length_eq
  refine W.env fun E1 hE1 => ?_
  have f0 : E1 0 = .own id g 0 l.length 1 := by rw [hE1]; simp (config := { maxSteps := 1000000 }) only [go_sem, e0, appendA_U]
  have f1 : E1 1 = lin 0 := by rw [hE1]; simp (config := { maxSteps := 1000000 }) only [go_sem, e1, appendA_U]
  have f2 : E1 2 = lin l.length := by rw [hE1]; simp (config := { maxSteps := 1000000 }) only [go_sem, e2, appendA_U]
  have f3 : E1 3 = cv := by rw [hE1]; simp (config := { maxSteps := 1000000 }) only [go_sem, e3, appendA_U]
  have f8 : E1 8 = lin i := by rw [hE1]; simp (config := { maxSteps := 1000000 }) only [go_sem, h8, appendA_U]
  clear hE1
  by_cases hb : (i : Int) < l.length
  rotate_left
  · refine vc_sound _ _ _ (by rfl) ?_
    simp (config := { maxSteps := 1000000 }) only [go_sem, f8, f2, hb, appendA_U]
    have hii : i = l.length := by omega
    rw [hii] at hS
    rw [hHx]
    exact FinV.mk (by rw [upd_next]; exact Nat.le_refl _) (hK q hq hS)
  refine W.seq (vc_sound _ _ _ (by rfl) ?_)
  simp (config := { maxSteps := 1000000 }) only [go_sem, f8, f2, hb, appendA_U]
  refine W.seq (W.block ?_)
  refine W.seq (vc_sound _ _ _ (by rfl) ?_)
  simp (config := { maxSteps := 1000000 }) only [go_sem, f8, appendA_U]
  refine W.env fun E2 hE2 => ?_
  have m0 : E2 0 = .own id g 0 l.length 1 := by rw [hE2]; simp (config := { maxSteps := 1000000 }) only [go_sem, f0, appendA_U]
  have m1 : E2 1 = lin 0 := by rw [hE2]; simp (config := { maxSteps := 1000000 }) only [go_sem, f1, appendA_U]
  have m3 : E2 3 = cv := by rw [hE2]; simp (config := { maxSteps := 1000000 }) only [go_sem, f3, appendA_U]
  have m8 : E2 8 = lin i := by rw [hE2]; simp (config := { maxSteps := 1000000 }) only [go_sem, f8, appendA_U]
  have m9 : E2 9 = lin i := by rw [hE2]; simp (config := { maxSteps := 1000000 }) only [go_sem, f8, appendA_U]
  clear hE2
  refine W.block ?_
  refine W.loop0 9007199254479360 (by rfl) (fun ρ Hz => ∃ (j : Nat) (p : List Nat), ρ 9 = lin j ∧ j ≤ i ∧ p.Perm l ∧ Ins f p i j ∧ Hz = H.upd id (nB g p)) (fun ρ Hz => (iv (ρ 9)).toNat) ?_ ?_
  · exact ⟨i, q, m9, Nat.le_refl _, hq, ins_start hS, hHx⟩
  rintro ρ2 Hz ⟨j, p, h9, hj, hp, hIn, hHz⟩
  have pl := hp.length_eq
  refine W.env fun E3 hE3 => ?_
  have u0 : E3 0 = .own id g 0 l.length 1 := by rw [hE3]; simp (config := { maxSteps := 1000000 }) only [go_sem, m0, appendA_U]
  have u1 : E3 1 = lin 0 := by rw [hE3]; simp (config := { maxSteps := 1000000 }) only [go_sem, m1, appendA_U]
  have u3 : E3 3 = cv := by rw [hE3]; simp (config := { maxSteps := 1000000 }) only [go_sem, m3, appendA_U]
  have u8 : E3 8 = lin i := by rw [hE3]; simp (config := { maxSteps := 1000000 }) only [go_sem, m8, appendA_U]
  have u9 : E3 9 = lin j := by rw [hE3]; simp (config := { maxSteps := 1000000 }) only [go_sem, h9, appendA_U]
  clear hE3
  have gz : Hz.get id = some (.arr g 3 (ints (natsJ p))) := by rw [hHz, upd_get, if_pos rfl]; rfl
  have lz := get_live gz
  have plen : (ints (natsJ p)).length = l.length := by rw [ints_length, natsJ_len, pl]
  have hIz : Inv Hz := by rw [hHz]; exact hInv p
  have ptg : ∀ {i k : Nat}, p[i]? = some k → (ints (natsJ p))[i]? = some (lin k) := fun h => by rw [ints_get, natsJ_get h]; rfl
  refine W.seq (W.midN (fun s' => s'.H = Hz ∧ s'.ρ 0 = .own id g 0 l.length 1 ∧ s'.ρ 8 = lin i ∧ s'.ρ 9 = lin j ∧ s'.ρ 34 = .lit (.bool (decide (0 < j) && decide (f (p.getD j 0) < f (p.getD (j - 1) 0))))) ?_ ?_)
  · refine W.draw 14 [0, 0, 3, 7, 15, 15, 15, 111, 239, 15, 15, 1039, 3599, 7695] Tryd.mixed (by kernel_rfl) (by kernel_rfl) ?_
    by_cases hjb : (j : Int) > 0
    · have wj := IntWalk.i64_in ((j : Int) - 1) (by omega)
      have cj : ((j : Int) - 1).toNat = j - 1 := by omega
      have gj := ptg (lget (l := p) (i := j) (by omega))
      have gj1 := ptg (lget (l := p) (i := j - 1) (by omega))
      have gjn := ne_of_get gj
      have gj1n := ne_of_get gj1
      have b1 : (j : Int) < l.length := by omega
      have b2 : (j : Int) - 1 < l.length := by omega
      have b3 : (0 : Int) ≤ (j : Int) - 1 := by omega
      simp (config := { maxSteps := 1000000 }) only [go_sem, u0, u1, u3, u8, u9, lz, plen, hjb, wj, cj, gj, gj1, gjn, gj1n, b1, b2, b3, guardA_undef, appendA_U]
      obtain ⟨z, hz, hc⟩ := hcmp (p.getD j 0) (p.getD (j - 1) 0) (hp.mem_iff.1 (List.mem_of_getElem? (lget (by omega)))) (hp.mem_iff.1 (List.mem_of_getElem? (lget (by omega)))) Hz hIz
      refine hc _ ⟨trivial, ?_⟩
      have hd1 : decide (0 < j) = true := decide_eq_true (by omega)
      rw [hd1]
      by_cases hlt : f (p.getD j 0) < f (p.getD (j - 1) 0)
      · have hlt' := hz.2 hlt
        simp (config := { maxSteps := 1000000 }) only [go_sem, u0, u8, u9, hlt', hlt, appendA_U]
        try rfl
      · have hlt' : ¬ z < 0 := fun h => hlt (hz.1 h)
        simp (config := { maxSteps := 1000000 }) only [go_sem, u0, u8, u9, hlt', hlt, appendA_U]
        try rfl
    · simp (config := { maxSteps := 1000000 }) only [go_sem, u0, u1, u3, u8, u9, lz, plen, hjb, guardA_undef, appendA_U]
      have hj0 : j = 0 := by omega
      subst hj0
      rfl
  rintro ⟨ρ3, Hq⟩ ⟨hHq, v0, v8, v9, v34⟩
  simp only at hHq v0 v8 v9 v34
  rw [hHq]
  clear hHq Hq
  cases hfl : (decide (0 < j) && decide (f (p.getD j 0) < f (p.getD (j - 1) 0))) with
  | false =>
    rw [hfl] at v34
    refine W.cond (t := false) v34 ?_
    refine vc_sound _ _ _ (by rfl) ?_
    simp (config := { maxSteps := 1000000 }) only [go_sem, v8, appendA_U]
    have wi := IntWalk.i64_in ((i : Int) + 1) (by omega)
    have hd : j = 0 ∨ f (p.getD (j - 1) 0) ≤ f (p.getD j 0) := by
      by_cases h0 : j = 0
      · exact .inl h0
      · rw [decide_eq_true (by omega : 0 < j), Bool.true_and, decide_eq_false_iff_not] at hfl
        exact .inr (by omega)
    have hS' := ins_done hIn hj hd
    refine vc_sound _ _ _ (by rfl) ?_
    simp (config := { maxSteps := 1000000 }) only [go_sem, v8, wi, appendA_U]
    exact ⟨by rw [hHz, upd_next]; exact Nat.le_refl _, ⟨i + 1, p, rfl, by omega, by omega, hp, hS', hHz⟩, by rw [h8]; simp only [lin, iv_int]; omega⟩
  | true =>
    rw [hfl] at v34
    refine W.cond (t := true) v34 ?_
    have hfl2 : 0 < j ∧ f (p.getD j 0) < f (p.getD (j - 1) 0) := by simpa using hfl
    have wj := IntWalk.i64_in ((j : Int) - 1) (by omega)
    have cj : ((j : Int) - 1).toNat = j - 1 := by omega
    have gj := ptg (lget (l := p) (i := j) (by omega))
    have gj1 := ptg (lget (l := p) (i := j - 1) (by omega))
    have gjn := ne_of_get gj
    have gj1n := ne_of_get gj1
    have b1 : (j : Int) < l.length := by omega
    have b2 : (j : Int) - 1 < l.length := by omega
    have b3 : (0 : Int) ≤ (j : Int) - 1 := by omega
    have s1 : setAt (ints (natsJ p)) j [.lit (.int .i64 ((p.getD (j - 1) 0 : Nat) : Int))] = ints (natsJ (p.set j (p.getD (j - 1) 0))) := by rw [setAt_ints (by rw [natsJ_len]; omega), natsJ_set]
    have s2 : setAt (ints (natsJ (p.set j (p.getD (j - 1) 0)))) (j - 1) [.lit (.int .i64 ((p.getD j 0 : Nat) : Int))] = ints (natsJ (swapL p j (j - 1))) := by rw [setAt_ints (by rw [natsJ_len, List.length_set]; omega), natsJ_set]; rfl
    have plen2 : (ints (natsJ (p.set j (p.getD (j - 1) 0)))).length = l.length := by rw [ints_length, natsJ_len, List.length_set, pl]
    have lz2 : (Hz.upd id (.arr g 3 (ints (natsJ (p.set j (p.getD (j - 1) 0)))))).live id g = some (3, ints (natsJ (p.set j (p.getD (j - 1) 0)))) := get_live (by rw [upd_get, if_pos rfl])
    refine vc_sound _ _ _ (by rfl) ?_
    simp (config := { maxSteps := 1000000 }) only [go_sem, appendA_U]
    refine W.seq (W.block ?_)
    refine W.draw 16 [0, 0, 0, 0, 8, 0, 0, 64, 224, 480, 0, 0, 3072, 7168, 16355, 32739] Tryd.mixed (by kernel_rfl) (by kernel_rfl) ?_
    simp (config := { maxSteps := 1000000 }) only [go_sem, v0, v8, v9, lz, plen, wj, cj, gj, gj1, gjn, gj1n, b1, b2, b3, s1, s2, plen2, lz2, appendA_U]
    refine ⟨by omega, by omega, vc_sound _ _ _ (by rfl) ?_⟩
    simp (config := { maxSteps := 1000000 }) only [go_sem, v9, wj, appendA_U]
    refine ⟨by rw [hHx, hHz]; simp only [upd_next]; exact Nat.le_refl _, ⟨j - 1, swapL p j (j - 1), ?_, by omega, (swapL_perm (by omega) (by omega)).trans hp, ins_step hIn hj (by omega) hfl2.1 hfl2.2, ?_⟩, by rw [h9]; simp only [lin, iv_int]; omega⟩
    · congr 2; omega
    · rw [hHz]
      unfold nB
      rw [upd_upd, upd_upd]
end Go.Proofs
