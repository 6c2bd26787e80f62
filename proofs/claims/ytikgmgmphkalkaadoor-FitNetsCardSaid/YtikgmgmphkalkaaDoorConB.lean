/-
  Networks and diagrams as plain data, and as abstract values. Plain: no program stands in this text. No conditions.
-/
import Derived.Test.YtikgmgmphkalkaaDoorLibE
import Derived.Test.YtikgmgmphkalkaaDoorConA
import Derived.Test.YtikgmgmphkalkaaDoorLibC
set_option linter.all false
namespace Go.Proofs
open Go.Hx

def vecV (l : List (List Int)) : AVal := .vec l.length (l.map vecI)
structure NodeP where
  card : Int
  parents : List Int
  rows : List (List Int)
structure UtilP where
  vars : List Int
  w : List Int
def NodeP.cells (x : NodeP) : List AVal := [lin x.card, vecI x.parents, vecV x.rows]
def UtilP.cells (x : UtilP) : List AVal := [vecI x.vars, vecI x.w]
def nodesC (l : List NodeP) : List AVal := (l.map NodeP.cells).flatten
def utilsC (l : List UtilP) : List AVal := (l.map UtilP.cells).flatten
def nodesV (l : List NodeP) : AVal := .vec l.length (nodesC l)
def utilsV (l : List UtilP) : AVal := .vec l.length (utilsC l)
def netV (g : Int) (l : List NodeP) : AVal := .agg [lin g, nodesV l]
structure InfP where
  grain : Int
  nodes : List NodeP
  decs : Nat
  utils : List UtilP
theorem flat_get {α : Type} {f : α → List AVal} {z : Nat} (hz : ∀ a, (f a).length = z) : ∀ (l : List α) (i j : Nat) (a : α), l[i]? = some a → j < z → ((l.map f).flatten)[i * z + j]? = (f a)[j]? := by
  intro l
  induction l with
  | nil => intro i j a h; simp at h
  | cons x l ih =>
    intro i j a h hj
    simp only [List.map_cons, List.flatten_cons]
    cases i with
    | zero =>
      simp only [List.getElem?_cons_zero, Option.some.injEq] at h
      subst h
      rw [Nat.zero_mul, Nat.zero_add, List.getElem?_append_left (by rw [hz]; exact hj)]
    | succ i =>
      have : (i + 1) * z + j = z + (i * z + j) := by rw [Nat.add_mul]; omega
      rw [this, List.getElem?_append_right (by rw [hz]; omega), hz]
      have : z + (i * z + j) - z = i * z + j := by omega
      rw [this]
      exact ih i j a (by simpa using h) hj
theorem flat_len {α : Type} {f : α → List AVal} {z : Nat} (hz : ∀ a, (f a).length = z) (l : List α) : ((l.map f).flatten).length = l.length * z := by
  induction l with
  | nil => simp
  | cons x l ih => simp only [List.map_cons, List.flatten_cons, List.length_append, ih, hz, List.length_cons]; rw [Nat.add_mul]; omega
theorem flat_part {α : Type} {f : α → List AVal} {z : Nat} (hz : ∀ a, (f a).length = z) : ∀ (l : List α) (i : Nat) (a : α), l[i]? = some a → (((l.map f).flatten).drop (i * z)).take z = f a := by
  intro l i a h
  apply List.ext_getElem?
  intro j
  by_cases hj : j < z
  · rw [List.getElem?_take_of_lt hj, List.getElem?_drop, flat_get hz l i j a h hj]
  · rw [List.getElem?_eq_none (by simp; omega), List.getElem?_eq_none (by rw [hz]; omega)]

theorem nodesC_len (l : List NodeP) : (nodesC l).length = l.length * 3 := flat_len (f := NodeP.cells) (fun _ => rfl) l
theorem nodesC_0 {l : List NodeP} {i : Nat} {x : NodeP} (h : l[i]? = some x) : (nodesC l)[i * 3]? = some (lin x.card) := flat_get (f := NodeP.cells) (z := 3) (fun _ => rfl) l i 0 x h (by omega)
theorem nodesC_part {l : List NodeP} {i : Nat} {x : NodeP} (h : l[i]? = some x) : ((nodesC l).drop (i * 3)).take 3 = [lin x.card, vecI x.parents, vecV x.rows] := flat_part (f := NodeP.cells) (z := 3) (fun _ => rfl) l i x h
theorem nodesC_ne {l : List NodeP} {i : Nat} {x : NodeP} (h : l[i]? = some x) : ¬ nodesC l = [] := fun e => by
  have := nodesC_0 h; rw [e] at this; simp at this
theorem get_lt {α : Type} {l : List α} {i : Nat} {x : α} (h : l[i]? = some x) : i < l.length := by
  rcases Nat.lt_or_ge i l.length with h' | h'
  · exact h'
  · rw [List.getElem?_eq_none h'] at h; cases h
theorem get_of_lt {α : Type} {l : List α} {i : Nat} (h : i < l.length) : ∃ x, l[i]? = some x := ⟨_, List.getElem?_eq_getElem h⟩
theorem get_of_int {α : Type} {l : List α} {i : Int} (h0 : 0 ≤ i) (h : i < l.length) : ∃ k : Nat, i = k ∧ ∃ x, l[k]? = some x := ⟨i.toNat, by omega, get_of_lt (by omega)⟩

def prodL (l : List Int) : Int := l.foldl (· * ·) 1
theorem foldl_mul (l : List Int) (a : Int) : l.foldl (· * ·) a = a * prodL l := by
  unfold prodL
  induction l generalizing a with
  | nil => simp
  | cons x l ih => simp only [List.foldl_cons]; rw [ih, ih (1 * x), Int.one_mul, Int.mul_assoc]
theorem prodL_nil : prodL [] = 1 := rfl
theorem prodL_cons (x : Int) (l : List Int) : prodL (x :: l) = x * prodL l := by
  show List.foldl _ (1 * x) l = _; rw [foldl_mul, Int.one_mul]
theorem prodL_app (l l' : List Int) : prodL (l ++ l') = prodL l * prodL l' := by
  unfold prodL; rw [List.foldl_append, foldl_mul]; rfl
theorem prodL_snoc (l : List Int) (x : Int) : prodL (l ++ [x]) = prodL l * x := by rw [prodL_app, prodL_cons, prodL_nil, Int.mul_one]
theorem take_succ_get {α : Type} {l : List α} {k : Nat} {x : α} (h : l[k]? = some x) : l.take (k + 1) = l.take k ++ [x] := by
  rw [List.take_add_one, h]; rfl
theorem prodL_pos {l : List Int} (h : ∀ x ∈ l, 1 ≤ x) : 1 ≤ prodL l := by
  induction l with
  | nil => decide
  | cons x l ih =>
    rw [prodL_cons]
    have h1 := ih fun y hy => h y (by simp [hy])
    have h2 := h x (by simp)
    have := Int.mul_le_mul h2 h1 (by omega) (by omega)
    simpa using this
theorem prodL_le_pow {b : Int} {l : List Int} (hb : 0 ≤ b) (h : ∀ x ∈ l, 0 ≤ x ∧ x ≤ b) : 0 ≤ prodL l ∧ prodL l ≤ b ^ l.length := by
  induction l with
  | nil => exact ⟨by decide, by simp [prodL]⟩
  | cons x l ih =>
    rw [prodL_cons]
    have h1 := ih fun y hy => h y (by simp [hy])
    have h2 := h x (by simp)
    refine ⟨Int.mul_nonneg h2.1 h1.1, ?_⟩
    have := Int.mul_le_mul h2.2 h1.2 h1.1 hb
    rw [List.length_cons, Int.pow_succ, Int.mul_comm (b ^ l.length)]
    exact this
def cardsL (l : List NodeP) : List Int := l.map (·.card)
def atL (l places : List Int) : List Int := places.map fun p => l.getD p.toNat 0
def PlacesOk (places : List Int) (n : Int) : Prop := places.Pairwise (· < ·) ∧ ∀ p ∈ places, 0 ≤ p ∧ p < n
def bytesL (l : List Int) : List AVal := l.map fun n => .lit (.int .u8 n)
theorem bytesL_get {l : List Int} {k : Nat} {a : Int} (h : l[k]? = some a) : (bytesL l)[k]? = some (.lit (.int .u8 a)) := by unfold bytesL; rw [List.getElem?_map, h]; rfl
theorem bytesL_len (l : List Int) : (bytesL l).length = l.length := by simp [bytesL]
end Go.Proofs
set_option maxRecDepth 100000
namespace Go.Proofs
open Go.Hx
def primesL : List Int := [2, 3, 5, 7, 11, 13, 17, 19, 23, 29, 31, 37, 41, 43, 47, 53, 59, 61]
def G0 : Nat → Option (List AVal) := fun g => if g = 0 then some (ints primesL) else none
theorem G0_ok : GOk G0 := fun g cells h => by
  unfold G0 at h
  split at h
  · cases h
    refine .vptr fun i hi => ?_
    simp only [ints, List.getElem_map]
    exact .lit _
  · cases h
end Go.Proofs
namespace Go.Hx
variable {P : Program} {G : Nat → Option (List AVal)} {Γ Γ' : Gam} {H H' : AHeap} {w w' : World}
theorem W.env {n : Nat} {rd : Option Nat} {Q : AX → St → Prop} {c : Code} {ρ : Env} {H : AHeap} (h : ∀ E, E = ρ → W P G n rd c Q ⟨E, H⟩) : W P G n rd c Q ⟨ρ, H⟩ := h ρ rfl
theorem Below.mono {n m : Nat} {v : AVal} (h : Below n v) (hm : n ≤ m) : Below m v := by
  induction h with
  | lit v => exact .lit v
  | vec h ih => exact .vec ih
  | vptr h ih => exact .vptr ih
  | agg h ih => exact .agg ih
  | tup h ih => exact .tup ih
  | clo h1 h2 ih1 ih2 => exact .clo ih1 ih2
  | own h => exact .own (by omega)
  | ptr h => exact .ptr (by omega)
  | yld h => exact .yld (by omega)
theorem setAt_one {l : List AVal} {i : Nat} {x : AVal} (h : i < l.length) : setAt l i [x] = l.set i x := by
  unfold setAt
  rw [List.set_eq_take_append_cons_drop, if_pos h]
  simp
section
variable {t : TypeId} {x y : Operand} {k k' : IntKind} {a b : Int}
theorem bin_shr (hb : 0 ≤ b) : binA P .shr t x y (.lit (.int k a)) (.lit (.int k' b)) = some (.lit (.int k (a.fdiv (2 ^ (min b.toNat k.bits))))) := by
  have h : ¬ b < 0 := by omega
  simp [binA, AVal.toVal, eqGuard, binOp, Op.shift, h, pureRun, bind, Sem.bind, pure]
theorem bin_shl (hb : 0 ≤ b) : binA P .shl t x y (.lit (.int k a)) (.lit (.int k' b)) = some (.lit (.int k (k.wrap (a * 2 ^ (min b.toNat k.bits))))) := by
  have h : ¬ b < 0 := by omega
  simp [binA, AVal.toVal, eqGuard, binOp, Op.shift, h, pureRun, bind, Sem.bind, pure]
theorem bin_and : binA P .and t x y (.lit (.int k a)) (.lit (.int k b)) = some (.lit (.int k (k.wrap ((BitVec.ofInt k.bits a &&& BitVec.ofInt k.bits b).toNat : Nat)))) := by
  simp [binA, AVal.toVal, eqGuard, binOp, Op.intBits, pureRun, bind, Sem.bind, pure]
theorem bin_or : binA P .or t x y (.lit (.int k a)) (.lit (.int k b)) = some (.lit (.int k (k.wrap ((BitVec.ofInt k.bits a ||| BitVec.ofInt k.bits b).toNat : Nat)))) := by
  simp [binA, AVal.toVal, eqGuard, binOp, Op.intBits, pureRun, bind, Sem.bind, pure]
theorem bin_andNot : binA P .andNot t x y (.lit (.int k a)) (.lit (.int k b)) = some (.lit (.int k (k.wrap ((BitVec.ofInt k.bits a &&& ~~~ BitVec.ofInt k.bits b).toNat : Nat)))) := by
  simp [binA, AVal.toVal, eqGuard, binOp, Op.intBits, pureRun, bind, Sem.bind, pure]
def bitV (m : Nat) : AVal := .lit (.int .u64 (m : Int))
def subN (a b : Nat) : Nat := (BitVec.ofNat 64 a &&& ~~~ BitVec.ofNat 64 b).toNat
theorem toNat64 {m : Nat} (h : m < 2 ^ 64) : (BitVec.ofInt 64 (m : Int)).toNat = m := by rw [BitVec.ofInt_natCast, BitVec.toNat_ofNat, Nat.mod_eq_of_lt h]
theorem subN_lt (a b : Nat) : subN a b < 2 ^ 64 := (BitVec.isLt _)
theorem subN_bit {a b i : Nat} (ha : a < 2 ^ 64) : (subN a b).testBit i = (a.testBit i && !b.testBit i) := by
  unfold subN
  by_cases hi : i < 64
  · rw [← BitVec.getLsbD, BitVec.getLsbD_and, BitVec.getLsbD_not, BitVec.getLsbD_ofNat, BitVec.getLsbD_ofNat]
    simp [hi]
  · have h1 : a.testBit i = false := Nat.testBit_lt_two_pow (Nat.lt_of_lt_of_le ha (Nat.pow_le_pow_right (by decide) (by omega)))
    rw [h1, ← BitVec.getLsbD, BitVec.getLsbD_of_ge _ _ (by omega)]
    rfl
theorem u64_nat {m : Nat} (h : m < 2 ^ 64) : IntKind.u64.wrap (m : Int) = m := IntWalk.u64_in _ (by omega)
theorem andB {a b : Nat} (ha : a < 2 ^ 64) (hb : b < 2 ^ 64) : binA P .and t x y (.lit (.int .u64 (a : Int))) (.lit (.int .u64 (b : Int))) = some (.lit (.int .u64 ((a &&& b : Nat) : Int))) := by
  rw [bin_and]
  have e : (BitVec.ofInt (IntKind.bits .u64) (a : Int) &&& BitVec.ofInt (IntKind.bits .u64) (b : Int)).toNat = a &&& b := by
    show (BitVec.ofInt 64 _ &&& BitVec.ofInt 64 _).toNat = _
    rw [BitVec.toNat_and, toNat64 ha, toNat64 hb]
  rw [e, u64_nat (Nat.lt_of_le_of_lt Nat.and_le_left ha)]
theorem orB {a b : Nat} (ha : a < 2 ^ 64) (hb : b < 2 ^ 64) : binA P .or t x y (.lit (.int .u64 (a : Int))) (.lit (.int .u64 (b : Int))) = some (.lit (.int .u64 ((a ||| b : Nat) : Int))) := by
  rw [bin_or]
  have e : (BitVec.ofInt (IntKind.bits .u64) (a : Int) ||| BitVec.ofInt (IntKind.bits .u64) (b : Int)).toNat = a ||| b := by
    show (BitVec.ofInt 64 _ ||| BitVec.ofInt 64 _).toNat = _
    rw [BitVec.toNat_or, toNat64 ha, toNat64 hb]
  rw [e, u64_nat (Nat.or_lt_two_pow ha hb)]
theorem subB {a b : Nat} : binA P .andNot t x y (.lit (.int .u64 (a : Int))) (.lit (.int .u64 (b : Int))) = some (.lit (.int .u64 ((subN a b : Nat) : Int))) := by
  rw [bin_andNot]
  have e : (BitVec.ofInt (IntKind.bits .u64) (a : Int) &&& ~~~ BitVec.ofInt (IntKind.bits .u64) (b : Int)).toNat = subN a b := by
    show (BitVec.ofInt 64 _ &&& ~~~ BitVec.ofInt 64 _).toNat = _
    rw [BitVec.ofInt_natCast, BitVec.ofInt_natCast]
    rfl
  rw [e, u64_nat (subN_lt a b)]
theorem shrB {a s : Nat} (ha : a < 2 ^ 64) : binA P .shr t x y (.lit (.int .u64 (a : Int))) (.lit (.int k' (s : Int))) = some (.lit (.int .u64 ((a >>> s : Nat) : Int))) := by
  rw [bin_shr (by omega), Int.toNat_natCast]
  have e : (a : Int).fdiv (2 ^ (min s (IntKind.bits .u64))) = ((a >>> s : Nat) : Int) := by
    rw [Int.fdiv_eq_ediv_of_nonneg _ (by exact_mod_cast Nat.zero_le _), Nat.shiftRight_eq_div_pow]
    show (a : Int) / 2 ^ (min s 64) = _
    rcases Nat.le_total s 64 with h | h
    · rw [Nat.min_eq_left h]; push_cast; rfl
    · rw [Nat.min_eq_right h]
      have h1 : a / 2 ^ s = 0 := Nat.div_eq_of_lt (Nat.lt_of_lt_of_le ha (Nat.pow_le_pow_right (by decide) h))
      rw [h1]
      exact Int.ediv_eq_zero_of_lt (by omega) (by omega)
  rw [e]
theorem shlB {s : Nat} (hs : s < 64) : binA P .shl t x y (.lit (.int .u64 1)) (.lit (.int k' (s : Int))) = some (.lit (.int .u64 ((2 ^ s : Nat) : Int))) := by
  rw [bin_shl (by omega), Int.toNat_natCast]
  have e : min s (IntKind.bits .u64) = s := Nat.min_eq_left (by show s ≤ 64; omega)
  have h2 : 2 ^ s < 2 ^ 64 := Nat.pow_lt_pow_right (by decide) hs
  rw [e, Int.one_mul]
  have h3 : ((2 : Int) ^ s) = ((2 ^ s : Nat) : Int) := by push_cast; rfl
  rw [h3, u64_nat h2]
theorem bit1 {a s : Nat} (ha : a < 2 ^ 64) : binA P .and t x y (.lit (.int .u64 ((a >>> s : Nat) : Int))) (.lit (.int .u64 1)) = some (.lit (.int .u64 (if a.testBit s then 1 else 0))) := by
  have h1 : a >>> s < 2 ^ 64 := Nat.lt_of_le_of_lt (Nat.shiftRight_le _ _) ha
  have := andB (P := P) (t := t) (x := x) (y := y) (a := a >>> s) (b := 1) h1 (by decide)
  rw [show (((1 : Nat) : Int)) = 1 from rfl] at this
  rw [this, Nat.and_one_is_mod]
  congr 3
  rw [Nat.testBit, Nat.and_comm, Nat.and_one_is_mod]
  rcases Nat.mod_two_eq_zero_or_one (a >>> s) with h | h <;> rw [h] <;> rfl
end
end Go.Hx
namespace Go.Proofs
open Go.Hx
theorem get_ext0 (H : AHeap) (b : Blk) (L : List Blk) : (ext H (b :: L)).get H.next = some b := get_ext H (b :: L) 0 (by simp)
theorem ne_of_get {α : Type} {l : List α} {i : Nat} {a : α} (h : l[i]? = some a) : ¬ l = [] := by rintro rfl; simp at h
theorem setAt_ints {l : List Int} {i : Nat} {x : Int} (h : i < l.length) : setAt (ints l) i [.lit (.int .i64 x)] = ints (l.set i x) := by
  rw [setAt_one (by simpa [ints] using h)]
  simp [ints, lin]
theorem guardA_undef (w : Bool) : guardA w (some (.lit undef)) = some false := rfl
end Go.Proofs
namespace Go.Proofs

def before (r : Nat → Int) (i j : Nat) : Prop := r j < r i ∨ (r i = r j ∧ i < j)
theorem before_asymm {r : Nat → Int} {i j : Nat} (h : before r i j) : ¬ before r j i := fun k => by unfold before at *; omega
theorem before_tri {r : Nat → Int} {i j : Nat} (h : i ≠ j) : before r i j ∨ before r j i := by unfold before; omega
structure Top (r : Nat → Int) (n k : Nat) (M : Nat → Bool) : Prop where
  count : (List.range n).countP M = k
  first : ∀ i j, i < n → j < n → M i = true → M j = false → before r i j

theorem countP_lt_of {l : List Nat} {p q : Nat → Bool} (h : ∀ x ∈ l, p x = true → q x = true) {a : Nat} (ha : a ∈ l) (hp : p a = false) (hq : q a = true) : l.countP p < l.countP q := by
  induction l with
  | nil => cases ha
  | cons x l ih =>
    have hm : l.countP p ≤ l.countP q := List.countP_mono_left fun y hy => h y (by simp [hy])
    rcases List.mem_cons.1 ha with rfl | ha
    · rw [List.countP_cons, List.countP_cons, hp, hq]
      simp
      omega
    · have := ih (fun y hy => h y (by simp [hy])) ha
      have hx := h x (by simp)
      rw [List.countP_cons, List.countP_cons]
      cases hpx : p x
      · simp; omega
      · rw [hx hpx]; simp; omega

theorem Top.unique {r : Nat → Int} {n k : Nat} {M M' : Nat → Bool} (h : Top r n k M) (h' : Top r n k M') : ∀ i, i < n → M i = M' i := by
  have key : ∀ {M M' : Nat → Bool}, Top r n k M → Top r n k M' → ∀ i, i < n → M i = true → M' i = true := by
    intro M M' h h' i hi hm
    rcases Bool.eq_false_or_eq_true (M' i) with e | e
    · exact e
    -- some place of M' is not in M
    have : ∃ j, j < n ∧ M' j = true ∧ M j = false := by
      refine Classical.byContradiction fun hno => ?_
      have hsub : ∀ x ∈ List.range n, M' x = true → M x = true := fun x hx hx' => by
        rcases Bool.eq_false_or_eq_true (M x) with e | e
        · exact e
        · exact absurd ⟨x, List.mem_range.1 hx, hx', e⟩ hno
      have := countP_lt_of hsub (List.mem_range.2 hi) e hm
      rw [h.count, h'.count] at this
      omega
    obtain ⟨j, hj, a, b⟩ := this
    exact absurd (h'.first j i hj hi a e) (before_asymm (h.first i j hi hj hm b))
  intro i hi
  have a := key h h' i hi
  have b := key h' h i hi
  cases h1 : M i <;> cases h2 : M' i <;> simp_all

theorem Top.zero {r : Nat → Int} {n : Nat} : Top r n 0 (fun _ => false) := ⟨by simp, fun _ _ _ _ h => by cases h⟩
theorem Top.step {r : Nat → Int} {n k b : Nat} {M : Nat → Bool} (h : Top r n k M) (hb : b < n) (hm : M b = false) (hmin : ∀ j, j < n → M j = false → j ≠ b → before r b j) :
    Top r n (k + 1) (fun i => decide (i = b) || M i) where
  count := by
    have : ∀ l : List Nat, l.Nodup → b ∈ l → l.countP (fun i => decide (i = b) || M i) = l.countP M + 1 := by
      intro l
      induction l with
      | nil => intro _ h; cases h
      | cons x l ih =>
        intro hnd hmem
        obtain ⟨h1, h2⟩ := List.nodup_cons.1 hnd
        rw [List.countP_cons, List.countP_cons]
        rcases List.mem_cons.1 hmem with rfl | hmem
        · have : l.countP (fun i => decide (i = b) || M i) = l.countP M := List.countP_congr fun y hy => by
            have : y ≠ b := by rintro rfl; exact h1 hy
            simp [this]
          rw [this]; simp [hm]
        · have hx : x ≠ b := by rintro rfl; exact h1 hmem
          rw [ih h2 hmem]; simp [hx]; omega
    rw [this _ List.nodup_range (List.mem_range.2 hb), h.count]
  first i j hi hj h1 h2 := by
    simp only [Bool.or_eq_true, decide_eq_true_eq, Bool.or_eq_false_iff, decide_eq_false_iff_not] at h1 h2
    rcases h1 with rfl | h1
    · exact hmin j hj h2.2 h2.1
    · exact h.first i j hi hj h1 h2.2

theorem Top.sorted {r : Nat → Int} {n k : Nat} {l : List Nat} (hp : l.Perm (List.range n)) (hs : l.Pairwise (before r)) (hk : k ≤ n) : Top r n k (fun i => decide (i ∈ l.take k)) where
  count := by
    rw [← hp.countP_eq]
    have hnd : l.Nodup := hp.nodup_iff.2 List.nodup_range
    have hl : l.length = n := by simpa using hp.length_eq
    conv => lhs; rw [← List.take_append_drop k l]
    rw [List.countP_append]
    have e1 : (l.take k).countP (fun i => decide (i ∈ (List.take k l ++ List.drop k l).take k)) = k := by
      have : (l.take k).length = k := by simp; omega
      conv => rhs; rw [← this]
      rw [List.countP_eq_length]
      intro x hx
      simpa using hx
    have e2 : (l.drop k).countP (fun i => decide (i ∈ (List.take k l ++ List.drop k l).take k)) = 0 := by
      rw [List.countP_eq_zero]
      intro x hx
      rw [List.take_append_drop]
      simp only [decide_eq_true_eq]
      intro hx2
      have := (List.take_append_drop k l) ▸ hnd
      rw [List.nodup_append] at this
      exact this.2.2 x hx2 x hx rfl
    rw [e1, e2]; rfl
  first i j hi hj h1 h2 := by
    simp only [decide_eq_true_eq, decide_eq_false_iff_not] at h1 h2
    have hjl : j ∈ l := hp.mem_iff.2 (List.mem_range.2 hj)
    rw [← List.take_append_drop k l] at hjl hs
    rcases List.mem_append.1 hjl with h | h
    · exact absurd h h2
    · exact (List.pairwise_append.1 hs).2.2 i h1 j h

def effC (c : List Int) : List Int := if 0 < c.sum then c else List.replicate c.length 1
def effT (c : List Int) : Int := if 0 < c.sum then c.sum else c.length
def partAt (sp : Int) (c : List Int) (i : Nat) : Int := sp * (effC c).getD i 0 / effT c
def restAt (sp : Int) (c : List Int) (i : Nat) : Int := sp * (effC c).getD i 0 % effT c
def spareOf (grain least : Int) (c : List Int) : Int := grain - least * c.length
def leftOf (sp : Int) (c : List Int) : Int := sp - ((List.range c.length).map (partAt sp c)).sum

theorem effC_len (c : List Int) : (effC c).length = c.length := by unfold effC; split <;> simp
theorem effC_sum (c : List Int) : (effC c).sum = effT c := by
  unfold effC effT; split
  · rfl
  · simp
theorem effC_nonneg {c : List Int} (h : ∀ x ∈ c, 0 ≤ x) : ∀ x ∈ effC c, 0 ≤ x := by
  unfold effC; split
  · exact h
  · intro x hx; rw [List.mem_replicate] at hx; omega
theorem effT_pos {c : List Int} (h : 0 < c.length) : 0 < effT c := by unfold effT; split <;> omega
theorem sum_getD : ∀ (l : List Int), ((List.range l.length).map fun i => l.getD i 0).sum = l.sum := by
  intro l
  have : ((List.range l.length).map fun i => l.getD i 0) = l := by
    apply List.ext_getElem
    · simp
    · intro i h1 h2; simp at h1 ⊢; simp [h1]
  rw [this]
theorem sum_map_add' (l : List Nat) (f g : Nat → Int) : (l.map fun i => f i + g i).sum = (l.map f).sum + (l.map g).sum := by
  induction l with
  | nil => rfl
  | cons x l ih => simp only [List.map_cons, List.sum_cons, ih]; omega
theorem sum_map_mul' (l : List Nat) (k : Int) (f : Nat → Int) : (l.map fun i => k * f i).sum = k * (l.map f).sum := by
  induction l with
  | nil => simp
  | cons x l ih => simp only [List.map_cons, List.sum_cons, ih]; rw [Int.mul_add]
theorem sum_le_const {l : List Nat} {f : Nat → Int} {b : Int} (h : ∀ i ∈ l, f i ≤ b) : (l.map f).sum ≤ b * l.length := by
  induction l with
  | nil => simp
  | cons x l ih =>
    have h1 := ih fun i hi => h i (by simp [hi])
    have h2 := h x (by simp)
    simp only [List.map_cons, List.sum_cons, List.length_cons]
    have : b * ((l.length + 1 : Nat) : Int) = b * l.length + b := by push_cast; rw [Int.mul_add]; simp
    omega
theorem sum_nonneg' {l : List Nat} {f : Nat → Int} (h : ∀ i ∈ l, 0 ≤ f i) : 0 ≤ (l.map f).sum := by
  induction l with
  | nil => simp
  | cons x l ih =>
    have h1 := ih fun i hi => h i (by simp [hi])
    have h2 := h x (by simp)
    simp only [List.map_cons, List.sum_cons]; omega

theorem rest_bound {sp : Int} {c : List Int} (h : 0 < c.length) (i : Nat) : 0 ≤ restAt sp c i ∧ restAt sp c i < effT c :=
  ⟨Int.emod_nonneg _ (by have := effT_pos h; omega), Int.emod_lt_of_pos _ (effT_pos h)⟩
theorem left_mul {sp : Int} {c : List Int} (h : 0 < c.length) : leftOf sp c * effT c = ((List.range c.length).map (restAt sp c)).sum := by
  have e : ∀ i, sp * (effC c).getD i 0 = effT c * partAt sp c i + restAt sp c i := fun i => by
    unfold partAt restAt
    exact (Int.mul_ediv_add_emod _ _).symm
  have h1 : ((List.range c.length).map fun i => sp * (effC c).getD i 0).sum = sp * effT c := by
    rw [sum_map_mul', ← effC_len c, sum_getD, effC_sum]
  have h2 : ((List.range c.length).map fun i => sp * (effC c).getD i 0).sum = effT c * ((List.range c.length).map (partAt sp c)).sum + ((List.range c.length).map (restAt sp c)).sum := by
    rw [← sum_map_mul', ← sum_map_add']
    congr 1
    exact List.map_congr_left fun i _ => e i
  unfold leftOf
  rw [Int.sub_mul, ← h1, h2, Int.mul_comm (effT c)]
  omega
theorem left_bound {sp : Int} {c : List Int} (h : 0 < c.length) : 0 ≤ leftOf sp c ∧ leftOf sp c < c.length := by
  have hT := effT_pos h
  have e := left_mul (sp := sp) h
  have h0 : 0 ≤ ((List.range c.length).map (restAt sp c)).sum := sum_nonneg' fun i _ => (rest_bound h i).1
  have h1 : ((List.range c.length).map (restAt sp c)).sum ≤ (effT c - 1) * (List.range c.length).length := sum_le_const fun i _ => by have := (rest_bound (sp := sp) h i).2; omega
  rw [← e] at h0 h1
  simp only [List.length_range] at h1
  constructor
  · exact Classical.byContradiction fun hn => by
      have : leftOf sp c * effT c < 0 := Int.mul_neg_of_neg_of_pos (by omega) hT
      omega
  · exact Classical.byContradiction fun hn => by
      have h3 : (c.length : Int) * effT c ≤ leftOf sp c * effT c := Int.mul_le_mul_of_nonneg_right (by omega) (by omega)
      have h4 : (effT c - 1) * (c.length : Int) = c.length * effT c - c.length := by rw [Int.sub_mul, Int.mul_comm]; omega
      omega

def sharesM (least sp : Int) (c : List Int) (M : Nat → Bool) : List Int := (List.range c.length).map fun i => least + partAt sp c i + if M i then 1 else 0
def ShareOk (least sp : Int) (c s : List Int) : Prop := ∃ M, Top (restAt sp c) c.length (leftOf sp c).toNat M ∧ s = sharesM least sp c M
theorem ShareOk.unique {least sp : Int} {c s s' : List Int} (h : ShareOk least sp c s) (h' : ShareOk least sp c s') : s = s' := by
  obtain ⟨M, h1, rfl⟩ := h
  obtain ⟨M', h2, rfl⟩ := h'
  unfold sharesM
  apply List.map_congr_left
  intro i hi
  rw [h1.unique h2 i (List.mem_range.1 hi)]

end Go.Proofs
namespace Go.Proofs

def sumR (n : Nat) (f : Nat → Int) : Int := ((List.range n).map f).sum
theorem sumR_add (n : Nat) (f g : Nat → Int) : sumR n (fun i => f i + g i) = sumR n f + sumR n g := sum_map_add' _ _ _
theorem sumR_mul (n : Nat) (k : Int) (f : Nat → Int) : sumR n (fun i => k * f i) = k * sumR n f := sum_map_mul' _ _ _
theorem sumR_congr {n : Nat} {f g : Nat → Int} (h : ∀ i, i < n → f i = g i) : sumR n f = sumR n g := by
  unfold sumR; rw [List.map_congr_left fun i hi => h i (List.mem_range.1 hi)]
theorem sum_map_le {l : List Nat} {f g : Nat → Int} (h : ∀ i ∈ l, f i ≤ g i) : (l.map f).sum ≤ (l.map g).sum := by
  induction l with
  | nil => simp
  | cons x l ih =>
    have h1 := ih fun i hi => h i (by simp [hi])
    have h2 := h x (by simp)
    simp only [List.map_cons, List.sum_cons]; omega
theorem sumR_le {n : Nat} {f g : Nat → Int} (h : ∀ i, i < n → f i ≤ g i) : sumR n f ≤ sumR n g := sum_map_le fun i hi => h i (List.mem_range.1 hi)
theorem count_sum (l : List Nat) (p : Nat → Bool) : ((l.countP p : Nat) : Int) = (l.map fun i => if p i then (1 : Int) else 0).sum := by
  induction l with
  | nil => rfl
  | cons x l ih =>
    rw [List.countP_cons]
    cases h : p x
    · simp [ih, h]
    · simp [ih, h]; omega

theorem threshold (l : List Nat) (p : Nat → Bool) (g : Nat → Int) : ∃ θ : Int, 0 ≤ θ ∧ (∀ i ∈ l, p i = true → g i ≤ θ) ∧ (θ = 0 ∨ ∃ i ∈ l, p i = true ∧ θ = g i) := by
  induction l with
  | nil => exact ⟨0, by omega, fun i h => (by cases h), .inl rfl⟩
  | cons x l ih =>
    obtain ⟨θ, h0, h1, h2⟩ := ih
    by_cases hx : p x = true ∧ θ < g x
    · refine ⟨g x, by omega, fun i hi hp => ?_, .inr ⟨x, by simp, hx.1, rfl⟩⟩
      rcases List.mem_cons.1 hi with rfl | hi
      · exact Int.le_refl _
      · have := h1 i hi hp; omega
    · refine ⟨θ, h0, fun i hi hp => ?_, ?_⟩
      · rcases List.mem_cons.1 hi with rfl | hi
        · exact Classical.byContradiction fun hn => hx ⟨hp, by omega⟩
        · exact h1 i hi hp
      · rcases h2 with h2 | ⟨i, hi, hp, he⟩
        · exact .inl h2
        · exact .inr ⟨i, by simp [hi], hp, he⟩

theorem least_sum {n : Nat} {M N : Nat → Bool} {g : Nat → Int} (hg : ∀ i, i < n → 0 ≤ g i) (hM : ∀ i j, i < n → j < n → M i = true → M j = false → g i ≤ g j) (hc : (List.range n).countP M ≤ (List.range n).countP N) :
    sumR n (fun i => if M i then g i else 0) ≤ sumR n (fun i => if N i then g i else 0) := by
  obtain ⟨θ, h0, h1, h2⟩ := threshold (List.range n) M g
  have h3 : ∀ j, j < n → M j = false → θ ≤ g j := fun j hj hm => by
    rcases h2 with rfl | ⟨i, hi, hp, rfl⟩
    · exact hg j hj
    · exact hM i j (List.mem_range.1 hi) hj hp hm
  have hpt : sumR n (fun i => (if M i then g i else 0) + θ * (if N i then 1 else 0)) ≤ sumR n (fun i => (if N i then g i else 0) + θ * (if M i then 1 else 0)) := by
    refine sumR_le fun i hi => ?_
    have a := h1 i (List.mem_range.2 hi)
    have b := h3 i hi
    cases hm : M i <;> cases hn : N i
    · simp
    · simp; exact b hm
    · simp; exact a hm
    · simp
  rw [sumR_add, sumR_add, sumR_mul, sumR_mul] at hpt
  have e1 : sumR n (fun i => if M i then (1 : Int) else 0) = ((List.range n).countP M : Nat) := (count_sum _ _).symm
  have e2 : sumR n (fun i => if N i then (1 : Int) else 0) = ((List.range n).countP N : Nat) := (count_sum _ _).symm
  rw [e1, e2] at hpt
  have h4 : θ * ((List.range n).countP M : Nat) ≤ θ * ((List.range n).countP N : Nat) := Int.mul_le_mul_of_nonneg_left (by omega) h0
  omega

def absI (d : Int) : Int := max d (-d)
def posI (d : Int) : Int := max d 0
theorem abs_pos (d : Int) : absI d = 2 * posI d + (-1) * d := by unfold absI posI; omega
theorem abs_neg (d : Int) : absI d = 2 * posI (-d) + d := by unfold absI posI; omega

theorem abs_sum1 {n : Nat} {f : Nat → Int} (h : sumR n f = 0) : sumR n (fun i => absI (f i)) = 2 * sumR n (fun i => posI (f i)) := by
  rw [sumR_congr fun i _ => abs_pos _, sumR_add, sumR_mul, sumR_mul, h]; omega
theorem abs_sum2 {n : Nat} {f : Nat → Int} (h : sumR n f = 0) : sumR n (fun i => absI (f i)) = 2 * sumR n (fun i => posI (-f i)) := by
  rw [sumR_congr fun i _ => abs_neg _, sumR_add, sumR_mul, h]; omega
theorem countP_not (l : List Nat) (p : Nat → Bool) : l.countP (fun i => !p i) + l.countP p = l.length := by
  induction l with
  | nil => rfl
  | cons x l ih =>
    rw [List.countP_cons, List.countP_cons, List.length_cons]
    cases h : p x <;> simp <;> omega

theorem nearest {n : Nat} {t k : Nat} {ρ q x : Nat → Int} {M : Nat → Bool} (hρ : ∀ i, i < n → 0 ≤ ρ i ∧ ρ i < t) (hM : Top ρ n k M)
    (h0 : sumR n (fun i => (t : Int) * (q i + (if M i then 1 else 0)) - (t * q i + ρ i)) = 0) (h1 : sumR n (fun i => (t : Int) * x i - (t * q i + ρ i)) = 0) :
    sumR n (fun i => absI (t * (q i + (if M i then 1 else 0)) - (t * q i + ρ i))) ≤ sumR n (fun i => absI (t * x i - (t * q i + ρ i))) := by
  let N : Nat → Bool := fun i => decide (q i + 1 ≤ x i)
  have ge : ∀ i j, i < n → j < n → M i = true → M j = false → ρ j ≤ ρ i := fun i j hi hj a b => by
    have := hM.first i j hi hj a b
    unfold before at this; omega
  rcases Nat.le_total k ((List.range n).countP N) with hk | hk
  · rw [abs_sum1 h0, abs_sum1 h1]
    have a1 : sumR n (fun i => posI (t * (q i + (if M i then 1 else 0)) - (t * q i + ρ i))) = sumR n (fun i => if M i then t - ρ i else 0) := sumR_congr fun i hi => by
      have := hρ i hi
      rw [Int.mul_add]
      unfold posI
      cases M i <;> simp <;> omega
    have a2 : sumR n (fun i => if N i then t - ρ i else 0) ≤ sumR n (fun i => posI (t * x i - (t * q i + ρ i))) := sumR_le fun i hi => by
      have := hρ i hi
      unfold posI
      by_cases h : q i + 1 ≤ x i
      · have h5 : (t : Int) * (q i + 1) ≤ t * x i := Int.mul_le_mul_of_nonneg_left h (by omega)
        rw [Int.mul_add] at h5
        simp only [N, h, decide_true, if_true]
        omega
      · simp only [N, h, decide_false, Bool.false_eq_true, if_false]
        omega
    have a3 := least_sum (M := M) (N := N) (g := fun i => t - ρ i) (fun i hi => by have := hρ i hi; omega) (fun i j hi hj a b => by have := ge i j hi hj a b; omega) (by rw [hM.count]; exact hk)
    rw [a1]
    omega
  · rw [abs_sum2 h0, abs_sum2 h1]
    have a1 : sumR n (fun i => posI (-(t * (q i + (if M i then 1 else 0)) - (t * q i + ρ i)))) = sumR n (fun i => if !M i then ρ i else 0) := sumR_congr fun i hi => by
      have := hρ i hi
      rw [Int.mul_add]
      unfold posI
      cases M i <;> simp <;> omega
    have a2 : sumR n (fun i => if !N i then ρ i else 0) ≤ sumR n (fun i => posI (-(t * x i - (t * q i + ρ i)))) := sumR_le fun i hi => by
      have := hρ i hi
      unfold posI
      by_cases h : q i + 1 ≤ x i
      · simp only [N, h, decide_true, Bool.not_true, Bool.false_eq_true, if_false]
        omega
      · have h5 : (t : Int) * x i ≤ t * q i := Int.mul_le_mul_of_nonneg_left (by omega) (by omega)
        simp only [N, h, decide_false, Bool.not_false, if_true]
        omega
    have c1 := countP_not (List.range n) M
    have c2 := countP_not (List.range n) N
    have a3 := least_sum (M := fun i => !M i) (N := fun i => !N i) (g := ρ) (fun i hi => (hρ i hi).1) (fun i j hi hj a b => by
      simp only [Bool.not_eq_true', Bool.not_eq_false'] at a b
      exact ge j i hj hi b a) (by have := hM.count; omega)
    rw [a1]
    omega
end Go.Proofs
namespace Go.Proofs
theorem shares_len (least sp : Int) (c : List Int) (M : Nat → Bool) : (sharesM least sp c M).length = c.length := by simp [sharesM]
theorem shares_get {least sp : Int} {c : List Int} {M : Nat → Bool} {i : Nat} (h : i < c.length) : (sharesM least sp c M)[i]? = some (least + partAt sp c i + if M i then 1 else 0) := by
  unfold sharesM; rw [List.getElem?_map, List.getElem?_range h]; rfl
theorem eff_nn {c : List Int} (h : ∀ x ∈ c, 0 ≤ x) (i : Nat) : 0 ≤ (effC c).getD i 0 := by
  rw [List.getD_eq_getElem?_getD]
  cases e : (effC c)[i]? with
  | none => exact Int.le_refl _
  | some a => exact effC_nonneg h a (List.mem_of_getElem? e)
theorem part_nn {c : List Int} (h : ∀ x ∈ c, 0 ≤ x) (h0 : 0 < c.length) {sp : Int} (hs : 0 ≤ sp) (i : Nat) : 0 ≤ partAt sp c i :=
  Int.ediv_nonneg (Int.mul_nonneg hs (eff_nn h i)) (Int.le_of_lt (effT_pos h0))
theorem sum_ge_mem : ∀ {l : List Int}, (∀ x ∈ l, 0 ≤ x) → ∀ x ∈ l, x ≤ l.sum
  | a :: l, h, x, hx => by
    have h1 : 0 ≤ l.sum := by
      have : ∀ l : List Int, (∀ x ∈ l, 0 ≤ x) → 0 ≤ l.sum := by
        intro l
        induction l with
        | nil => intro _; simp
        | cons b l ih => intro h; have := h b (by simp); have := ih fun x hx => h x (by simp [hx]); rw [List.sum_cons]; omega
      exact this l fun x hx => h x (by simp [hx])
    rw [List.sum_cons]
    rcases List.mem_cons.1 hx with rfl | hx
    · omega
    · have := sum_ge_mem (fun y hy => h y (by simp [hy])) x hx
      have := h a (by simp)
      omega
end Go.Proofs
namespace Go.Proofs
open Go.Hx
theorem getD_set {α : Type} (l : List α) (i j : Nat) (a d : α) (hi : i < l.length) : (l.set i a).getD j d = if i = j then a else l.getD j d := by
  rw [List.getD_eq_getElem?_getD, List.getD_eq_getElem?_getD, List.getElem?_set]
  by_cases h : i = j
  · subst h; rw [if_pos rfl, if_pos hi, if_pos rfl]; rfl
  · rw [if_neg h, if_neg h]
theorem lget {l : List Nat} {i : Nat} (h : i < l.length) : l[i]? = some (l.getD i 0) := by
  rw [List.getD_eq_getElem?_getD, List.getElem?_eq_getElem h]; rfl
def swapL (l : List Nat) (i j : Nat) : List Nat := (l.set i (l.getD j 0)).set j (l.getD i 0)
theorem swapL_get {l : List Nat} {i j : Nat} (hi : i < l.length) (hj : j < l.length) (hij : i ≠ j) (a : Nat) : (swapL l i j).getD a 0 = if a = j then l.getD i 0 else if a = i then l.getD j 0 else l.getD a 0 := by
  unfold swapL
  rw [getD_set _ _ _ _ _ (by rw [List.length_set]; exact hj), getD_set _ _ _ _ _ hi]
  by_cases h1 : a = j
  · rw [if_pos h1, if_pos h1.symm]
  · rw [if_neg h1, if_neg fun h => h1 h.symm]
    by_cases h2 : a = i
    · rw [if_pos h2, if_pos h2.symm]
    · rw [if_neg h2, if_neg fun h => h2 h.symm]
def Srt (f : Nat → Nat) (l : List Nat) (n : Nat) : Prop := ∀ a b, a < b → b < n → f (l.getD a 0) ≤ f (l.getD b 0)
def Ins (f : Nat → Nat) (l : List Nat) (i j : Nat) : Prop := (∀ a b, a < b → b ≤ i → a ≠ j → b ≠ j → f (l.getD a 0) ≤ f (l.getD b 0)) ∧ ∀ b, j < b → b ≤ i → f (l.getD j 0) ≤ f (l.getD b 0)
theorem ins_start {f : Nat → Nat} {l : List Nat} {i : Nat} (h : Srt f l i) : Ins f l i i := ⟨fun a b h1 h2 h3 h4 => h a b h1 (by omega), fun b h1 h2 => by omega⟩
theorem ins_done {f : Nat → Nat} {l : List Nat} {i j : Nat} (h : Ins f l i j) (hj : j ≤ i) (hd : j = 0 ∨ f (l.getD (j - 1) 0) ≤ f (l.getD j 0)) : Srt f l (i + 1) := by
  intro a b h1 h2
  by_cases hb : b = j
  · subst hb
    rcases hd with h0 | h0
    · omega
    · by_cases ha : a = b - 1
      · rw [ha]; exact h0
      · exact Nat.le_trans (h.1 a (b - 1) (by omega) (by omega) (by omega) (by omega)) h0
  · by_cases ha : a = j
    · subst ha; exact h.2 b h1 (by omega)
    · exact h.1 a b h1 (by omega) ha hb
theorem ins_step {f : Nat → Nat} {l : List Nat} {i j : Nat} (h : Ins f l i j) (hj : j ≤ i) (hi : i < l.length) (h0 : 0 < j) (hlt : f (l.getD j 0) < f (l.getD (j - 1) 0)) : Ins f (swapL l j (j - 1)) i (j - 1) := by
  have g := swapL_get (l := l) (i := j) (j := j - 1) (by omega) (by omega) (by omega)
  constructor
  · intro a b h1 h2 h3 h4
    rw [g a, g b, if_neg h3, if_neg h4]
    by_cases ha : a = j
    · rw [if_pos ha, if_neg (by omega)]
      exact h.1 (j - 1) b (by omega) h2 (by omega) (by omega)
    · rw [if_neg ha]
      by_cases hb : b = j
      · rw [if_pos hb]
        exact h.1 a (j - 1) (by omega) (by omega) ha (by omega)
      · rw [if_neg hb]
        exact h.1 a b h1 h2 ha hb
  · intro b h1 h2
    rw [g (j - 1), if_pos rfl, g b, if_neg (by omega)]
    by_cases hb : b = j
    · rw [if_pos hb]; exact Nat.le_of_lt hlt
    · rw [if_neg hb]; exact h.2 b (by omega) h2
theorem swapL_perm {l : List Nat} {i j : Nat} (hi : i < l.length) (hj : j < l.length) : (swapL l i j).Perm l := by
  unfold swapL
  rw [List.getD_eq_getElem?_getD, List.getD_eq_getElem?_getD, List.getElem?_eq_getElem hi, List.getElem?_eq_getElem hj]
  exact List.set_set_perm hi hj
def rankF (r : Nat → Int) (T n : Nat) (i : Nat) : Nat := (T - (r i).toNat) * n + i
theorem rank_lt {r : Nat → Int} {T n : Nat} (hr : ∀ i, i < n → 0 ≤ r i ∧ r i < T) {i j : Nat} (hi : i < n) (hj : j < n) : rankF r T n i < rankF r T n j ↔ before r i j := by
  have h1 := hr i hi
  have h2 := hr j hj
  unfold rankF before
  obtain ⟨a, ha⟩ : ∃ a, a = T - (r i).toNat := ⟨_, rfl⟩
  obtain ⟨b, hb⟩ : ∃ b, b = T - (r j).toNat := ⟨_, rfl⟩
  rw [← ha, ← hb]
  rcases Nat.lt_trichotomy a b with h | h | h
  · have : (a + 1) * n ≤ b * n := Nat.mul_le_mul_right _ h
    rw [Nat.add_mul, Nat.one_mul] at this
    constructor
    · intro _; left; omega
    · intro _; omega
  · subst h
    constructor
    · intro h; right; omega
    · rintro (h | h) <;> omega
  · have : (b + 1) * n ≤ a * n := Nat.mul_le_mul_right _ h
    rw [Nat.add_mul, Nat.one_mul] at this
    constructor
    · intro h; omega
    · rintro (h | h) <;> omega
theorem srt_before {r : Nat → Int} {T n : Nat} (hr : ∀ i, i < n → 0 ≤ r i ∧ r i < T) {l : List Nat} (hp : l.Perm (List.range n)) (hs : Srt (rankF r T n) l l.length) : l.Pairwise (before r) := by
  have hm : ∀ a ∈ l, a < n := fun a ha => List.mem_range.1 (hp.mem_iff.1 ha)
  have hnd : l.Nodup := hp.nodup_iff.2 List.nodup_range
  rw [List.pairwise_iff_getElem]
  intro i j hi hj hij
  have h := hs i j hij hj
  rw [List.getD_eq_getElem?_getD, List.getD_eq_getElem?_getD, List.getElem?_eq_getElem hi, List.getElem?_eq_getElem hj] at h
  simp only [Option.getD_some] at h
  have hne : l[i] ≠ l[j] := fun e => by
    have := (List.getElem?_inj hi hnd).1 (show l[i]? = l[j]? by rw [List.getElem?_eq_getElem hi, e, ← List.getElem?_eq_getElem hj])
    omega
  rcases before_tri hne (r := r) with b | b
  · exact b
  · have := (rank_lt hr (hm _ (List.getElem_mem hj)) (hm _ (List.getElem_mem hi))).2 b
    omega
end Go.Proofs
set_option linter.unusedVariables false
namespace Go.Proofs
theorem mem_take_succ {l : List Nat} {m i : Nat} (hi : l[m]? = some i) (a : Nat) : a ∈ l.take (m + 1) ↔ a ∈ l.take m ∨ a = i := by
  rw [List.take_add_one, hi]
  simp
theorem not_mem_take {l : List Nat} (hnd : l.Nodup) {m i : Nat} (hi : l[m]? = some i) : i ∉ l.take m := fun h => by
  obtain ⟨j, hj⟩ := List.mem_iff_getElem?.1 h
  have hjm : j < m := by
    have := get_lt hj
    rw [List.length_take] at this
    omega
  rw [List.getElem?_take_of_lt hjm] at hj
  have := (List.getElem?_inj (get_lt hj) hnd).1 (hj.trans hi.symm)
  omega
theorem shares_none (least sp : Int) (c : List Int) (l : List Nat) : sharesM least sp c (fun a => decide (a ∈ l.take 0)) = (List.range c.length).map fun i => least + partAt sp c i := by
  unfold sharesM
  refine List.map_congr_left fun i _ => ?_
  simp
theorem shares_at {least sp : Int} {c : List Int} {l : List Nat} (hnd : l.Nodup) {m i : Nat} (hi : l[m]? = some i) (hic : i < c.length) : (sharesM least sp c fun a => decide (a ∈ l.take m))[i]? = some (least + partAt sp c i) := by
  rw [shares_get hic, decide_eq_false (not_mem_take hnd hi)]
  simp
theorem shares_step {least sp : Int} {c : List Int} {l : List Nat} (hnd : l.Nodup) {m i : Nat} (hi : l[m]? = some i) (hic : i < c.length) : (sharesM least sp c fun a => decide (a ∈ l.take m)).set i (least + partAt sp c i + 1) = sharesM least sp c fun a => decide (a ∈ l.take (m + 1)) := by
  apply List.ext_getElem?
  intro a
  rw [List.getElem?_set]
  by_cases h : i = a
  · subst h
    rw [if_pos rfl, if_pos (by rw [shares_len]; exact hic), shares_get hic, decide_eq_true ((mem_take_succ hi i).2 (.inr rfl))]
    simp
  · rw [if_neg h]
    rcases Nat.lt_or_ge a c.length with ha | ha
    · rw [shares_get ha, shares_get ha]
      congr 2
      have : (a ∈ l.take (m + 1)) ↔ a ∈ l.take m := by rw [mem_take_succ hi]; exact ⟨fun h' => h'.elim id fun e => absurd e.symm h, .inl⟩
      simp only [this]
    · rw [List.getElem?_eq_none (by rw [shares_len]; exact ha), List.getElem?_eq_none (by rw [shares_len]; exact ha)]
theorem part_pos {sp : Int} {c : List Int} (h : 0 < c.sum) {i : Nat} {x : Int} (hx : c[i]? = some x) : partAt sp c i = sp * x / c.sum ∧ restAt sp c i = sp * x % c.sum := by
  unfold partAt restAt effC effT
  rw [if_pos h, if_pos h, List.getD_eq_getElem?_getD, hx]
  exact ⟨rfl, rfl⟩
theorem part_zero {sp : Int} {c : List Int} (h : ¬ 0 < c.sum) {i : Nat} (hi : i < c.length) : partAt sp c i = sp / c.length ∧ restAt sp c i = sp % c.length := by
  unfold partAt restAt effC effT
  rw [if_neg h, if_neg h, List.getD_eq_getElem?_getD, List.getElem?_replicate, if_pos hi]
  simp
def leftK (sp : Int) (c : List Int) (k : Nat) : Int := sp - ((List.range k).map (partAt sp c)).sum
theorem leftK_succ (sp : Int) (c : List Int) (k : Nat) : leftK sp c (k + 1) = leftK sp c k - partAt sp c k := by
  unfold leftK
  rw [List.range_succ, List.map_append, List.sum_append]
  simp
  omega
theorem part_le {sp : Int} {c : List Int} (hc : ∀ x ∈ c, 0 ≤ x) (h0 : 0 < c.length) (hs : 0 ≤ sp) (i : Nat) : partAt sp c i ≤ sp := by
  have hT := effT_pos h0
  refine Int.ediv_le_of_le_mul hT ?_
  have : (effC c).getD i 0 ≤ effT c := by
    rw [List.getD_eq_getElem?_getD]
    cases e : (effC c)[i]? with
    | none => exact Int.le_of_lt hT
    | some a =>
      have := sum_ge_mem (effC_nonneg hc) a (List.mem_of_getElem? e)
      rw [effC_sum] at this
      exact this
  exact Int.mul_le_mul_of_nonneg_left this hs
theorem leftK_rng {sp : Int} {c : List Int} (hc : ∀ x ∈ c, 0 ≤ x) (h0 : 0 < c.length) (hs : 0 ≤ sp) (k : Nat) : leftK sp c k ≤ sp ∧ sp - sp * k ≤ leftK sp c k := by
  induction k with
  | zero => simp [leftK]
  | succ k ih =>
    rw [leftK_succ]
    have h1 := part_nn hc h0 hs k
    have h2 := part_le hc h0 hs k
    have h3 : sp * ((k + 1 : Nat) : Int) = sp * k + sp := by push_cast; rw [Int.mul_add, Int.mul_one]
    omega
end Go.Proofs
namespace Go.Hx
variable {P : Program} {G : Nat → Option (List AVal)} {Γ Γ' : Gam} {H H' : AHeap} {w w' : World}
theorem W.midN {n : Nat} {rd : Option Nat} {Q : AX → St → Prop} {s : St} {x y : Code} (Φ : St → Prop) (h : W P G n rd x (fun ax s' => ax = .normal ∧ Φ s') s) (h2 : ∀ s', Φ s' → W P G n rd y Q s') : W P G n rd (.seq x y) Q s :=
  W.seq (h.mono fun ax s' ⟨e, hp⟩ => by subst e; exact h2 s' hp)
theorem upd_self {H : AHeap} {id : Nat} {b : Blk} (h : H.get id = some b) : H.upd id b = H := by
  have e : (fun j => if j = id then some b else H.get j) = H.get := by
    funext j
    by_cases hj : j = id
    · rw [if_pos hj, hj, h]
    · rw [if_neg hj]
  show AHeap.mk (fun j => if j = id then some b else H.get j) H.next = H
  rw [e]
theorem upd_upd (H : AHeap) (id : Nat) (b c : Blk) : (H.upd id b).upd id c = H.upd id c := by
  unfold AHeap.upd
  congr 1
  funext j
  by_cases hj : j = id <;> simp [hj]
end Go.Hx
namespace Go.Proofs
open Go.Hx
def natsJ (l : List Nat) : List Int := l.map fun (v : Nat) => (v : Int)
theorem natsJ_len (l : List Nat) : (natsJ l).length = l.length := by simp [natsJ]
theorem natsJ_get {l : List Nat} {i k : Nat} (h : l[i]? = some k) : (natsJ l)[i]? = some (k : Int) := by simp [natsJ, h]
theorem natsJ_set (l : List Nat) (i k : Nat) : (natsJ l).set i (k : Int) = natsJ (l.set i k) := by unfold natsJ; rw [List.map_set]

def parC (ns : List NodeP) (x : NodeP) : List Int := atL (cardsL ns) x.parents
def idxL : List Int → List Int → Int
  | _ :: cs, v :: vs => v * prodL cs + idxL cs vs
  | _, _ => 0
def FitsC (cs vs : List Int) : Prop := vs.length = cs.length ∧ ∀ (k : Nat) (c v : Int), cs[k]? = some c → vs[k]? = some v → 0 ≤ v ∧ v < c
theorem FitsC.tail {c v : Int} {cs vs : List Int} (h : FitsC (c :: cs) (v :: vs)) : FitsC cs vs := ⟨by simpa using h.1, fun k c v h1 h2 => h.2 (k + 1) c v (by simpa using h1) (by simpa using h2)⟩
theorem FitsC.head {c v : Int} {cs vs : List Int} (h : FitsC (c :: cs) (v :: vs)) : 0 ≤ v ∧ v < c := h.2 0 c v (by simp) (by simp)
theorem FitsC.pos {cs vs : List Int} (h : FitsC cs vs) : ∀ c ∈ cs, 1 ≤ c := fun c hc => by
  obtain ⟨k, hk⟩ := List.mem_iff_getElem?.1 hc
  obtain ⟨v, hv⟩ := get_of_lt (l := vs) (i := k) (by rw [h.1]; exact get_lt hk)
  have := h.2 k c v hk hv
  omega
theorem idxL_range : ∀ {cs vs : List Int}, FitsC cs vs → 0 ≤ idxL cs vs ∧ idxL cs vs < prodL cs := by
  intro cs
  induction cs with
  | nil => intro vs _; cases vs <;> (simp [idxL, prodL_nil])
  | cons c cs ih =>
    intro vs h
    cases vs with
    | nil => exact absurd h.1 (by simp)
    | cons v vs =>
      have h1 := ih h.tail
      have h2 := h.head
      have hp : 1 ≤ prodL cs := prodL_pos fun x hx => h.pos x (by simp [hx])
      rw [prodL_cons]
      simp only [idxL]
      have h3 : 0 ≤ v * prodL cs := Int.mul_nonneg h2.1 (by omega)
      have h4 : (v + 1) * prodL cs ≤ c * prodL cs := Int.mul_le_mul_of_nonneg_right (by omega) (by omega)
      rw [Int.add_mul, Int.one_mul] at h4
      omega
def hornL (cs vs : List Int) : Int := (cs.zip vs).foldl (fun a p => a * p.1 + p.2) 0
theorem horn_go : ∀ (cs vs : List Int), vs.length = cs.length → ∀ a, (cs.zip vs).foldl (fun a p => a * p.1 + p.2) a = a * prodL cs + idxL cs vs := by
  intro cs
  induction cs with
  | nil => intro vs _ a; simp [prodL_nil, idxL]
  | cons c cs ih =>
    intro vs h a
    cases vs with
    | nil => simp at h
    | cons v vs =>
      simp only [List.zip_cons_cons, List.foldl_cons]
      rw [ih vs (by simpa using h), prodL_cons]
      simp only [idxL]
      rw [Int.add_mul, Int.mul_assoc]; omega
theorem hornL_eq {cs vs : List Int} (h : vs.length = cs.length) : hornL cs vs = idxL cs vs := by
  unfold hornL; rw [horn_go cs vs h]; omega
theorem hornL_snoc {cs vs : List Int} {k : Nat} {c v : Int} (h1 : cs[k]? = some c) (h2 : vs[k]? = some v) : hornL (cs.take (k + 1)) (vs.take (k + 1)) = hornL (cs.take k) (vs.take k) * c + v := by
  unfold hornL
  rw [take_succ_get h1, take_succ_get h2, List.zip_append (by have := get_lt h1; have := get_lt h2; simp; omega), List.foldl_append]
  rfl
def SmallC (l : List Int) : Prop := l.length ≤ 12 ∧ ∀ x ∈ l, 0 ≤ x ∧ x ≤ 8
theorem SmallC.take {l : List Int} (h : SmallC l) (k : Nat) : SmallC (l.take k) := ⟨by have := h.1; simp; omega, fun x hx => h.2 x (List.mem_of_mem_take hx)⟩
theorem SmallC.drop {l : List Int} (h : SmallC l) (k : Nat) : SmallC (l.drop k) := ⟨by have := h.1; simp; omega, fun x hx => h.2 x (List.mem_of_mem_drop hx)⟩
theorem same02_spec (x y : List Int) (hx : (x.length : Int) < 2 ^ 62) (H : AHeap) (K : ARes → AHeap → Prop) (hK : K (.ret (.lit (.bool (decide (x = y))))) H) : ACall Tryd.prog G0 60 [vecI x, vecI y] H K := by
  have no : ¬ x = y → FinV Tryd.prog G0 H K (.lit (.bool false)) H := fun h => FinV.mk (Nat.le_refl _) (by rw [decide_eq_false h] at hK; exact hK)
  refine ACall.of_body (n := 26) (rs := [.tmp 4]) Tryd.func60 rfl rfl rfl (by decide) (by kernel_rfl) (by simp) ?_
  by_cases hl : (x.length : Int) = y.length
  rotate_left
  · simp (config := { maxSteps := 1000000 }) only [go_sem, hl, appendA_U]
    exact no fun h => hl (by rw [h])
  simp (config := { maxSteps := 1000000 }) only [go_sem, hl, appendA_U]
  refine W.loop0 67106864 (by rfl) (fun ρ H' => H' = H ∧ ∃ k : Nat, ρ 5 = lin k ∧ k ≤ x.length ∧ x.take k = y.take k) (fun ρ H => x.length - (iv (ρ 5)).toNat) ?_ ?_
  · simp (config := { maxSteps := 1000000 }) only [go_sem, appendA_U]
    exact ⟨0, rfl, by omega, rfl⟩
  rintro ρ H' ⟨rfl, k, h5, hk, ht⟩
  refine vc_sound _ _ _ (by rfl) ?_
  by_cases hb : (k : Int) < y.length
  · obtain ⟨a, ha⟩ := get_of_lt (l := x) (i := k) (by omega)
    obtain ⟨b, hbk⟩ := get_of_lt (l := y) (i := k) (by omega)
    have hxn := ne_of_get ha
    have hyn := ne_of_get hbk
    have hbx : (k : Int) < x.length := by omega
    simp (config := { maxSteps := 1000000 }) only [go_sem, h5, hb, hbx, hl, appendA_U]
    refine W.draw 8 [0, 0, 3, 7, 0, 0, 48, 112] Tryd.mixed (by kernel_rfl) (by kernel_rfl) ?_
    by_cases he : a = b
    · subst he
      simp (config := { maxSteps := 1000000 }) only [go_sem, h5, hb, hbx, ha, hbk, hxn, hyn, appendA_U]
      rw [IntWalk.i64_in ((k : Int) + 1) (by omega)]
      exact ⟨⟨k + 1, by simp, by omega, by rw [take_succ_get ha, take_succ_get hbk, ht]⟩, by omega⟩
    · simp (config := { maxSteps := 1000000 }) only [go_sem, h5, hb, hbx, ha, hbk, hxn, hyn, he, appendA_U]
      exact no fun h => he (by rw [h, hbk] at ha; exact (Option.some.inj ha).symm)
  · simp (config := { maxSteps := 1000000 }) only [go_sem, h5, hb, hl, appendA_U]
    refine FinV.mk (Nat.le_refl _) ?_
    have : x = y := by
      rw [List.take_of_length_le (by omega), List.take_of_length_le (by omega)] at ht
      exact ht
    rw [decide_eq_true this] at hK
    exact hK
instance placesDec (l : List Int) (n : Int) : Decidable (PlacesOk l n) := by unfold PlacesOk; infer_instance
theorem PlacesOk.nil {n : Int} : PlacesOk [] n := ⟨.nil, fun _ h => by cases h⟩
theorem PlacesOk.take {l : List Int} {n : Int} (h : PlacesOk l n) (k : Nat) : PlacesOk (l.take k) n := ⟨h.1.sublist (List.take_sublist k l), fun p hp => h.2 p (List.mem_of_mem_take hp)⟩
theorem PlacesOk.lt {l : List Int} {n : Int} (h : PlacesOk l n) {i j : Nat} {a b : Int} (ha : l[i]? = some a) (hb : l[j]? = some b) (hij : i < j) : a < b := by
  have := List.pairwise_iff_getElem.1 h.1 i j (get_lt ha) (get_lt hb) hij
  have e1 := List.getElem?_eq_getElem (get_lt ha)
  have e2 := List.getElem?_eq_getElem (get_lt hb)
  rw [ha] at e1; rw [hb] at e2
  rw [Option.some.inj e1, Option.some.inj e2]; exact this
theorem PlacesOk.len {l : List Int} {n : Int} (h : PlacesOk l n) : (l.length : Int) ≤ max n 0 := by
  -- the k-th place is at least k
  have key : ∀ (k : Nat) (a : Int), l[k]? = some a → (k : Int) ≤ a := by
    intro k
    induction k with
    | zero => intro a ha; have := h.2 a (List.mem_of_getElem? ha); omega
    | succ k ih =>
      intro a ha
      obtain ⟨b, hb⟩ := get_of_lt (l := l) (i := k) (by have := get_lt ha; omega)
      have := ih b hb
      have := h.lt hb ha (by omega)
      omega
  rcases Nat.eq_zero_or_pos l.length with h0 | h0
  · omega
  · obtain ⟨a, ha⟩ := get_of_lt (l := l) (i := l.length - 1) (by omega)
    have h1 := key _ a ha
    have h2 := h.2 a (List.mem_of_getElem? ha)
    omega
end Go.Proofs
namespace Go.Hx
theorem Over.live {H H' : AHeap} (h : Over H H') {id g : Nat} (hi : id < H.next) : H'.live id g = H.live id g := by
  unfold AHeap.live; rw [h.old id hi]
theorem Over.upd {H H' : AHeap} (h : Over H H') {id : Nat} (hi : H.next ≤ id) (b : Blk) : Over H (H'.upd id b) := ⟨h.next, fun j hj => by rw [upd_get, if_neg (by omega)]; exact h.old j hj⟩
theorem live_upd_same {H : AHeap} {id g : Nat} {e : TypeId} {c : List AVal} : (H.upd id (.arr g e c)).live id g = some (e, c) := get_live (by rw [upd_get, if_pos rfl])
theorem live_upd_other {H : AHeap} {id j g : Nat} {b : Blk} (h : j ≠ id) : (H.upd id b).live j g = H.live j g := by unfold AHeap.live; rw [upd_get, if_neg h]
attribute [go_sem] live_upd_same
@[go_sem] theorem partU_func (a b : Array TypeId) (c : Bool) (n : Nat) (cells : List AVal) (off : Nat) : partU (some (.func a b c)) n cells off = cells[off]? := rfl
end Go.Hx
namespace Go.Proofs
open Go.Hx
theorem over_app {H H' H2 : AHeap} {e : TypeId} {v : AVal} {cs : List AVal} (ov : Over H H') (h : OwnG H.next H' e v cs) (hn : H'.next ≤ H2.next) (hp : ∀ k, k < H'.next → (∀ g n, v ≠ .own k g 0 n 1) → H2.get k = H'.get k) : Over H H2 :=
  ⟨Nat.le_trans ov.next hn, fun id hi => by
    rw [hp id (Nat.lt_of_lt_of_le hi ov.next) fun g n he => ?_, ov.old id hi]
    rcases h with ⟨h, _⟩ | ⟨i2, g2, a1, _, h, _⟩
    · rw [h] at he; cases he
    · rw [h] at he; have := AVal.own.inj he; omega⟩
theorem app_int {H H' : AHeap} {v : AVal} {l : List Int} (x : Int) (ov : Over H H') (h : OwnG H.next H' 3 v (ints l)) (hl : l.length < 2 ^ 40) :
    ∃ v' H2, appendA Tryd.prog (ext H' [.arr 0 3 [.lit (.int .i64 x)]]) (H'.next + 1) 22 22 v (.own H'.next 0 0 1 1) = some (v', H2) ∧ Over H H2 ∧ OwnG H.next H2 3 v' (ints (l ++ [x])) ∧ H'.next ≤ H2.next ∧ (∀ k, k < H'.next → (∀ g n, v ≠ .own k g 0 n 1) → H2.get k = H'.get k) := by
  obtain ⟨v', H2, hA, hO, hn2, hp⟩ := app_oneG (P := Tryd.prog) (H := H') (t := 22) (x := lin x) (n := H'.next + 1) Tryd.underlying22 Tryd.cells3 Tryd.zero3 rfl (by rw [Tryd.bytes3, ints_length]; omega) h ov.next rfl
  simp only [lin] at hA
  exact ⟨v', H2, hA, over_app ov h hn2 hp, by simpa [ints, lin] using hO, hn2, hp⟩
theorem vecV_one (l : List (List Int)) : (vecV l).one = true := rfl
theorem vecV_cells (l : List (List Int)) : (vecV l).cells = [vecV l] := rfl
theorem nodesV_one (l : List NodeP) : (nodesV l).one = true := rfl
theorem nodesV_cells (l : List NodeP) : (nodesV l).cells = [nodesV l] := rfl
theorem utilsV_one (l : List UtilP) : (utilsV l).one = true := rfl
theorem utilsV_cells (l : List UtilP) : (utilsV l).cells = [utilsV l] := rfl
attribute [go_sem] vecV_one vecV_cells nodesV_one nodesV_cells utilsV_one utilsV_cells
structure OwnI (H H' : AHeap) (id : Nat) (c : List Int) : Prop where
  ov : Over H H'
  lo : H.next ≤ id
  hi : id < H'.next
  get : H'.get id = some (.arr 0 3 (ints c))
theorem OwnI.live {H H' : AHeap} {id : Nat} {c : List Int} (h : OwnI H H' id c) : H'.live id 0 = some (3, ints c) := get_live h.get
theorem OwnI.ne {H H' : AHeap} {id : Nat} {c : List Int} (h : OwnI H H' id c) : ¬ id = H'.next := by have := h.hi; omega
theorem OwnI.over {H H' H2 : AHeap} {id : Nat} {c : List Int} (h : OwnI H H' id c) (o : Over H' H2) : OwnI H H2 id c := ⟨h.ov.trans o, h.lo, Nat.lt_of_lt_of_le h.hi o.next, (o.old id h.hi).trans h.get⟩
theorem OwnI.store {H H' : AHeap} {id : Nat} {c : List Int} (h : OwnI H H' id c) {k : Nat} (hk : k < c.length) (x : Int) : OwnI H (H'.upd id (.arr 0 3 (setAt (ints c) k [.lit (.int .i64 x)]))) id (c.set k x) :=
  ⟨⟨h.ov.next, fun i hi => by rw [upd_get, if_neg (by have := h.lo; omega)]; exact h.ov.old i hi⟩, h.lo, h.hi, by rw [upd_get, if_pos rfl, setAt_ints hk]⟩
theorem OwnI.new {H : AHeap} (L : List Blk) (n : Nat) : OwnI H (ext H (.arr 0 3 (List.replicate n (.lit (.int .i64 0))) :: L)) H.next (List.replicate n 0) :=
  ⟨.ext _ _, Nat.le_refl _, by simp [ext_next], by rw [get_ext0]; simp [ints, lin]⟩
theorem OwnI.fin {H H' : AHeap} {id : Nat} {c : List Int} {K : ARes → AHeap → Prop} (hcl : Clo H) (h : OwnI H H' id c) {n : Nat} (hn : n = c.length) (hK : K (.ret (vecI c)) H) : FinV Tryd.prog G0 H K (.own id 0 0 n 1) H' := by
  subst hn
  refine FinV.dropO G0_ok hcl h.ov ?_ hK
  exact .ints h.lo h.get (by simp) fun i hi => by simp [ints_get, hi]
theorem take_set_eq {l m : List Int} {k : Nat} {x : Int} (h : l.take k = m.take k) (hk : k < l.length) (hx : m[k]? = some x) : (l.set k x).take (k + 1) = m.take (k + 1) := by
  rw [take_succ_get hx, take_succ_get (show (l.set k x)[k]? = some x by rw [List.getElem?_set_self hk]), List.take_set_of_le (Nat.le_refl k), h]
theorem getD_of_get {α : Type} {l : List α} {i : Nat} {a d : α} (h : l[i]? = some a) : l.getD i d = a := by rw [List.getD_eq_getElem?_getD, h]; rfl
theorem atL_len (l p : List Int) : (atL l p).length = p.length := by simp [atL]
theorem atL_get {l p : List Int} {k : Nat} {q : Int} (h : p[k]? = some q) : (atL l p)[k]? = some (l.getD q.toNat 0) := by unfold atL; rw [List.getElem?_map, h]; rfl

def setN (l : List Int) : Nat := l.foldl (fun s p => s ||| 2 ^ p.toNat) 0
theorem lt_two_pow_of_bits {m n : Nat} (h : ∀ i, m.testBit i = true → i < n) : m < 2 ^ n := by
  apply Nat.lt_pow_two_of_testBit
  intro i hi
  rcases Bool.eq_false_or_eq_true (m.testBit i) with e | e
  · exact absurd (h i e) (by omega)
  · exact e
theorem bit_lt {m n i : Nat} (h : m < 2 ^ n) (hi : m.testBit i = true) : i < n := by
  rcases Nat.lt_or_ge i n with h' | h'
  · exact h'
  · rw [Nat.testBit_lt_two_pow (Nat.lt_of_lt_of_le h (Nat.pow_le_pow_right (by decide) h'))] at hi; cases hi
def Sub (s t : Nat) : Prop := ∀ i, s.testBit i = true → t.testBit i = true
theorem Sub.refl (s : Nat) : Sub s s := fun _ h => h
theorem Sub.trans {s t u : Nat} (h : Sub s t) (h' : Sub t u) : Sub s u := fun i hi => h' i (h i hi)
theorem Sub.or {s t u : Nat} (h : Sub s u) (h' : Sub t u) : Sub (s ||| t) u := fun i hi => by
  rw [Nat.testBit_or, Bool.or_eq_true] at hi
  exact hi.elim (h i) (h' i)
theorem Sub.left (s t : Nat) : Sub s (s ||| t) := fun i hi => by rw [Nat.testBit_or, hi]; rfl
theorem Sub.right (s t : Nat) : Sub t (s ||| t) := fun i hi => by rw [Nat.testBit_or, hi]; simp
theorem Sub.antisymm {s t : Nat} (h : Sub s t) (h' : Sub t s) : s = t := Nat.eq_of_testBit_eq fun i => by
  rw [Bool.eq_iff_iff]; exact ⟨h i, h' i⟩
theorem subN_zero {a b : Nat} (ha : a < 2 ^ 64) : subN a b = 0 ↔ Sub a b := by
  constructor
  · intro h i hi
    have := subN_bit (a := a) (b := b) (i := i) ha
    rw [h, Nat.zero_testBit, hi] at this
    simpa using this.symm
  · intro h
    apply Nat.eq_of_testBit_eq
    intro i
    rw [subN_bit ha, Nat.zero_testBit]
    cases hi : a.testBit i
    · rfl
    · rw [h i hi]; rfl

def upStep (ps : List Nat) (s v : Nat) : Nat := if s.testBit v = true then s ||| ps.getD v 0 else s
def upOnce (ps : List Nat) (s : Nat) : Nat := (List.range ps.length).foldl (upStep ps) s
def upN (ps : List Nat) : Nat → Nat → Nat
  | 0, s => s
  | k + 1, s => upOnce ps (upN ps k s)
def upL (ps : List Nat) (s : Nat) : Nat := upN ps ps.length s
def AcycB (ps : List Nat) : Prop := ∀ v, v < ps.length → (upL ps (ps.getD v 0)).testBit v = false
def Closed (ps : List Nat) (t : Nat) : Prop := ∀ v, v < ps.length → t.testBit v = true → Sub (ps.getD v 0) t
theorem upStep_ge (ps : List Nat) (s v : Nat) : Sub s (upStep ps s v) := by unfold upStep; split; exact .left _ _; exact .refl _
theorem foldl_ge (ps : List Nat) (l : List Nat) : ∀ s, Sub s (l.foldl (upStep ps) s) := by
  induction l with
  | nil => exact fun s => .refl s
  | cons v l ih => exact fun s => (upStep_ge ps s v).trans (ih _)
theorem upOnce_ge (ps : List Nat) (s : Nat) : Sub s (upOnce ps s) := foldl_ge ps _ s
theorem foldl_closed {ps : List Nat} {t : Nat} (hc : Closed ps t) (l : List Nat) (hl : ∀ v ∈ l, v < ps.length) : ∀ s, Sub s t → Sub (l.foldl (upStep ps) s) t := by
  induction l with
  | nil => exact fun s h => h
  | cons v l ih =>
    intro s h
    refine ih (fun v hv => hl v (by simp [hv])) _ ?_
    unfold upStep
    split
    · rename_i hv
      exact h.or (hc v (hl v (by simp)) (h v hv))
    · exact h
theorem upOnce_closed {ps : List Nat} {t : Nat} (hc : Closed ps t) {s : Nat} (h : Sub s t) : Sub (upOnce ps s) t := foldl_closed hc _ (fun v hv => List.mem_range.1 hv) s h
theorem upN_closed {ps : List Nat} {t : Nat} (hc : Closed ps t) (k : Nat) {s : Nat} (h : Sub s t) : Sub (upN ps k s) t := by
  induction k with
  | zero => exact h
  | succ k ih => exact upOnce_closed hc ih
theorem upN_ge (ps : List Nat) (k s : Nat) : Sub s (upN ps k s) := by
  induction k with
  | zero => exact .refl _
  | succ k ih => exact ih.trans (upOnce_ge _ _)
theorem closed_of_fix {ps : List Nat} {s : Nat} (h : upOnce ps s = s) : Closed ps s := by
  intro v hv hs
  have key : ∀ (l : List Nat) (s0 : Nat), v ∈ l → s0.testBit v = true → Sub (ps.getD v 0) (l.foldl (upStep ps) s0) := by
    intro l
    induction l with
    | nil => intro s0 h; cases h
    | cons u l ih =>
      intro s0 hm hb
      rcases List.mem_cons.1 hm with rfl | hm
      · refine Sub.trans ?_ (foldl_ge ps l _)
        unfold upStep
        rw [if_pos hb]
        exact .right _ _
      · exact ih _ hm (upStep_ge ps s0 u v hb)
  have := key (List.range ps.length) s (List.mem_range.2 hv) hs
  unfold upOnce at h
  rwa [h] at this
def cntB (n s : Nat) : Nat := (List.range n).countP fun i => s.testBit i
theorem cntB_le (n s : Nat) : cntB n s ≤ n := by have := List.countP_le_length (p := fun i => s.testBit i) (l := List.range n); simpa [cntB] using this
theorem countP_strict {l : List Nat} {p q : Nat → Bool} (h : ∀ x ∈ l, p x = true → q x = true) {a : Nat} (ha : a ∈ l) (hp : p a = false) (hq : q a = true) : l.countP p < l.countP q := by
  induction l with
  | nil => cases ha
  | cons x l ih =>
    have hm : l.countP p ≤ l.countP q := List.countP_mono_left fun y hy => h y (by simp [hy])
    rcases List.mem_cons.1 ha with rfl | ha
    · rw [List.countP_cons, List.countP_cons, hp, hq]
      simp
      omega
    · have := ih (fun y hy => h y (by simp [hy])) ha
      have hx := h x (by simp)
      rw [List.countP_cons, List.countP_cons]
      cases hpx : p x
      · simp; omega
      · rw [hx hpx]; simp; omega
theorem cntB_lt {n s t i : Nat} (h : Sub s t) (hi : i < n) (h0 : s.testBit i = false) (h1 : t.testBit i = true) : cntB n s < cntB n t :=
  countP_strict (fun x _ hx => h x hx) (List.mem_range.2 hi) h0 h1
theorem upL_closed {ps : List Nat} (hp : ∀ p ∈ ps, p < 2 ^ ps.length) {s : Nat} (hs : s < 2 ^ ps.length) : Closed ps (upL ps s) := by
  have hb : ∀ k, upN ps k s < 2 ^ ps.length := fun k => by
    have ht : Closed ps (2 ^ ps.length - 1) := fun v _ _ i hi => by
      rw [Nat.testBit_two_pow_sub_one]
      have : ps.getD v 0 < 2 ^ ps.length := by
        rw [List.getD_eq_getElem?_getD]
        cases h : ps[v]? with
        | none => exact Nat.two_pow_pos _
        | some p => exact hp p (List.mem_of_getElem? h)
      simpa using bit_lt this hi
    have := upN_closed ht k (s := s) fun i hi => by rw [Nat.testBit_two_pow_sub_one]; simpa using bit_lt hs hi
    exact lt_two_pow_of_bits fun i hi => by have := this i hi; rw [Nat.testBit_two_pow_sub_one] at this; simpa using this
  have key : ∀ k, upOnce ps (upN ps k s) = upN ps k s ∨ k + 1 ≤ cntB ps.length (upN ps k s) := by
    have grow : ∀ t, t < 2 ^ ps.length → upOnce ps t < 2 ^ ps.length → upOnce ps t ≠ t → cntB ps.length t < cntB ps.length (upOnce ps t) := fun t ht ht' hne => by
      have : ∃ i, (upOnce ps t).testBit i = true ∧ t.testBit i = false := by
        refine Classical.byContradiction fun hno => hne (Sub.antisymm (fun i hi => ?_) (upOnce_ge ps t))
        rcases Bool.eq_false_or_eq_true (t.testBit i) with e | e
        · exact e
        · exact absurd ⟨i, hi, e⟩ hno
      obtain ⟨i, h1, h0⟩ := this
      exact cntB_lt (upOnce_ge ps t) (bit_lt ht' h1) h0 h1
    intro k
    induction k with
    | zero =>
      by_cases h0 : s = 0
      · left
        subst h0
        show upOnce ps 0 = 0
        unfold upOnce
        have : ∀ l : List Nat, l.foldl (upStep ps) 0 = 0 := fun l => by
          induction l with
          | nil => rfl
          | cons v l ih => simp only [List.foldl_cons, upStep, Nat.zero_testBit, Bool.false_eq_true, if_false]; exact ih
        exact this _
      · right
        obtain ⟨i, hi⟩ := Nat.exists_testBit_of_ne_zero h0
        have : cntB ps.length 0 < cntB ps.length s := cntB_lt (fun j hj => by rw [Nat.zero_testBit] at hj; cases hj) (bit_lt hs hi) (Nat.zero_testBit i) hi
        show 0 + 1 ≤ cntB ps.length s
        omega
    | succ k ih =>
      rcases ih with ih | ih
      · left
        show upOnce ps (upOnce ps (upN ps k s)) = upOnce ps (upN ps k s)
        rw [ih]; exact ih
      · by_cases hf : upOnce ps (upN ps k s) = upN ps k s
        · left
          show upOnce ps (upOnce ps (upN ps k s)) = upOnce ps (upN ps k s)
          rw [hf]; exact hf
        · right
          have := grow _ (hb k) (hb (k + 1)) hf
          show k + 1 + 1 ≤ cntB ps.length (upOnce ps (upN ps k s))
          omega
  rcases key ps.length with h | h
  · exact closed_of_fix h
  · have := cntB_le ps.length (upN ps ps.length s); omega

def freeB (ps : List Nat) (done v : Nat) : Bool := !done.testBit v && decide (subN (ps.getD v 0) done = 0)
def nextT (ps : List Nat) (done : Nat) : Option Nat := (List.range ps.length).find? (freeB ps done)
def topoGo (ps : List Nat) : Nat → List Nat → Nat → Option (List Nat)
  | 0, out, _ => some out
  | k + 1, out, done => match nextT ps done with
    | none => none
    | some v => topoGo ps k (out ++ [v]) (done ||| 2 ^ v)
theorem nextT_some {ps : List Nat} {done v : Nat} (hp : ∀ p ∈ ps, p < 2 ^ 64) (h : nextT ps done = some v) : v < ps.length ∧ done.testBit v = false ∧ Sub (ps.getD v 0) done := by
  unfold nextT at h
  have h1 := List.mem_of_find?_eq_some h
  have h2 := List.find?_some h
  unfold freeB at h2
  simp only [Bool.and_eq_true, Bool.not_eq_true', decide_eq_true_eq] at h2
  have hv := List.mem_range.1 h1
  refine ⟨hv, h2.1, (subN_zero ?_).1 h2.2⟩
  rw [List.getD_eq_getElem?_getD]
  cases h : ps[v]? with
  | none => decide
  | some p => exact hp p (List.mem_of_getElem? h)
theorem nextT_none {ps : List Nat} {done : Nat} (hp : ∀ p ∈ ps, p < 2 ^ 64) (h : nextT ps done = none) : ∀ v, v < ps.length → done.testBit v = true ∨ ¬ Sub (ps.getD v 0) done := by
  intro v hv
  unfold nextT at h
  rw [List.find?_eq_none] at h
  have := h v (List.mem_range.2 hv)
  unfold freeB at this
  rcases Bool.eq_false_or_eq_true (done.testBit v) with e | e
  · exact .inl e
  · right
    intro hs
    refine this ?_
    rw [e, (subN_zero ?_).2 hs]
    · simp
    · rw [List.getD_eq_getElem?_getD]
      cases h : ps[v]? with
      | none => decide
      | some p => exact hp p (List.mem_of_getElem? h)
theorem or_pow_bit (d v i : Nat) : (d ||| 2 ^ v).testBit i = (d.testBit i || decide (v = i)) := by rw [Nat.testBit_or, Nat.testBit_two_pow]
theorem topo_of_acyc {ps : List Nat} (hp : ∀ p ∈ ps, p < 2 ^ ps.length) (h64 : ps.length ≤ 64) (ha : AcycB ps) : ∀ (k : Nat) (out : List Nat) (done : Nat), k + cntB ps.length done = ps.length → ∃ r, topoGo ps k out done = some r := by
  have hp64 : ∀ p ∈ ps, p < 2 ^ 64 := fun p h => Nat.lt_of_lt_of_le (hp p h) (Nat.pow_le_pow_right (by decide) h64)
  have hpd : ∀ v, ps.getD v 0 < 2 ^ ps.length := fun v => by
    rw [List.getD_eq_getElem?_getD]
    cases h : ps[v]? with
    | none => exact Nat.two_pow_pos _
    | some p => exact hp p (List.mem_of_getElem? h)
  intro k
  induction k with
  | zero => exact fun out done _ => ⟨out, rfl⟩
  | succ k ih =>
    intro out done hc
    unfold topoGo
    cases hn : nextT ps done with
    | none =>
      exfalso
      have hno := nextT_none hp64 hn
      -- every node that is left has a parent that is left
      have step : ∀ m v, v < ps.length → done.testBit v = false → cntB ps.length (upL ps (ps.getD v 0)) ≤ m → False := by
        intro m
        induction m with
        | zero =>
          intro v hv hd hm
          obtain ⟨i, h1, h2⟩ : ∃ i, (ps.getD v 0).testBit i = true ∧ done.testBit i = false := by
            rcases hno v hv with h | h
            · rw [hd] at h; cases h
            · refine Classical.byContradiction fun hc => h fun i hi => ?_
              rcases Bool.eq_false_or_eq_true (done.testBit i) with e | e
              · exact e
              · exact absurd ⟨i, hi, e⟩ hc
          have : cntB ps.length 0 < cntB ps.length (upL ps (ps.getD v 0)) := cntB_lt (fun j hj => by rw [Nat.zero_testBit] at hj; cases hj) (bit_lt (hpd v) h1) (Nat.zero_testBit i) (upN_ge ps _ _ i h1)
          omega
        | succ m ihm =>
          intro v hv hd hm
          obtain ⟨u, h1, h2⟩ : ∃ i, (ps.getD v 0).testBit i = true ∧ done.testBit i = false := by
            rcases hno v hv with h | h
            · rw [hd] at h; cases h
            · refine Classical.byContradiction fun hc => h fun i hi => ?_
              rcases Bool.eq_false_or_eq_true (done.testBit i) with e | e
              · exact e
              · exact absurd ⟨i, hi, e⟩ hc
          have hu := bit_lt (hpd v) h1
          have hcl := upL_closed hp (hpd v)
          have hin : (upL ps (ps.getD v 0)).testBit u = true := upN_ge ps _ _ u h1
          have hsub : Sub (upL ps (ps.getD u 0)) (upL ps (ps.getD v 0)) := upN_closed hcl _ (hcl u hu hin)
          have := cntB_lt hsub hu (ha u hu) hin
          exact ihm u hu h2 (by omega)
      obtain ⟨v, hv, hd⟩ : ∃ v, v < ps.length ∧ done.testBit v = false := by
        refine Classical.byContradiction fun hno => ?_
        have : cntB ps.length done = ps.length := by
          unfold cntB
          conv => rhs; rw [← List.length_range (n := ps.length)]
          rw [List.countP_eq_length]
          intro x hx
          rcases Bool.eq_false_or_eq_true (done.testBit x) with e | e
          · exact e
          · exact absurd ⟨x, List.mem_range.1 hx, e⟩ hno
        omega
      exact step _ v hv hd (Nat.le_refl _)
    | some v =>
      obtain ⟨h1, h2, h3⟩ := nextT_some hp64 hn
      refine ih _ _ ?_
      have : cntB ps.length (done ||| 2 ^ v) = cntB ps.length done + 1 := by
        unfold cntB
        have : ∀ l : List Nat, l.Nodup → v ∈ l → l.countP (fun i => (done ||| 2 ^ v).testBit i) = l.countP (fun i => done.testBit i) + 1 := by
          intro l
          induction l with
          | nil => intro _ h; cases h
          | cons x l ihl =>
            intro hnd hmem
            obtain ⟨g1, g2⟩ := List.nodup_cons.1 hnd
            rw [List.countP_cons, List.countP_cons]
            rcases List.mem_cons.1 hmem with rfl | hm2
            · have : l.countP (fun i => (done ||| 2 ^ v).testBit i) = l.countP (fun i => done.testBit i) := List.countP_congr fun y hy => by
                have : ¬ v = y := by rintro rfl; exact g1 hy
                simp [or_pow_bit, this]
              rw [this]; simp [or_pow_bit, h2]
            · have hx : ¬ v = x := by rintro rfl; exact g1 hm2
              rw [ihl g2 hm2]; simp [or_pow_bit, hx]; omega
        exact this _ List.nodup_range (List.mem_range.2 h1)
      omega
def decK (D v : Nat) : List Nat := (List.range v).filter fun v => D.testBit v
def placeD (D v : Nat) : Nat := (decK D v).length
def decL (d : InfP) : List Nat := decK d.decs d.nodes.length
def unitRow (g card x : Int) : List Int := (List.replicate card.toNat 0).set x.toNat g
def rowsN (ns : List NodeP) (x : NodeP) : Nat := (prodL (parC ns x)).toNat
def decRows (g : Int) (ns : List NodeP) (c : Nat → Nat → Int) (p : Nat) (x : NodeP) : List (List Int) := (List.range (rowsN ns x)).map fun r => unitRow g x.card (c p r)
def fillN (d : InfP) (c : Nat → Nat → Int) (k v : Nat) (x : NodeP) : NodeP := if d.decs.testBit v = true ∧ placeD d.decs v < k then { x with rows := x.rows ++ decRows d.grain d.nodes c (placeD d.decs v) x } else x
def fillK (d : InfP) (c : Nat → Nat → Int) (k : Nat) : List NodeP := d.nodes.zipIdx.map fun p => fillN d c k p.2 p.1
def fillL (d : InfP) (c : Nat → Nat → Int) : List NodeP := fillK d c (decL d).length
end Go.Proofs
namespace Go.Hx
def vecB (l : List Nat) : AVal := .vec l.length (l.map bitV)
attribute [go_sem] bitV vecB
theorem OwnG.fzB {S : Nat → Prop} {lo nx : Nat} {H : AHeap} {e : TypeId} {v : AVal} {l : List Nat} (h : OwnG lo H e v (l.map bitV)) (hS : ∀ i, lo ≤ i → S i) : Fz S H nx v (vecB l) := by
  have := h.fz (S := S) (nx := nx) (cs' := l.map bitV) hS rfl fun i hi _ => by simp only [List.getElem_map]; exact .lit _
  rw [List.length_map] at this
  exact this

end Go.Hx
namespace Go.Proofs
open Go.Hx
def setsL (ns : List NodeP) : List Nat := ns.map fun x => setN x.parents
theorem foldl_lt {ps : List Nat} (hp : ∀ p ∈ ps, p < 2 ^ 64) (l : List Nat) : ∀ s, s < 2 ^ 64 → l.foldl (upStep ps) s < 2 ^ 64 := by
  induction l with
  | nil => exact fun s h => h
  | cons v l ih =>
    intro s h
    refine ih _ ?_
    unfold upStep
    split
    · refine Nat.or_lt_two_pow h ?_
      rw [List.getD_eq_getElem?_getD]
      cases h : ps[v]? with
      | none => decide
      | some p => exact hp p (List.mem_of_getElem? h)
    · exact h
theorem upN_lt {ps : List Nat} (hp : ∀ p ∈ ps, p < 2 ^ 64) {s : Nat} (hs : s < 2 ^ 64) : ∀ k, upN ps k s < 2 ^ 64
  | 0 => hs
  | k + 1 => foldl_lt hp _ _ (upN_lt hp hs k)
def RowOk (g card : Int) (r : List Int) : Prop := (r.length : Int) = card ∧ (∀ w ∈ r, 0 ≤ w ∧ w ≤ g) ∧ r.sum = g
def NodeOk (g : Int) (ns : List NodeP) (x : NodeP) : Prop := (x.rows.length : Int) = prodL (parC ns x) ∧ ∀ r ∈ x.rows, RowOk g x.card r
structure NetOk (g : Int) (ns : List NodeP) : Prop where
  g1 : 1 ≤ g ∧ g ≤ 60
  n1 : 1 ≤ ns.length ∧ ns.length ≤ 8
  node : ∀ x ∈ ns, (1 ≤ x.card ∧ x.card ≤ 4) ∧ PlacesOk x.parents ns.length
  size : prodL (cardsL ns) ≤ 1024
  acyc : AcycB (setsL ns)
  rows : ∀ x ∈ ns, NodeOk g ns x
def NetFit (ns : List NodeP) : Prop := (ns.length : Int) < 2 ^ 38 ∧ ∀ x ∈ ns, (x.parents.length : Int) < 2 ^ 38 ∧ (x.rows.length : Int) < 2 ^ 38 ∧ ∀ r ∈ x.rows, (r.length : Int) < 2 ^ 38
end Go.Proofs
namespace Go.Hx
variable {P : Program} {G : Nat → Option (List AVal)} {n : Nat} {rd : Option Nat} {Q : AX → St → Prop}

def bodyIt (idy : Nat) (B : Blk) (lo : Nat) (J : AHeap → Prop) (Stop : AX → AHeap → Prop) : AX → St → Prop
  | .normal, s => s.H.get idy = some B ∧ lo ≤ s.H.next ∧ J s.H
  | .ret, s => s.H.get idy = some B ∧ lo ≤ s.H.next ∧ Stop .ret s.H
  | .exit i, s => s.H.get idy = some B ∧ lo ≤ s.H.next ∧ Stop (.exit i) s.H
  | _, _ => False
def asgIt (P : Program) (G : Nat → Option (List AVal)) (n idy : Nat) (B Bb : Blk) (lo : Nat) (body : Code) (J : AHeap → Prop) (Stop : AX → AHeap → Prop) : AX → St → Prop
  | .normal, s => s.H.get idy = some B ∧ W P G n (some idy) body (bodyIt idy Bb lo J Stop) ⟨s.ρ, s.H.upd idy Bb⟩
  | _, _ => False

end Go.Hx
namespace Go.Proofs
open Go.Hx
end Go.Proofs
namespace Go.Hx
end Go.Hx
namespace Go.Proofs
open Go.Hx
structure RdS (g : Int) (ns : List NodeP) (H H' : AHeap) (c : List Int) (s : List Nat) : Prop where
  nx : H.next + 5 ≤ H'.next
  ov : Over H H'
  b0 : H'.get H.next = some (.arr 0 61 [.lit (.int .i64 g), .vec ns.length (nodesC ns)])
  b1 : H'.get (H.next + 1) = some (.arr 0 153 [.lit (.int .i64 0), .lit (.slice none 0 0), .lit (.slice none 0 0), .lit (.slice none 0 0), .lit (.slice none 0 0)])
  b2 : H'.get (H.next + 2) = some (.arr 0 3 (ints c))
  b3 : H'.get (H.next + 3) = some (.arr 0 100 (s.map bitV))
  b4 : H'.get (H.next + 4) = some (.arr 0 153 [.lit (.int .i64 g), .vec ns.length (nodesC ns), .own (H.next + 2) 0 0 ns.length 1, .own (H.next + 3) 0 0 ns.length 1, .lit (.slice none 0 0)])
  cl : c.length = ns.length
  sl : s.length = ns.length
theorem RdS.over {g : Int} {ns : List NodeP} {H H' H2 : AHeap} {c : List Int} {s : List Nat} (h : RdS g ns H H' c s) (o : Over H' H2) : RdS g ns H H2 c s where
  nx := Nat.le_trans h.nx o.next
  ov := h.ov.trans o
  b0 := (o.old _ (by have := h.nx; omega)).trans h.b0
  b1 := (o.old _ (by have := h.nx; omega)).trans h.b1
  b2 := (o.old _ (by have := h.nx; omega)).trans h.b2
  b3 := (o.old _ (by have := h.nx; omega)).trans h.b3
  b4 := (o.old _ (by have := h.nx; omega)).trans h.b4
  cl := h.cl
  sl := h.sl
theorem setAt_bits {l : List Nat} {i : Nat} {x : Nat} (h : i < l.length) : setAt (l.map bitV) i [.lit (.int .u64 (x : Int))] = (l.set i x).map bitV := by
  rw [setAt_one (by simpa using h)]
  simp [bitV]
theorem RdS.l0 {g : Int} {ns : List NodeP} {H H' : AHeap} {c : List Int} {s : List Nat} (h : RdS g ns H H' c s) : H'.live H.next 0 = some (61, [.lit (.int .i64 g), .vec ns.length (nodesC ns)]) := get_live h.b0
theorem RdS.l1 {g : Int} {ns : List NodeP} {H H' : AHeap} {c : List Int} {s : List Nat} (h : RdS g ns H H' c s) : H'.live (H.next + 1) 0 = some (153, [.lit (.int .i64 0), .lit (.slice none 0 0), .lit (.slice none 0 0), .lit (.slice none 0 0), .lit (.slice none 0 0)]) := get_live h.b1
theorem RdS.l2 {g : Int} {ns : List NodeP} {H H' : AHeap} {c : List Int} {s : List Nat} (h : RdS g ns H H' c s) : H'.live (H.next + 2) 0 = some (3, ints c) := get_live h.b2
theorem RdS.l3 {g : Int} {ns : List NodeP} {H H' : AHeap} {c : List Int} {s : List Nat} (h : RdS g ns H H' c s) : H'.live (H.next + 3) 0 = some (100, s.map bitV) := get_live h.b3
theorem RdS.l4 {g : Int} {ns : List NodeP} {H H' : AHeap} {c : List Int} {s : List Nat} (h : RdS g ns H H' c s) : H'.live (H.next + 4) 0 = some (153, [.lit (.int .i64 g), .vec ns.length (nodesC ns), .own (H.next + 2) 0 0 ns.length 1, .own (H.next + 3) 0 0 ns.length 1, .lit (.slice none 0 0)]) := get_live h.b4

end Go.Proofs
namespace Go.Hx
variable {P : Program} {G : Nat → Option (List AVal)}
theorem fz_mid {S : Nat → Prop} {H : AHeap} {nx : Nat} {A B : List AVal} {o o' : AVal} (hA : ∀ v, v ∈ A → Fz S H nx v v) (ho : Fz S H nx o o') (hB : ∀ v, v ∈ B → Fz S H nx v v) :
    ∀ i (h : i < (A ++ o :: B).length) (h' : i < (A ++ o' :: B).length), Fz S H nx (A ++ o :: B)[i] (A ++ o' :: B)[i] := by
  induction A with
  | nil =>
    intro i h h'
    cases i with
    | zero => exact ho
    | succ i => exact hB _ (List.getElem_mem (l := B) (by simpa using h))
  | cons a A ih =>
    intro i h h'
    cases i with
    | zero => exact hA a (by simp)
    | succ i => exact ih (fun v hv => hA v (by simp [hv])) i (by simpa using h) (by simpa using h')
theorem W.postWeak {n : Nat} {rd : Option Nat} {Q Q' : AX → St → Prop} {c : Code} {s : St} (h : W P G n rd c Q' s) (hw : ∀ e s2, Q' e s2 → ∃ s3, WeakS P G s2 s3 ∧ s2.H.next ≤ s3.H.next ∧ RdIn s3.H rd ∧ Q e s3) : W P G n rd c Q s := by
  intro wb Γ a w rb hs hr
  refine wpIn_mono (h wb Γ a w rb hs hr) fun e a' w' hp => ?_
  obtain ⟨x, s', Γ', hx, hq, hrel, E, hn, hrd, hfr⟩ := hp
  obtain ⟨s3, hw3, hn3, hri, hq3⟩ := hw x s' hq
  obtain ⟨Γ3, hs3, E3, hrd3⟩ := hw3 n wb Γ' a' w' hrel
  exact ⟨x, s3, Γ3, hx, hq3, hs3, E.trans hn E3, Nat.le_trans hn hn3, hrd3 rd rb hrd hri, hfr⟩

theorem OwnG.ne {lo : Nat} {H : AHeap} {e : TypeId} {v : AVal} {cs : List AVal} (h : OwnG lo H e v cs) {k : Nat} (hk : k < lo) : ∀ g n, v ≠ .own k g 0 n 1 := fun g n he => by
  rcases h with ⟨h, _⟩ | ⟨i2, g2, a1, _, h, _⟩
  · rw [h] at he; cases he
  · rw [h] at he; have := AVal.own.inj he; omega
def OwnZ (lo : Nat) (H : AHeap) (e : TypeId) (z : Nat) (v : AVal) (n : Nat) (cs : List AVal) : Prop :=
  (v = .lit (.slice none 0 0) ∧ n = 0 ∧ cs = []) ∨ ∃ id g, lo ≤ id ∧ id < H.next ∧ v = .own id g 0 n z ∧ cs.length = n * z ∧ H.get id = some (.arr g e cs)
theorem OwnZ.nil {lo : Nat} {H : AHeap} {e : TypeId} {z : Nat} : OwnZ lo H e z (.lit (.slice none 0 0)) 0 [] := .inl ⟨rfl, rfl, rfl⟩
theorem OwnZ.keep {lo : Nat} {H H' : AHeap} {e : TypeId} {z n : Nat} {v : AVal} {cs : List AVal} (h : OwnZ lo H e z v n cs) (hn : H.next ≤ H'.next) (hk : ∀ id g, lo ≤ id → id < H.next → v = .own id g 0 n z → H'.get id = H.get id) : OwnZ lo H' e z v n cs := by
  rcases h with h | ⟨id, g, h1, h2, h3, h4, h5⟩
  · exact .inl h
  · exact .inr ⟨id, g, h1, by omega, h3, h4, (hk id g h1 h2 h3).trans h5⟩
theorem OwnZ.over {lo : Nat} {H H' : AHeap} {e : TypeId} {z n : Nat} {v : AVal} {cs : List AVal} (h : OwnZ lo H e z v n cs) (ho : Over H H') : OwnZ lo H' e z v n cs := h.keep ho.next fun id _ _ h2 _ => ho.old id h2
theorem OwnZ.one {lo : Nat} {H : AHeap} {e : TypeId} {z n : Nat} {v : AVal} {cs : List AVal} (h : OwnZ lo H e z v n cs) : v.one = true := by
  rcases h with ⟨rfl, _⟩ | ⟨_, _, _, _, rfl, _⟩ <;> rfl
theorem OwnZ.cells {lo : Nat} {H : AHeap} {e : TypeId} {z n : Nat} {v : AVal} {cs : List AVal} (h : OwnZ lo H e z v n cs) : v.cells = [v] := by
  rcases h with ⟨rfl, _⟩ | ⟨_, _, _, _, rfl, _⟩ <;> rfl
theorem OwnZ.ne {lo : Nat} {H : AHeap} {e : TypeId} {z m : Nat} {v : AVal} {cs : List AVal} (h : OwnZ lo H e z v m cs) {k : Nat} (hk : k < lo) : ∀ g n, v ≠ .own k g 0 n z := fun g n he => by
  rcases h with ⟨h, _⟩ | ⟨i2, g2, a1, _, h, _⟩
  · rw [h] at he; cases he
  · rw [h] at he; have := AVal.own.inj he; omega
theorem app_oneZ {H : AHeap} {t e : TypeId} {lo n z m : Nat} {v : AVal} {cs xs : List AVal} {zs : List AVal} (ht : P.underlying t = some (.slice e)) (hz : P.cellsOf e = z) (hzero : zeroA P e = some zs) (hx : xs.all AVal.one = true) (hxl : xs.length = z)
    (hb : (n + 1) * P.bytesOf e ≤ 2 ^ 46 ∧ n + 1 ≤ 2 ^ 46) (ho : OwnZ lo H e z v n cs) (hlo : lo ≤ H.next) (hn : m = H.next + 1) :
    ∃ v' H', appendA P (ext H [.arr 0 e xs]) m t t v (.own H.next 0 0 1 z) = some (v', H') ∧ OwnZ lo H' e z v' (n + 1) (cs ++ xs) ∧ H.next ≤ H'.next ∧ (∀ k, k < H.next → (∀ g n, v ≠ .own k g 0 n z) → H'.get k = H.get k) := by
  have hne : (ext H [.arr 0 e xs]).next = H.next + 1 := rfl
  have hsrc : sourceA (ext H [.arr 0 e xs]) z (.own H.next 0 0 1 z) = some (1, xs) := by
    unfold sourceA
    have := get_live (H := ext H [.arr 0 e xs]) (g := 0) (ext1_get_new (b := .arr 0 e xs))
    simp [this, ← hxl]
  rcases ho with ⟨rfl, rfl, rfl⟩ | ⟨i, g, h1, h2, rfl, h4, h5⟩
  · refine ⟨.own m 0 0 1 z, ext (ext H [.arr 0 e xs]) [.arr 0 e xs], ?_, .inr ⟨m, 0, by omega, by rw [ext_next, hne, hn]; simp, by simp, by simp [hxl], ?_⟩, by rw [ext_next, hne]; omega, fun k hk _ => ?_⟩
    · unfold appendA; rw [ht]
      simp only [hzero, hz, Option.bind_some]
      rw [hsrc]
      simp only [Option.bind_some]
      rw [if_neg (by decide), if_pos (by simpa using hb), lay_at (by rw [hn, hne])]
      rfl
    · rw [hn, ← hne]; exact ext1_get_new
    · rw [ext1_get_old (by rw [hne]; omega), ext1_get_old hk]
  · have h5' : (ext H [.arr 0 e xs]).get i = some (.arr g e cs) := by rw [ext1_get_old h2]; exact h5
    refine ⟨.own i (g + 1) 0 (n + 1) z, (ext H [.arr 0 e xs]).upd i (.arr (g + 1) e (cs ++ xs)), ?_, .inr ⟨i, g + 1, h1, by rw [upd_next, hne]; omega, rfl, by simp [h4, hxl, Nat.add_mul], by rw [upd_get, if_pos rfl]⟩, by rw [upd_next, hne]; omega, fun k hk hne2 => ?_⟩
    · unfold appendA; rw [ht]
      have hl := get_live h5'
      simp only [hzero, hz, Option.bind_some]
      rw [hsrc]
      simp only [Option.bind_some, hl]
      rw [if_pos ⟨trivial, trivial, by omega, hb.1, hb.2, hx⟩]
      simp
    · rw [upd_get, if_neg, ext1_get_old hk]
      rintro rfl; exact hne2 _ _ rfl
end Go.Hx
