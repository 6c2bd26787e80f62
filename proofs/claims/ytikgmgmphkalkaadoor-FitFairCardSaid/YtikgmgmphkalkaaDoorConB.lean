/-
  Networks and diagrams as plain data, and as abstract values. Plain: no program stands in this text. No conditions.
-/
import Derived.Test.YtikgmgmphkalkaaDoorLibE
import Derived.Test.YtikgmgmphkalkaaDoorConA
import Derived.Test.YtikgmgmphkalkaaDoorLibC
import Derived.Test.YtikgmgmphkalkaaDoorRows
import Derived.ProofKit
import Derived.LaidMore
import Derived.Stop.Joined
set_option linter.all false
namespace Go.Proofs
open Go.Hx

def vecV (l : List (List Int)) : AVal := .vec l.length (l.map vecI)
structure NodeP where
  card : Int
  parents : List Int
  rows : List (List Int)
structure UtilP where
  vars : List Int
  w : List Int
def NodeP.cells (x : NodeP) : List AVal := [lin x.card, vecI x.parents, vecV x.rows]
def UtilP.cells (x : UtilP) : List AVal := [vecI x.vars, vecI x.w]
def nodesC (l : List NodeP) : List AVal := (l.map NodeP.cells).flatten
def utilsC (l : List UtilP) : List AVal := (l.map UtilP.cells).flatten
def nodesV (l : List NodeP) : AVal := .vec l.length (nodesC l)
def utilsV (l : List UtilP) : AVal := .vec l.length (utilsC l)
def netV (g : Int) (l : List NodeP) : AVal := .agg [lin g, nodesV l]
structure InfP where
  grain : Int
  nodes : List NodeP
  decs : Nat
  utils : List UtilP
theorem flat_get {α : Type} {f : α → List AVal} {z : Nat} (hz : ∀ a, (f a).length = z) : ∀ (l : List α) (i j : Nat) (a : α), l[i]? = some a → j < z → ((l.map f).flatten)[i * z + j]? = (f a)[j]? := by
  intro l
  induction l with
  | nil => intro i j a h; simp at h
  | cons x l ih =>
    intro i j a h hj
    simp only [List.map_cons, List.flatten_cons]
    cases i with
    | zero =>
      simp only [List.getElem?_cons_zero, Option.some.injEq] at h
      subst h
      rw [Nat.zero_mul, Nat.zero_add, List.getElem?_append_left (by rw [hz]; exact hj)]
    | succ i =>
      have : (i + 1) * z + j = z + (i * z + j) := by rw [Nat.add_mul]; omega
      rw [this, List.getElem?_append_right (by rw [hz]; omega), hz]
      have : z + (i * z + j) - z = i * z + j := by omega
      rw [this]
      exact ih i j a (by simpa using h) hj
theorem flat_len {α : Type} {f : α → List AVal} {z : Nat} (hz : ∀ a, (f a).length = z) (l : List α) : ((l.map f).flatten).length = l.length * z := by
  induction l with
  | nil => simp
  | cons x l ih => simp only [List.map_cons, List.flatten_cons, List.length_append, ih, hz, List.length_cons]; rw [Nat.add_mul]; omega
theorem flat_part {α : Type} {f : α → List AVal} {z : Nat} (hz : ∀ a, (f a).length = z) : ∀ (l : List α) (i : Nat) (a : α), l[i]? = some a → (((l.map f).flatten).drop (i * z)).take z = f a := by
  intro l i a h
  apply List.ext_getElem?
  intro j
  by_cases hj : j < z
  · rw [List.getElem?_take_of_lt hj, List.getElem?_drop, flat_get hz l i j a h hj]
  · rw [List.getElem?_eq_none (by simp; omega), List.getElem?_eq_none (by rw [hz]; omega)]

theorem nodesC_len (l : List NodeP) : (nodesC l).length = l.length * 3 := flat_len (f := NodeP.cells) (fun _ => rfl) l
theorem nodesC_0 {l : List NodeP} {i : Nat} {x : NodeP} (h : l[i]? = some x) : (nodesC l)[i * 3]? = some (lin x.card) := flat_get (f := NodeP.cells) (z := 3) (fun _ => rfl) l i 0 x h (by omega)
theorem nodesC_1 {l : List NodeP} {i : Nat} {x : NodeP} (h : l[i]? = some x) : (nodesC l)[i * 3 + 1]? = some (vecI x.parents) := flat_get (f := NodeP.cells) (z := 3) (fun _ => rfl) l i 1 x h (by omega)
theorem nodesC_2 {l : List NodeP} {i : Nat} {x : NodeP} (h : l[i]? = some x) : (nodesC l)[i * 3 + 2]? = some (vecV x.rows) := flat_get (f := NodeP.cells) (z := 3) (fun _ => rfl) l i 2 x h (by omega)
theorem nodesC_part {l : List NodeP} {i : Nat} {x : NodeP} (h : l[i]? = some x) : ((nodesC l).drop (i * 3)).take 3 = [lin x.card, vecI x.parents, vecV x.rows] := flat_part (f := NodeP.cells) (z := 3) (fun _ => rfl) l i x h
theorem nodesC_ne {l : List NodeP} {i : Nat} {x : NodeP} (h : l[i]? = some x) : ¬ nodesC l = [] := fun e => by
  have := nodesC_0 h; rw [e] at this; simp at this
theorem get_lt {α : Type} {l : List α} {i : Nat} {x : α} (h : l[i]? = some x) : i < l.length := by
  rcases Nat.lt_or_ge i l.length with h' | h'
  · exact h'
  · rw [List.getElem?_eq_none h'] at h; cases h
theorem get_of_lt {α : Type} {l : List α} {i : Nat} (h : i < l.length) : ∃ x, l[i]? = some x := ⟨_, List.getElem?_eq_getElem h⟩
theorem get_of_int {α : Type} {l : List α} {i : Int} (h0 : 0 ≤ i) (h : i < l.length) : ∃ k : Nat, i = k ∧ ∃ x, l[k]? = some x := ⟨i.toNat, by omega, get_of_lt (by omega)⟩

def prodL (l : List Int) : Int := l.foldl (· * ·) 1
theorem foldl_mul (l : List Int) (a : Int) : l.foldl (· * ·) a = a * prodL l := by
  unfold prodL
  induction l generalizing a with
  | nil => simp
  | cons x l ih => simp only [List.foldl_cons]; rw [ih, ih (1 * x), Int.one_mul, Int.mul_assoc]
theorem prodL_nil : prodL [] = 1 := rfl
theorem prodL_cons (x : Int) (l : List Int) : prodL (x :: l) = x * prodL l := by
  show List.foldl _ (1 * x) l = _; rw [foldl_mul, Int.one_mul]
theorem prodL_app (l l' : List Int) : prodL (l ++ l') = prodL l * prodL l' := by
  unfold prodL; rw [List.foldl_append, foldl_mul]; rfl
theorem prodL_snoc (l : List Int) (x : Int) : prodL (l ++ [x]) = prodL l * x := by rw [prodL_app, prodL_cons, prodL_nil, Int.mul_one]
theorem take_succ_get {α : Type} {l : List α} {k : Nat} {x : α} (h : l[k]? = some x) : l.take (k + 1) = l.take k ++ [x] := by
  rw [List.take_add_one, h]; rfl
theorem prodL_pos {l : List Int} (h : ∀ x ∈ l, 1 ≤ x) : 1 ≤ prodL l := by
  induction l with
  | nil => decide
  | cons x l ih =>
    rw [prodL_cons]
    have h1 := ih fun y hy => h y (by simp [hy])
    have h2 := h x (by simp)
    have := Int.mul_le_mul h2 h1 (by omega) (by omega)
    simpa using this
theorem prodL_le_pow {b : Int} {l : List Int} (hb : 0 ≤ b) (h : ∀ x ∈ l, 0 ≤ x ∧ x ≤ b) : 0 ≤ prodL l ∧ prodL l ≤ b ^ l.length := by
  induction l with
  | nil => exact ⟨by decide, by simp [prodL]⟩
  | cons x l ih =>
    rw [prodL_cons]
    have h1 := ih fun y hy => h y (by simp [hy])
    have h2 := h x (by simp)
    refine ⟨Int.mul_nonneg h2.1 h1.1, ?_⟩
    have := Int.mul_le_mul h2.2 h1.2 h1.1 hb
    rw [List.length_cons, Int.pow_succ, Int.mul_comm (b ^ l.length)]
    exact this
def cardsL (l : List NodeP) : List Int := l.map (·.card)
def atL (l places : List Int) : List Int := places.map fun p => l.getD p.toNat 0
def PlacesOk (places : List Int) (n : Int) : Prop := places.Pairwise (· < ·) ∧ ∀ p ∈ places, 0 ≤ p ∧ p < n
end Go.Proofs
set_option maxRecDepth 100000
namespace Go.Proofs
open Go.Hx
def primesL : List Int := [2, 3, 5, 7, 11, 13, 17, 19, 23, 29, 31, 37, 41, 43, 47, 53, 59, 61]
def G0 : Nat → Option (List AVal) := fun g => if g = 0 then some (ints primesL) else none
theorem G0_ok : GOk G0 := fun g cells h => by
  unfold G0 at h
  split at h
  · cases h
    refine .vptr fun i hi => ?_
    simp only [ints, List.getElem_map]
    exact .lit _
  · cases h
def bytesL (l : List Int) : List AVal := l.map fun n => .lit (.int .u8 n)
theorem bytesL_get {l : List Int} {k : Nat} {a : Int} (h : l[k]? = some a) : (bytesL l)[k]? = some (.lit (.int .u8 a)) := by unfold bytesL; rw [List.getElem?_map, h]; rfl
theorem bytesL_len (l : List Int) : (bytesL l).length = l.length := by simp [bytesL]
end Go.Proofs
namespace Go.Proofs.YtikgmgmphkalkaaDoor
open Go.ChangeShapes Go.WideShapes Go.ChangeAt Go.RowKit Go.Hx

theorem Tryd.own : ownKnob Tryd.prog.godebug = none := by kernel_rfl
theorem Tryd.laidOut : laidOutB Tryd.prog = true := by kernel_rfl
theorem Tryd.boolT : Tryd.prog.underlying 4 = some .bool := by kernel_rfl
def nameF : String := match (Rows.fitKnownRow.laid) with
  | p :: _ => p.1
  | [] => Tryd.f0.name
theorem Tryd.gFact : Tryd.prog.globalNamed nameF = some 0 := by kernel_rfl
theorem Tryd.tFact : (Tryd.prog.globals[0]?).map (·.type) = some 83 := by kernel_rfl
theorem Tryd.uFact : Tryd.prog.underlying 83 = some (.array 18 3) := by kernel_rfl
theorem Tryd.cFact : Tryd.prog.cellsOf 83 = 18 * Tryd.prog.cellsOf 3 := by kernel_rfl
theorem Tryd.door_met (os : Os) (args : Array Value) : laidMetH Tryd.prog Rows.fitKnownRow.laid ((World.doorLaid Tryd.prog 400 os).forCall (fun _ _ => 0) ⟨#[], args, []⟩).memory :=
  laidMetH_of_parts3 (fuel := 8) (laidMet_of_run' 8 (by kernel_rfl) (by kernel_rfl)) (by kernel_rfl) (by kernel_rfl)
theorem Tryd.glob_ok {W : World} (h : laidMetH Tryd.prog Rows.fitKnownRow.laid W) : GlobOk Tryd.prog G0 W := by
  rw [MakeChecks.laidMetH_plain _ _ _ (by kernel_rfl)] at h
  obtain ⟨ps, hL, _⟩ := h
  have hL' : DataW.LaidVars Tryd.prog W [(nameF, .agg (primesL.map fun n => .lit (.int .i64 n)))] ps := hL
  obtain ⟨h1, _⟩ := table_glob Tryd.gFact Tryd.tFact Tryd.uFact Tryd.underlying3 Tryd.cFact hL'
  intro g cells hg
  unfold G0 at hg
  split at hg
  · rename_i h0
    subst h0
    cases hg
    exact h1
  · cases hg
section
variable {W : World} {H : Type} {enc : TypeId × Value → H} {spare : Nat → Bool} {held : Bool}
end
end Go.Proofs.YtikgmgmphkalkaaDoor
namespace Go.Hx
variable {P : Program} {G : Nat → Option (List AVal)} {Γ Γ' : Gam} {H H' : AHeap} {w w' : World}
theorem W.env {n : Nat} {rd : Option Nat} {Q : AX → St → Prop} {c : Code} {ρ : Env} {H : AHeap} (h : ∀ E, E = ρ → W P G n rd c Q ⟨E, H⟩) : W P G n rd c Q ⟨ρ, H⟩ := h ρ rfl
theorem Below.mono {n m : Nat} {v : AVal} (h : Below n v) (hm : n ≤ m) : Below m v := by
  induction h with
  | lit v => exact .lit v
  | vec h ih => exact .vec ih
  | vptr h ih => exact .vptr ih
  | agg h ih => exact .agg ih
  | tup h ih => exact .tup ih
  | clo h1 h2 ih1 ih2 => exact .clo ih1 ih2
  | own h => exact .own (by omega)
  | ptr h => exact .ptr (by omega)
  | yld h => exact .yld (by omega)
theorem setAt_one {l : List AVal} {i : Nat} {x : AVal} (h : i < l.length) : setAt l i [x] = l.set i x := by
  unfold setAt
  rw [List.set_eq_take_append_cons_drop, if_pos h]
  simp
section
variable {t : TypeId} {x y : Operand} {k k' : IntKind} {a b : Int}
theorem bin_shr (hb : 0 ≤ b) : binA P .shr t x y (.lit (.int k a)) (.lit (.int k' b)) = some (.lit (.int k (a.fdiv (2 ^ (min b.toNat k.bits))))) := by
  have h : ¬ b < 0 := by omega
  simp [binA, AVal.toVal, eqGuard, binOp, Op.shift, h, pureRun, bind, Sem.bind, pure]
theorem bin_shl (hb : 0 ≤ b) : binA P .shl t x y (.lit (.int k a)) (.lit (.int k' b)) = some (.lit (.int k (k.wrap (a * 2 ^ (min b.toNat k.bits))))) := by
  have h : ¬ b < 0 := by omega
  simp [binA, AVal.toVal, eqGuard, binOp, Op.shift, h, pureRun, bind, Sem.bind, pure]
theorem bin_and : binA P .and t x y (.lit (.int k a)) (.lit (.int k b)) = some (.lit (.int k (k.wrap ((BitVec.ofInt k.bits a &&& BitVec.ofInt k.bits b).toNat : Nat)))) := by
  simp [binA, AVal.toVal, eqGuard, binOp, Op.intBits, pureRun, bind, Sem.bind, pure]
theorem bin_or : binA P .or t x y (.lit (.int k a)) (.lit (.int k b)) = some (.lit (.int k (k.wrap ((BitVec.ofInt k.bits a ||| BitVec.ofInt k.bits b).toNat : Nat)))) := by
  simp [binA, AVal.toVal, eqGuard, binOp, Op.intBits, pureRun, bind, Sem.bind, pure]
theorem bin_andNot : binA P .andNot t x y (.lit (.int k a)) (.lit (.int k b)) = some (.lit (.int k (k.wrap ((BitVec.ofInt k.bits a &&& ~~~ BitVec.ofInt k.bits b).toNat : Nat)))) := by
  simp [binA, AVal.toVal, eqGuard, binOp, Op.intBits, pureRun, bind, Sem.bind, pure]
def bitV (m : Nat) : AVal := .lit (.int .u64 (m : Int))
def subN (a b : Nat) : Nat := (BitVec.ofNat 64 a &&& ~~~ BitVec.ofNat 64 b).toNat
theorem toNat64 {m : Nat} (h : m < 2 ^ 64) : (BitVec.ofInt 64 (m : Int)).toNat = m := by rw [BitVec.ofInt_natCast, BitVec.toNat_ofNat, Nat.mod_eq_of_lt h]
theorem subN_lt (a b : Nat) : subN a b < 2 ^ 64 := (BitVec.isLt _)
theorem subN_bit {a b i : Nat} (ha : a < 2 ^ 64) : (subN a b).testBit i = (a.testBit i && !b.testBit i) := by
  unfold subN
  by_cases hi : i < 64
  · rw [← BitVec.getLsbD, BitVec.getLsbD_and, BitVec.getLsbD_not, BitVec.getLsbD_ofNat, BitVec.getLsbD_ofNat]
    simp [hi]
  · have h1 : a.testBit i = false := Nat.testBit_lt_two_pow (Nat.lt_of_lt_of_le ha (Nat.pow_le_pow_right (by decide) (by omega)))
    rw [h1, ← BitVec.getLsbD, BitVec.getLsbD_of_ge _ _ (by omega)]
    rfl
theorem u64_nat {m : Nat} (h : m < 2 ^ 64) : IntKind.u64.wrap (m : Int) = m := IntWalk.u64_in _ (by omega)
theorem andB {a b : Nat} (ha : a < 2 ^ 64) (hb : b < 2 ^ 64) : binA P .and t x y (.lit (.int .u64 (a : Int))) (.lit (.int .u64 (b : Int))) = some (.lit (.int .u64 ((a &&& b : Nat) : Int))) := by
  rw [bin_and]
  have e : (BitVec.ofInt (IntKind.bits .u64) (a : Int) &&& BitVec.ofInt (IntKind.bits .u64) (b : Int)).toNat = a &&& b := by
    show (BitVec.ofInt 64 _ &&& BitVec.ofInt 64 _).toNat = _
    rw [BitVec.toNat_and, toNat64 ha, toNat64 hb]
  rw [e, u64_nat (Nat.lt_of_le_of_lt Nat.and_le_left ha)]
theorem orB {a b : Nat} (ha : a < 2 ^ 64) (hb : b < 2 ^ 64) : binA P .or t x y (.lit (.int .u64 (a : Int))) (.lit (.int .u64 (b : Int))) = some (.lit (.int .u64 ((a ||| b : Nat) : Int))) := by
  rw [bin_or]
  have e : (BitVec.ofInt (IntKind.bits .u64) (a : Int) ||| BitVec.ofInt (IntKind.bits .u64) (b : Int)).toNat = a ||| b := by
    show (BitVec.ofInt 64 _ ||| BitVec.ofInt 64 _).toNat = _
    rw [BitVec.toNat_or, toNat64 ha, toNat64 hb]
  rw [e, u64_nat (Nat.or_lt_two_pow ha hb)]
theorem subB {a b : Nat} : binA P .andNot t x y (.lit (.int .u64 (a : Int))) (.lit (.int .u64 (b : Int))) = some (.lit (.int .u64 ((subN a b : Nat) : Int))) := by
  rw [bin_andNot]
  have e : (BitVec.ofInt (IntKind.bits .u64) (a : Int) &&& ~~~ BitVec.ofInt (IntKind.bits .u64) (b : Int)).toNat = subN a b := by
    show (BitVec.ofInt 64 _ &&& ~~~ BitVec.ofInt 64 _).toNat = _
    rw [BitVec.ofInt_natCast, BitVec.ofInt_natCast]
    rfl
  rw [e, u64_nat (subN_lt a b)]
theorem shrB {a s : Nat} (ha : a < 2 ^ 64) : binA P .shr t x y (.lit (.int .u64 (a : Int))) (.lit (.int k' (s : Int))) = some (.lit (.int .u64 ((a >>> s : Nat) : Int))) := by
  rw [bin_shr (by omega), Int.toNat_natCast]
  have e : (a : Int).fdiv (2 ^ (min s (IntKind.bits .u64))) = ((a >>> s : Nat) : Int) := by
    rw [Int.fdiv_eq_ediv_of_nonneg _ (by exact_mod_cast Nat.zero_le _), Nat.shiftRight_eq_div_pow]
    show (a : Int) / 2 ^ (min s 64) = _
    rcases Nat.le_total s 64 with h | h
    · rw [Nat.min_eq_left h]; push_cast; rfl
    · rw [Nat.min_eq_right h]
      have h1 : a / 2 ^ s = 0 := Nat.div_eq_of_lt (Nat.lt_of_lt_of_le ha (Nat.pow_le_pow_right (by decide) h))
      rw [h1]
      exact Int.ediv_eq_zero_of_lt (by omega) (by omega)
  rw [e]
theorem shlB {s : Nat} (hs : s < 64) : binA P .shl t x y (.lit (.int .u64 1)) (.lit (.int k' (s : Int))) = some (.lit (.int .u64 ((2 ^ s : Nat) : Int))) := by
  rw [bin_shl (by omega), Int.toNat_natCast]
  have e : min s (IntKind.bits .u64) = s := Nat.min_eq_left (by show s ≤ 64; omega)
  have h2 : 2 ^ s < 2 ^ 64 := Nat.pow_lt_pow_right (by decide) hs
  rw [e, Int.one_mul]
  have h3 : ((2 : Int) ^ s) = ((2 ^ s : Nat) : Int) := by push_cast; rfl
  rw [h3, u64_nat h2]
theorem bit1 {a s : Nat} (ha : a < 2 ^ 64) : binA P .and t x y (.lit (.int .u64 ((a >>> s : Nat) : Int))) (.lit (.int .u64 1)) = some (.lit (.int .u64 (if a.testBit s then 1 else 0))) := by
  have h1 : a >>> s < 2 ^ 64 := Nat.lt_of_le_of_lt (Nat.shiftRight_le _ _) ha
  have := andB (P := P) (t := t) (x := x) (y := y) (a := a >>> s) (b := 1) h1 (by decide)
  rw [show (((1 : Nat) : Int)) = 1 from rfl] at this
  rw [this, Nat.and_one_is_mod]
  congr 3
  rw [Nat.testBit, Nat.and_comm, Nat.and_one_is_mod]
  rcases Nat.mod_two_eq_zero_or_one (a >>> s) with h | h <;> rw [h] <;> rfl
end
end Go.Hx
namespace Go.Proofs
open Go.Hx
theorem get_ext0 (H : AHeap) (b : Blk) (L : List Blk) : (ext H (b :: L)).get H.next = some b := get_ext H (b :: L) 0 (by simp)
theorem ne_of_get {α : Type} {l : List α} {i : Nat} {a : α} (h : l[i]? = some a) : ¬ l = [] := by rintro rfl; simp at h
theorem setAt_ints {l : List Int} {i : Nat} {x : Int} (h : i < l.length) : setAt (ints l) i [.lit (.int .i64 x)] = ints (l.set i x) := by
  rw [setAt_one (by simpa [ints] using h)]
  simp [ints, lin]
theorem guardA_undef (w : Bool) : guardA w (some (.lit undef)) = some false := rfl

def parC (ns : List NodeP) (x : NodeP) : List Int := atL (cardsL ns) x.parents
def idxL : List Int → List Int → Int
  | _ :: cs, v :: vs => v * prodL cs + idxL cs vs
  | _, _ => 0
def FitsC (cs vs : List Int) : Prop := vs.length = cs.length ∧ ∀ (k : Nat) (c v : Int), cs[k]? = some c → vs[k]? = some v → 0 ≤ v ∧ v < c
theorem FitsC.tail {c v : Int} {cs vs : List Int} (h : FitsC (c :: cs) (v :: vs)) : FitsC cs vs := ⟨by simpa using h.1, fun k c v h1 h2 => h.2 (k + 1) c v (by simpa using h1) (by simpa using h2)⟩
theorem FitsC.head {c v : Int} {cs vs : List Int} (h : FitsC (c :: cs) (v :: vs)) : 0 ≤ v ∧ v < c := h.2 0 c v (by simp) (by simp)
theorem FitsC.pos {cs vs : List Int} (h : FitsC cs vs) : ∀ c ∈ cs, 1 ≤ c := fun c hc => by
  obtain ⟨k, hk⟩ := List.mem_iff_getElem?.1 hc
  obtain ⟨v, hv⟩ := get_of_lt (l := vs) (i := k) (by rw [h.1]; exact get_lt hk)
  have := h.2 k c v hk hv
  omega
theorem idxL_range : ∀ {cs vs : List Int}, FitsC cs vs → 0 ≤ idxL cs vs ∧ idxL cs vs < prodL cs := by
  intro cs
  induction cs with
  | nil => intro vs _; cases vs <;> (simp [idxL, prodL_nil])
  | cons c cs ih =>
    intro vs h
    cases vs with
    | nil => exact absurd h.1 (by simp)
    | cons v vs =>
      have h1 := ih h.tail
      have h2 := h.head
      have hp : 1 ≤ prodL cs := prodL_pos fun x hx => h.pos x (by simp [hx])
      rw [prodL_cons]
      simp only [idxL]
      have h3 : 0 ≤ v * prodL cs := Int.mul_nonneg h2.1 (by omega)
      have h4 : (v + 1) * prodL cs ≤ c * prodL cs := Int.mul_le_mul_of_nonneg_right (by omega) (by omega)
      rw [Int.add_mul, Int.one_mul] at h4
      omega
def hornL (cs vs : List Int) : Int := (cs.zip vs).foldl (fun a p => a * p.1 + p.2) 0
theorem horn_go : ∀ (cs vs : List Int), vs.length = cs.length → ∀ a, (cs.zip vs).foldl (fun a p => a * p.1 + p.2) a = a * prodL cs + idxL cs vs := by
  intro cs
  induction cs with
  | nil => intro vs _ a; simp [prodL_nil, idxL]
  | cons c cs ih =>
    intro vs h a
    cases vs with
    | nil => simp at h
    | cons v vs =>
      simp only [List.zip_cons_cons, List.foldl_cons]
      rw [ih vs (by simpa using h), prodL_cons]
      simp only [idxL]
      rw [Int.add_mul, Int.mul_assoc]; omega
theorem hornL_eq {cs vs : List Int} (h : vs.length = cs.length) : hornL cs vs = idxL cs vs := by
  unfold hornL; rw [horn_go cs vs h]; omega
theorem hornL_snoc {cs vs : List Int} {k : Nat} {c v : Int} (h1 : cs[k]? = some c) (h2 : vs[k]? = some v) : hornL (cs.take (k + 1)) (vs.take (k + 1)) = hornL (cs.take k) (vs.take k) * c + v := by
  unfold hornL
  rw [take_succ_get h1, take_succ_get h2, List.zip_append (by have := get_lt h1; have := get_lt h2; simp; omega), List.foldl_append]
  rfl
def SmallC (l : List Int) : Prop := l.length ≤ 12 ∧ ∀ x ∈ l, 0 ≤ x ∧ x ≤ 8
theorem SmallC.prod {l : List Int} (h : SmallC l) : 0 ≤ prodL l ∧ prodL l ≤ 68719476736 := by
  have h1 := prodL_le_pow (b := 8) (by omega) h.2
  have h2 : (8 : Int) ^ l.length ≤ 8 ^ 12 := by
    have : (8 : Nat) ^ l.length ≤ 8 ^ 12 := Nat.pow_le_pow_right (by decide) h.1
    exact_mod_cast this
  exact ⟨h1.1, Int.le_trans h1.2 h2⟩
theorem SmallC.take {l : List Int} (h : SmallC l) (k : Nat) : SmallC (l.take k) := ⟨by have := h.1; simp; omega, fun x hx => h.2 x (List.mem_of_mem_take hx)⟩
theorem SmallC.drop {l : List Int} (h : SmallC l) (k : Nat) : SmallC (l.drop k) := ⟨by have := h.1; simp; omega, fun x hx => h.2 x (List.mem_of_mem_drop hx)⟩

theorem size02_spec (l : List Int) (hl : SmallC l) (H : AHeap) (K : ARes → AHeap → Prop) (hK : K (.ret (lin (prodL l))) H) : ACall Tryd.prog G0 62 [vecI l] H K := by
  have l12 := hl.1
  refine ACall.of_body (n := 18) (rs := [.tmp 2]) Tryd.func62 rfl rfl rfl (by decide) (by kernel_rfl) (by simp) ?_
  simp (config := { maxSteps := 1000000 }) only [go_sem, appendA_U]
  refine W.loop0 131064 (by rfl) (fun ρ H' => H' = H ∧ ∃ k : Nat, ρ 4 = lin k ∧ k ≤ l.length ∧ ρ 3 = lin (prodL (l.take k))) (fun ρ H => l.length - (iv (ρ 4)).toNat) ?_ ?_
  · simp (config := { maxSteps := 1000000 }) only [go_sem, appendA_U]
    exact ⟨0, rfl, by omega, by simp [prodL_nil]⟩
  rintro ρ H' ⟨rfl, k, h4, hk, h3⟩
  refine vc_sound _ _ _ (by rfl) ?_
  by_cases hb : (k : Int) < l.length
  · obtain ⟨c, hc⟩ := get_of_lt (l := l) (i := k) (by omega)
    have hne := ne_of_get hc
    have b1 := (hl.take (k + 1)).prod
    rw [take_succ_get hc, prodL_snoc] at b1
    simp (config := { maxSteps := 1000000 }) only [go_sem, h4, h3, hb, hc, hne, appendA_U]
    rw [IntWalk.i64_in ((k : Int) + 1) (by omega), IntWalk.i64_in (_ * c) (by omega)]
    exact ⟨⟨k + 1, by simp, by omega, by rw [take_succ_get hc, prodL_snoc]⟩, by omega⟩
  · simp (config := { maxSteps := 1000000 }) only [go_sem, h4, h3, hb, appendA_U]
    rw [List.take_of_length_le (by omega)]
    exact FinV.mk (Nat.le_refl _) hK
theorem same02_spec (x y : List Int) (hx : (x.length : Int) < 2 ^ 62) (H : AHeap) (K : ARes → AHeap → Prop) (hK : K (.ret (.lit (.bool (decide (x = y))))) H) : ACall Tryd.prog G0 60 [vecI x, vecI y] H K := by
  have no : ¬ x = y → FinV Tryd.prog G0 H K (.lit (.bool false)) H := fun h => FinV.mk (Nat.le_refl _) (by rw [decide_eq_false h] at hK; exact hK)
  refine ACall.of_body (n := 26) (rs := [.tmp 4]) Tryd.func60 rfl rfl rfl (by decide) (by kernel_rfl) (by simp) ?_
  by_cases hl : (x.length : Int) = y.length
  rotate_left
  · simp (config := { maxSteps := 1000000 }) only [go_sem, hl, appendA_U]
    exact no fun h => hl (by rw [h])
  simp (config := { maxSteps := 1000000 }) only [go_sem, hl, appendA_U]
  refine W.loop0 67106864 (by rfl) (fun ρ H' => H' = H ∧ ∃ k : Nat, ρ 5 = lin k ∧ k ≤ x.length ∧ x.take k = y.take k) (fun ρ H => x.length - (iv (ρ 5)).toNat) ?_ ?_
  · simp (config := { maxSteps := 1000000 }) only [go_sem, appendA_U]
    exact ⟨0, rfl, by omega, rfl⟩
  rintro ρ H' ⟨rfl, k, h5, hk, ht⟩
  refine vc_sound _ _ _ (by rfl) ?_
  by_cases hb : (k : Int) < y.length
  · obtain ⟨a, ha⟩ := get_of_lt (l := x) (i := k) (by omega)
    obtain ⟨b, hbk⟩ := get_of_lt (l := y) (i := k) (by omega)
    have hxn := ne_of_get ha
    have hyn := ne_of_get hbk
    have hbx : (k : Int) < x.length := by omega
    simp (config := { maxSteps := 1000000 }) only [go_sem, h5, hb, hbx, hl, appendA_U]
    refine W.draw 8 [0, 0, 3, 7, 0, 0, 48, 112] Tryd.mixed (by kernel_rfl) (by kernel_rfl) ?_
    by_cases he : a = b
    · subst he
      simp (config := { maxSteps := 1000000 }) only [go_sem, h5, hb, hbx, ha, hbk, hxn, hyn, appendA_U]
      rw [IntWalk.i64_in ((k : Int) + 1) (by omega)]
      exact ⟨⟨k + 1, by simp, by omega, by rw [take_succ_get ha, take_succ_get hbk, ht]⟩, by omega⟩
    · simp (config := { maxSteps := 1000000 }) only [go_sem, h5, hb, hbx, ha, hbk, hxn, hyn, he, appendA_U]
      exact no fun h => he (by rw [h, hbk] at ha; exact (Option.some.inj ha).symm)
  · simp (config := { maxSteps := 1000000 }) only [go_sem, h5, hb, hl, appendA_U]
    refine FinV.mk (Nat.le_refl _) ?_
    have : x = y := by
      rw [List.take_of_length_le (by omega), List.take_of_length_le (by omega)] at ht
      exact ht
    rw [decide_eq_true this] at hK
    exact hK
instance placesDec (l : List Int) (n : Int) : Decidable (PlacesOk l n) := by unfold PlacesOk; infer_instance
theorem PlacesOk.nil {n : Int} : PlacesOk [] n := ⟨.nil, fun _ h => by cases h⟩
theorem PlacesOk.take {l : List Int} {n : Int} (h : PlacesOk l n) (k : Nat) : PlacesOk (l.take k) n := ⟨h.1.sublist (List.take_sublist k l), fun p hp => h.2 p (List.mem_of_mem_take hp)⟩
theorem PlacesOk.snoc {l : List Int} {n a : Int} (h : PlacesOk l n) (ha : 0 ≤ a ∧ a < n) (hl : ∀ b, l.getLast? = some b → b < a) : PlacesOk (l ++ [a]) n := by
  refine ⟨List.pairwise_append.2 ⟨h.1, by simp, fun x hx y hy => ?_⟩, fun p hp => ?_⟩
  · obtain rfl := List.mem_singleton.1 hy
    rcases List.eq_nil_or_concat l with rfl | ⟨l', b, rfl⟩
    · cases hx
    · have hb := hl b (by simp)
      simp only [List.concat_eq_append] at hx h
      rcases List.mem_append.1 hx with hx | hx
      · have := (List.pairwise_append.1 h.1).2.2 x hx b (by simp)
        omega
      · obtain rfl := List.mem_singleton.1 hx; exact hb
  · rcases List.mem_append.1 hp with hp | hp
    · exact h.2 p hp
    · obtain rfl := List.mem_singleton.1 hp; exact ha
theorem PlacesOk.lt {l : List Int} {n : Int} (h : PlacesOk l n) {i j : Nat} {a b : Int} (ha : l[i]? = some a) (hb : l[j]? = some b) (hij : i < j) : a < b := by
  have := List.pairwise_iff_getElem.1 h.1 i j (get_lt ha) (get_lt hb) hij
  have e1 := List.getElem?_eq_getElem (get_lt ha)
  have e2 := List.getElem?_eq_getElem (get_lt hb)
  rw [ha] at e1; rw [hb] at e2
  rw [Option.some.inj e1, Option.some.inj e2]; exact this
theorem PlacesOk.len {l : List Int} {n : Int} (h : PlacesOk l n) : (l.length : Int) ≤ max n 0 := by
  -- the k-th place is at least k
  have key : ∀ (k : Nat) (a : Int), l[k]? = some a → (k : Int) ≤ a := by
    intro k
    induction k with
    | zero => intro a ha; have := h.2 a (List.mem_of_getElem? ha); omega
    | succ k ih =>
      intro a ha
      obtain ⟨b, hb⟩ := get_of_lt (l := l) (i := k) (by have := get_lt ha; omega)
      have := ih b hb
      have := h.lt hb ha (by omega)
      omega
  rcases Nat.eq_zero_or_pos l.length with h0 | h0
  · omega
  · obtain ⟨a, ha⟩ := get_of_lt (l := l) (i := l.length - 1) (by omega)
    have h1 := key _ a ha
    have h2 := h.2 a (List.mem_of_getElem? ha)
    omega
theorem last_take {l : List Int} {j : Nat} {b : Int} (h : l[j]? = some b) : (l.take (j + 1)).getLast? = some b := by rw [take_succ_get h]; simp

theorem places_spec (l : List Int) (n : Int) (hl : (l.length : Int) < 2 ^ 62) (H : AHeap) (K : ARes → AHeap → Prop) (hK : K (.ret (.lit (.bool (decide (PlacesOk l n))))) H) : ACall Tryd.prog G0 75 [vecI l, lin n] H K := by
  have no : ¬ PlacesOk l n → FinV Tryd.prog G0 H K (.lit (.bool false)) H := fun h => FinV.mk (Nat.le_refl _) (by rw [decide_eq_false h] at hK; exact hK)
  refine ACall.of_body (n := 41) (rs := [.tmp 4]) Tryd.func75 rfl rfl rfl (by decide) (by kernel_rfl) (by simp) ?_
  simp (config := { maxSteps := 1000000 }) only [go_sem, appendA_U]
  refine W.loop0 2199023255536 (by rfl) (fun ρ H' => H' = H ∧ ∃ k : Nat, ρ 5 = lin k ∧ k ≤ l.length ∧ PlacesOk (l.take k) n) (fun ρ H => l.length - (iv (ρ 5)).toNat) ?_ ?_
  · simp (config := { maxSteps := 1000000 }) only [go_sem, appendA_U]
    exact ⟨0, rfl, by omega, .nil⟩
  rintro ρ H' ⟨rfl, k, h5, hk, hp⟩
  refine vc_sound _ _ _ (by rfl) ?_
  by_cases hb : (k : Int) < l.length
  · obtain ⟨a, ha⟩ := get_of_lt (l := l) (i := k) (by omega)
    have hne := ne_of_get ha
    have ham := List.mem_of_getElem? ha
    simp (config := { maxSteps := 1000000 }) only [go_sem, h5, hb, appendA_U]
    refine W.draw 26 [0, 0, 3, 7, 15, 31, 63, 63, 255, 511, 63, 2047, 4095, 8191, 16383, 32767, 65535, 131071, 131071, 524287, 1048575, 131071, 131071, 4325375, 14811135, 31588351] Tryd.mixed (by kernel_rfl) (by kernel_rfl) ?_
    by_cases c1 : a < 0
    · simp (config := { maxSteps := 1000000 }) only [go_sem, h5, hb, ha, hne, c1, guardA_undef, appendA_U]
      exact no fun h => by have := h.2 a ham; omega
    by_cases c2 : a ≥ n
    · simp (config := { maxSteps := 1000000 }) only [go_sem, h5, hb, ha, hne, c1, c2, guardA_undef, appendA_U]
      exact no fun h => by have := h.2 a ham; omega
    by_cases c3 : (k : Int) > 0
    · obtain ⟨j, rfl⟩ : ∃ j, k = j + 1 := ⟨k - 1, by omega⟩
      obtain ⟨b, hbj⟩ := get_of_lt (l := l) (i := j) (by omega)
      have w1 := IntWalk.i64_in (j : Int) (by omega)
      have w2 := IntWalk.i64_in (((j + 1 : Nat) : Int) + 1) (by omega)
      have e1 : ((j + 1 : Nat) : Int) - 1 = j := by omega
      have hb1 : (j : Int) < l.length := by omega
      have hbj' := hbj
      by_cases c4 : a ≤ b
      · simp (config := { maxSteps := 1000000 }) only [go_sem, h5, hb, ha, hne, c1, c2, c3, c4, guardA_undef, w1, e1, hb1, hbj, appendA_U]
        exact no fun h => by have := h.lt hbj ha (by omega); omega
      · simp (config := { maxSteps := 1000000 }) only [go_sem, h5, hb, ha, hne, c1, c2, c3, c4, guardA_undef, w1, w2, e1, hb1, hbj, appendA_U]
        refine ⟨⟨j + 1 + 1, by simp, by omega, ?_⟩, by omega⟩
        rw [take_succ_get ha]
        exact hp.snoc (by omega) fun b' hb' => by
          rw [last_take hbj] at hb'
          cases hb'; omega
    · simp (config := { maxSteps := 1000000 }) only [go_sem, h5, hb, ha, hne, c1, c2, c3, guardA_undef, appendA_U]
      rw [IntWalk.i64_in ((k : Int) + 1) (by omega)]
      obtain rfl : k = 0 := by omega
      refine ⟨⟨1, by simp, by omega, ?_⟩, by omega⟩
      rw [take_succ_get ha]
      exact hp.snoc (by omega) fun b' hb' => by simp at hb'
  · simp (config := { maxSteps := 1000000 }) only [go_sem, h5, hb, appendA_U]
    rw [List.take_of_length_le (by omega)] at hp
    rw [decide_eq_true hp] at hK
    exact FinV.mk (Nat.le_refl _) hK

end Go.Proofs
namespace Go.Hx
theorem Over.live {H H' : AHeap} (h : Over H H') {id g : Nat} (hi : id < H.next) : H'.live id g = H.live id g := by
  unfold AHeap.live; rw [h.old id hi]
theorem Over.upd {H H' : AHeap} (h : Over H H') {id : Nat} (hi : H.next ≤ id) (b : Blk) : Over H (H'.upd id b) := ⟨h.next, fun j hj => by rw [upd_get, if_neg (by omega)]; exact h.old j hj⟩
theorem live_upd_same {H : AHeap} {id g : Nat} {e : TypeId} {c : List AVal} : (H.upd id (.arr g e c)).live id g = some (e, c) := get_live (by rw [upd_get, if_pos rfl])
theorem live_upd_other {H : AHeap} {id j g : Nat} {b : Blk} (h : j ≠ id) : (H.upd id b).live j g = H.live j g := by unfold AHeap.live; rw [upd_get, if_neg h]
attribute [go_sem] live_upd_same
@[go_sem] theorem partU_func (a b : Array TypeId) (c : Bool) (n : Nat) (cells : List AVal) (off : Nat) : partU (some (.func a b c)) n cells off = cells[off]? := rfl
end Go.Hx
namespace Go.Proofs
open Go.Hx
theorem over_app {H H' H2 : AHeap} {e : TypeId} {v : AVal} {cs : List AVal} (ov : Over H H') (h : OwnG H.next H' e v cs) (hn : H'.next ≤ H2.next) (hp : ∀ k, k < H'.next → (∀ g n, v ≠ .own k g 0 n 1) → H2.get k = H'.get k) : Over H H2 :=
  ⟨Nat.le_trans ov.next hn, fun id hi => by
    rw [hp id (Nat.lt_of_lt_of_le hi ov.next) fun g n he => ?_, ov.old id hi]
    rcases h with ⟨h, _⟩ | ⟨i2, g2, a1, _, h, _⟩
    · rw [h] at he; cases he
    · rw [h] at he; have := AVal.own.inj he; omega⟩
theorem app_int {H H' : AHeap} {v : AVal} {l : List Int} (x : Int) (ov : Over H H') (h : OwnG H.next H' 3 v (ints l)) (hl : l.length < 2 ^ 40) :
    ∃ v' H2, appendA Tryd.prog (ext H' [.arr 0 3 [.lit (.int .i64 x)]]) (H'.next + 1) 22 22 v (.own H'.next 0 0 1 1) = some (v', H2) ∧ Over H H2 ∧ OwnG H.next H2 3 v' (ints (l ++ [x])) ∧ H'.next ≤ H2.next ∧ (∀ k, k < H'.next → (∀ g n, v ≠ .own k g 0 n 1) → H2.get k = H'.get k) := by
  obtain ⟨v', H2, hA, hO, hn2, hp⟩ := app_oneG (P := Tryd.prog) (H := H') (t := 22) (x := lin x) (n := H'.next + 1) Tryd.underlying22 Tryd.cells3 Tryd.zero3 rfl (by rw [Tryd.bytes3, ints_length]; omega) h ov.next rfl
  simp only [lin] at hA
  exact ⟨v', H2, hA, over_app ov h hn2 hp, by simpa [ints, lin] using hO, hn2, hp⟩
theorem vecV_one (l : List (List Int)) : (vecV l).one = true := rfl
theorem vecV_cells (l : List (List Int)) : (vecV l).cells = [vecV l] := rfl
theorem nodesV_one (l : List NodeP) : (nodesV l).one = true := rfl
theorem nodesV_cells (l : List NodeP) : (nodesV l).cells = [nodesV l] := rfl
theorem utilsV_one (l : List UtilP) : (utilsV l).one = true := rfl
theorem utilsV_cells (l : List UtilP) : (utilsV l).cells = [utilsV l] := rfl
attribute [go_sem] vecV_one vecV_cells nodesV_one nodesV_cells utilsV_one utilsV_cells
structure OwnI (H H' : AHeap) (id : Nat) (c : List Int) : Prop where
  ov : Over H H'
  lo : H.next ≤ id
  hi : id < H'.next
  get : H'.get id = some (.arr 0 3 (ints c))
theorem OwnI.live {H H' : AHeap} {id : Nat} {c : List Int} (h : OwnI H H' id c) : H'.live id 0 = some (3, ints c) := get_live h.get
theorem OwnI.ne {H H' : AHeap} {id : Nat} {c : List Int} (h : OwnI H H' id c) : ¬ id = H'.next := by have := h.hi; omega
theorem OwnI.over {H H' H2 : AHeap} {id : Nat} {c : List Int} (h : OwnI H H' id c) (o : Over H' H2) : OwnI H H2 id c := ⟨h.ov.trans o, h.lo, Nat.lt_of_lt_of_le h.hi o.next, (o.old id h.hi).trans h.get⟩
theorem OwnI.store {H H' : AHeap} {id : Nat} {c : List Int} (h : OwnI H H' id c) {k : Nat} (hk : k < c.length) (x : Int) : OwnI H (H'.upd id (.arr 0 3 (setAt (ints c) k [.lit (.int .i64 x)]))) id (c.set k x) :=
  ⟨⟨h.ov.next, fun i hi => by rw [upd_get, if_neg (by have := h.lo; omega)]; exact h.ov.old i hi⟩, h.lo, h.hi, by rw [upd_get, if_pos rfl, setAt_ints hk]⟩
theorem OwnI.new {H : AHeap} (L : List Blk) (n : Nat) : OwnI H (ext H (.arr 0 3 (List.replicate n (.lit (.int .i64 0))) :: L)) H.next (List.replicate n 0) :=
  ⟨.ext _ _, Nat.le_refl _, by simp [ext_next], by rw [get_ext0]; simp [ints, lin]⟩
theorem OwnI.fin {H H' : AHeap} {id : Nat} {c : List Int} {K : ARes → AHeap → Prop} (hcl : Clo H) (h : OwnI H H' id c) {n : Nat} (hn : n = c.length) (hK : K (.ret (vecI c)) H) : FinV Tryd.prog G0 H K (.own id 0 0 n 1) H' := by
  subst hn
  refine FinV.dropO G0_ok hcl h.ov ?_ hK
  exact .ints h.lo h.get (by simp) fun i hi => by simp [ints_get, hi]
theorem take_set_eq {l m : List Int} {k : Nat} {x : Int} (h : l.take k = m.take k) (hk : k < l.length) (hx : m[k]? = some x) : (l.set k x).take (k + 1) = m.take (k + 1) := by
  rw [take_succ_get hx, take_succ_get (show (l.set k x)[k]? = some x by rw [List.getElem?_set_self hk]), List.take_set_of_le (Nat.le_refl k), h]
theorem getD_of_get {α : Type} {l : List α} {i : Nat} {a d : α} (h : l[i]? = some a) : l.getD i d = a := by rw [List.getD_eq_getElem?_getD, h]; rfl
theorem atL_take {l places : List Int} {k : Nat} {p : Int} (h : places[k]? = some p) : atL l (places.take (k + 1)) = atL l (places.take k) ++ [l.getD p.toNat 0] := by
  unfold atL; rw [take_succ_get h]; simp
theorem cards_get {ns : List NodeP} {k : Nat} {x : NodeP} (h : ns[k]? = some x) : (cardsL ns)[k]? = some x.card := by unfold cardsL; rw [List.getElem?_map, h]; rfl
theorem cards_len (ns : List NodeP) : (cardsL ns).length = ns.length := by simp [cardsL]

theorem at02_spec (l p : List Int) (hl : (l.length : Int) < 2 ^ 40) (hp : (p.length : Int) < 2 ^ 39) (hin : ∀ q ∈ p, 0 ≤ q ∧ q < l.length) (H : AHeap) (K : ARes → AHeap → Prop) (hK : K (.ret (vecI (atL l p))) H) : ACall Tryd.prog G0 86 [vecI l, vecI p] H K := by
  refine ACall.clo ⟨_, Tryd.func86, rfl, rfl⟩ fun hcl => ?_
  refine ACall.of_body (n := 24) (rs := [.tmp 4]) Tryd.func86 rfl rfl rfl (by decide) (by kernel_rfl) (by simp) ?_
  simp (config := { maxSteps := 1000000 }) only [go_sem, appendA_U]
  refine W.loop0 8388576 (by rfl) (fun ρ H' => ∃ k : Nat, ρ 6 = lin k ∧ k ≤ p.length ∧ Over H H' ∧ OwnG H.next H' 3 (ρ 5) (ints (atL l (p.take k)))) (fun ρ H => p.length - (iv (ρ 6)).toNat) ?_ ?_
  · simp (config := { maxSteps := 1000000 }) only [go_sem, appendA_U]
    exact ⟨0, rfl, by omega, .refl _, .nil⟩
  rintro ρ H' ⟨k, h6, hk, ov, h5⟩
  refine vc_sound _ _ _ (by rfl) ?_
  by_cases hb : (k : Int) < p.length
  · obtain ⟨q, hq⟩ := get_of_lt (l := p) (i := k) (by omega)
    obtain ⟨j, rfl, a, ha⟩ := get_of_int (hin q (List.mem_of_getElem? hq)).1 (hin q (List.mem_of_getElem? hq)).2
    have hne := ne_of_get hq
    have hne2 := ne_of_get ha
    have hj := get_lt ha
    have hj' : (j : Int) < l.length := by omega
    obtain ⟨v', H2, hA, ov2, hO, hn2, _⟩ := app_int a ov h5 (by simp [atL]; omega)
    have w1 := IntWalk.i64_in ((k : Int) + 1) (by omega)
    simp (config := { maxSteps := 1000000 }) only [go_sem, h6, hb, hq, hne, ha, hne2, hj', w1, hA]
    refine ⟨by have := ov2.next; omega, ⟨k + 1, by simp, by omega, ov2, ?_⟩, by omega⟩
    rw [atL_take hq, Int.toNat_natCast, getD_of_get ha]
    exact hO
  · simp (config := { maxSteps := 1000000 }) only [go_sem, h6, hb, appendA_U]
    rw [List.take_of_length_le (by omega)] at h5
    exact FinV.dropO G0_ok hcl ov (h5.fzI fun i hi => hi) hK

theorem cards05_spec (g : Int) (ns : List NodeP) (hl : (ns.length : Int) < 2 ^ 39) (H : AHeap) (K : ARes → AHeap → Prop) (hK : K (.ret (vecI (cardsL ns))) H) : ACall Tryd.prog G0 26 [netV g ns] H K := by
  refine ACall.clo ⟨_, Tryd.func26, rfl, rfl⟩ fun hcl => ?_
  refine ACall.of_body (n := 22) (rs := [.tmp 2]) Tryd.func26 rfl rfl rfl (by decide) (by kernel_rfl) (by simp) ?_
  simp (config := { maxSteps := 1000000 }) only [go_sem, netV, nodesV, appendA_U]
  obtain ⟨H1, hH1⟩ : ∃ H1, H1 = ext H [.arr 0 61 [.lit (.int .i64 g), .vec ns.length (nodesC ns)]] := ⟨_, rfl⟩
  have l1 : H1.live H.next 0 = some (61, [.lit (.int .i64 g), .vec ns.length (nodesC ns)]) := by rw [hH1]; exact get_live (get_ext0 ..)
  have n1 : H1.next = H.next + 1 := by rw [hH1]; rfl
  have o1 : Over H H1 := by rw [hH1]; exact .ext _ _
  rw [← hH1]
  refine W.loop0 2097144 (by rfl) (fun ρ H' => ∃ k : Nat, ρ 4 = lin k ∧ k ≤ ns.length ∧ ρ 1 = .ptr H.next 0 0 ∧ Over H1 H' ∧ OwnG H1.next H' 3 (ρ 3) (ints ((cardsL ns).take k))) (fun ρ H => ns.length - (iv (ρ 4)).toNat) ?_ ?_
  · simp (config := { maxSteps := 1000000 }) only [go_sem, appendA_U]
    exact ⟨0, rfl, by omega, .refl _, .nil⟩
  rintro ρ H' ⟨k, h4, hk, h1, ov, h3⟩
  refine vc_sound _ _ _ (by rfl) ?_
  have l2 := (ov.live (g := 0) (by omega : H.next < H1.next)).trans l1
  by_cases hb : (k : Int) < ns.length
  · obtain ⟨x, hx⟩ := get_of_lt (l := ns) (i := k) (by omega)
    have hne := nodesC_ne hx
    have e0 := nodesC_0 hx
    obtain ⟨v', H2, hA, ov2, hO, hn2, _⟩ := app_int x.card ov h3 (by simp [cardsL]; omega)
    have w1 := IntWalk.i64_in ((k : Int) + 1) (by omega)
    simp (config := { maxSteps := 1000000 }) only [go_sem, h4, h1, l2, hb, hne, e0, w1, hA]
    refine ⟨by have := ov2.next; omega, ⟨k + 1, by simp, by omega, ov2, ?_⟩, by omega⟩
    rw [take_succ_get (cards_get hx)]
    exact hO
  · simp (config := { maxSteps := 1000000 }) only [go_sem, h4, h1, l2, hb, appendA_U]
    rw [List.take_of_length_le (by rw [cards_len]; omega)] at h3
    exact FinV.dropO G0_ok hcl (o1.trans ov) (h3.fzI fun i hi => by omega) hK
def InRange (l : List Int) (n : Nat) : Prop := ∀ q ∈ l, 0 ≤ q ∧ q < n
theorem atL_len (l p : List Int) : (atL l p).length = p.length := by simp [atL]
theorem atL_get {l p : List Int} {k : Nat} {q : Int} (h : p[k]? = some q) : (atL l p)[k]? = some (l.getD q.toNat 0) := by unfold atL; rw [List.getElem?_map, h]; rfl


theorem parentCards_spec (g : Int) (ns : List NodeP) (v : Nat) (x : NodeP) (hx : ns[v]? = some x) (hl : (ns.length : Int) < 2 ^ 39) (hp : (x.parents.length : Int) < 2 ^ 39) (hin : InRange x.parents ns.length) (H : AHeap) (K : ARes → AHeap → Prop)
    (hK : K (.ret (vecI (parC ns x))) H) : ACall Tryd.prog G0 63 [netV g ns, lin v] H K := by
  refine ACall.clo ⟨_, Tryd.func63, rfl, rfl⟩ fun hcl => ?_
  have hne := nodesC_ne hx
  have e1 := nodesC_1 hx
  have hv : (v : Int) < ns.length := by have := get_lt hx; omega
  refine ACall.of_body (n := 14) (rs := [.tmp 4]) Tryd.func63 rfl rfl rfl (by decide) (by kernel_rfl) (by simp) ?_
  simp (config := { maxSteps := 1000000 }) only [go_sem, netV, nodesV, appendA_U]
  refine W.draw 8 [0, 1, 0, 4, 0, 28, 60, 124] Tryd.mixed (by kernel_rfl) (by kernel_rfl) ?_
  simp (config := { maxSteps := 1000000 }) only [go_sem, appendA_U]
  refine ⟨vecI (cardsL ns), [], PCall.pure fun H2 => cards05_spec g ns hl H2 _ ⟨rfl, rfl⟩, ?_⟩
  simp (config := { maxSteps := 1000000 }) only [go_sem, hv, hne, e1, appendA_U]
  refine AApply.clo (at02_spec (cardsL ns) x.parents (by rw [cards_len]; omega) hp (by rw [cards_len]; exact hin) _ _ ⟨trivial, ?_⟩)
  simp (config := { maxSteps := 1000000 }) only [go_sem, appendA_U]
  exact FinV.dropO G0_ok hcl (.ext _ _) (.keepInts _) hK

def setN (l : List Int) : Nat := l.foldl (fun s p => s ||| 2 ^ p.toNat) 0
theorem setN_go (l : List Int) : ∀ (s i : Nat), (l.foldl (fun s p => s ||| 2 ^ p.toNat) s).testBit i = (s.testBit i || l.any fun p => p.toNat == i) := by
  induction l with
  | nil => intro s i; simp
  | cons p l ih =>
    intro s i
    simp only [List.foldl_cons, ih, Nat.testBit_or, Nat.testBit_two_pow, List.any_cons]
    rw [Bool.or_assoc]
    congr 1
theorem setN_bit {l : List Int} (h : ∀ p ∈ l, 0 ≤ p) (i : Nat) : (setN l).testBit i = decide ((i : Int) ∈ l) := by
  unfold setN
  rw [setN_go]
  simp only [Nat.zero_testBit, Bool.false_or]
  rw [Bool.eq_iff_iff]
  simp only [List.any_eq_true, beq_iff_eq, decide_eq_true_eq]
  constructor
  · rintro ⟨p, hp, rfl⟩
    have := h p hp
    rw [Int.toNat_of_nonneg this]; exact hp
  · intro hi
    exact ⟨_, hi, by simp⟩
theorem setN_snoc (l : List Int) (p : Int) : setN (l ++ [p]) = setN l ||| 2 ^ p.toNat := by unfold setN; rw [List.foldl_append]; rfl
theorem lt_two_pow_of_bits {m n : Nat} (h : ∀ i, m.testBit i = true → i < n) : m < 2 ^ n := by
  apply Nat.lt_pow_two_of_testBit
  intro i hi
  rcases Bool.eq_false_or_eq_true (m.testBit i) with e | e
  · exact absurd (h i e) (by omega)
  · exact e
theorem setN_lt {l : List Int} {n : Nat} (h : ∀ p ∈ l, 0 ≤ p ∧ p < n) : setN l < 2 ^ n := lt_two_pow_of_bits fun i hi => by
  rw [setN_bit fun p hp => (h p hp).1] at hi
  have := (h _ (of_decide_eq_true hi)).2
  omega
theorem bit_lt {m n i : Nat} (h : m < 2 ^ n) (hi : m.testBit i = true) : i < n := by
  rcases Nat.lt_or_ge i n with h' | h'
  · exact h'
  · rw [Nat.testBit_lt_two_pow (Nat.lt_of_lt_of_le h (Nat.pow_le_pow_right (by decide) h'))] at hi; cases hi
def Sub (s t : Nat) : Prop := ∀ i, s.testBit i = true → t.testBit i = true
theorem Sub.refl (s : Nat) : Sub s s := fun _ h => h
theorem Sub.trans {s t u : Nat} (h : Sub s t) (h' : Sub t u) : Sub s u := fun i hi => h' i (h i hi)
theorem Sub.or {s t u : Nat} (h : Sub s u) (h' : Sub t u) : Sub (s ||| t) u := fun i hi => by
  rw [Nat.testBit_or, Bool.or_eq_true] at hi
  exact hi.elim (h i) (h' i)
theorem Sub.left (s t : Nat) : Sub s (s ||| t) := fun i hi => by rw [Nat.testBit_or, hi]; rfl
theorem Sub.right (s t : Nat) : Sub t (s ||| t) := fun i hi => by rw [Nat.testBit_or, hi]; simp
theorem Sub.antisymm {s t : Nat} (h : Sub s t) (h' : Sub t s) : s = t := Nat.eq_of_testBit_eq fun i => by
  rw [Bool.eq_iff_iff]; exact ⟨h i, h' i⟩
theorem subN_zero {a b : Nat} (ha : a < 2 ^ 64) : subN a b = 0 ↔ Sub a b := by
  constructor
  · intro h i hi
    have := subN_bit (a := a) (b := b) (i := i) ha
    rw [h, Nat.zero_testBit, hi] at this
    simpa using this.symm
  · intro h
    apply Nat.eq_of_testBit_eq
    intro i
    rw [subN_bit ha, Nat.zero_testBit]
    cases hi : a.testBit i
    · rfl
    · rw [h i hi]; rfl

def upStep (ps : List Nat) (s v : Nat) : Nat := if s.testBit v = true then s ||| ps.getD v 0 else s
def upOnce (ps : List Nat) (s : Nat) : Nat := (List.range ps.length).foldl (upStep ps) s
def upN (ps : List Nat) : Nat → Nat → Nat
  | 0, s => s
  | k + 1, s => upOnce ps (upN ps k s)
def upL (ps : List Nat) (s : Nat) : Nat := upN ps ps.length s
def AcycB (ps : List Nat) : Prop := ∀ v, v < ps.length → (upL ps (ps.getD v 0)).testBit v = false
def Closed (ps : List Nat) (t : Nat) : Prop := ∀ v, v < ps.length → t.testBit v = true → Sub (ps.getD v 0) t
theorem upStep_ge (ps : List Nat) (s v : Nat) : Sub s (upStep ps s v) := by unfold upStep; split; exact .left _ _; exact .refl _
theorem foldl_ge (ps : List Nat) (l : List Nat) : ∀ s, Sub s (l.foldl (upStep ps) s) := by
  induction l with
  | nil => exact fun s => .refl s
  | cons v l ih => exact fun s => (upStep_ge ps s v).trans (ih _)
theorem upOnce_ge (ps : List Nat) (s : Nat) : Sub s (upOnce ps s) := foldl_ge ps _ s
theorem foldl_closed {ps : List Nat} {t : Nat} (hc : Closed ps t) (l : List Nat) (hl : ∀ v ∈ l, v < ps.length) : ∀ s, Sub s t → Sub (l.foldl (upStep ps) s) t := by
  induction l with
  | nil => exact fun s h => h
  | cons v l ih =>
    intro s h
    refine ih (fun v hv => hl v (by simp [hv])) _ ?_
    unfold upStep
    split
    · rename_i hv
      exact h.or (hc v (hl v (by simp)) (h v hv))
    · exact h
theorem upOnce_closed {ps : List Nat} {t : Nat} (hc : Closed ps t) {s : Nat} (h : Sub s t) : Sub (upOnce ps s) t := foldl_closed hc _ (fun v hv => List.mem_range.1 hv) s h
theorem upN_closed {ps : List Nat} {t : Nat} (hc : Closed ps t) (k : Nat) {s : Nat} (h : Sub s t) : Sub (upN ps k s) t := by
  induction k with
  | zero => exact h
  | succ k ih => exact upOnce_closed hc ih
theorem upN_ge (ps : List Nat) (k s : Nat) : Sub s (upN ps k s) := by
  induction k with
  | zero => exact .refl _
  | succ k ih => exact ih.trans (upOnce_ge _ _)
theorem closed_of_fix {ps : List Nat} {s : Nat} (h : upOnce ps s = s) : Closed ps s := by
  intro v hv hs
  have key : ∀ (l : List Nat) (s0 : Nat), v ∈ l → s0.testBit v = true → Sub (ps.getD v 0) (l.foldl (upStep ps) s0) := by
    intro l
    induction l with
    | nil => intro s0 h; cases h
    | cons u l ih =>
      intro s0 hm hb
      rcases List.mem_cons.1 hm with rfl | hm
      · refine Sub.trans ?_ (foldl_ge ps l _)
        unfold upStep
        rw [if_pos hb]
        exact .right _ _
      · exact ih _ hm (upStep_ge ps s0 u v hb)
  have := key (List.range ps.length) s (List.mem_range.2 hv) hs
  unfold upOnce at h
  rwa [h] at this
def cntB (n s : Nat) : Nat := (List.range n).countP fun i => s.testBit i
theorem cntB_le (n s : Nat) : cntB n s ≤ n := by have := List.countP_le_length (p := fun i => s.testBit i) (l := List.range n); simpa [cntB] using this
theorem countP_strict {l : List Nat} {p q : Nat → Bool} (h : ∀ x ∈ l, p x = true → q x = true) {a : Nat} (ha : a ∈ l) (hp : p a = false) (hq : q a = true) : l.countP p < l.countP q := by
  induction l with
  | nil => cases ha
  | cons x l ih =>
    have hm : l.countP p ≤ l.countP q := List.countP_mono_left fun y hy => h y (by simp [hy])
    rcases List.mem_cons.1 ha with rfl | ha
    · rw [List.countP_cons, List.countP_cons, hp, hq]
      simp
      omega
    · have := ih (fun y hy => h y (by simp [hy])) ha
      have hx := h x (by simp)
      rw [List.countP_cons, List.countP_cons]
      cases hpx : p x
      · simp; omega
      · rw [hx hpx]; simp; omega
theorem cntB_lt {n s t i : Nat} (h : Sub s t) (hi : i < n) (h0 : s.testBit i = false) (h1 : t.testBit i = true) : cntB n s < cntB n t :=
  countP_strict (fun x _ hx => h x hx) (List.mem_range.2 hi) h0 h1
theorem upL_closed {ps : List Nat} (hp : ∀ p ∈ ps, p < 2 ^ ps.length) {s : Nat} (hs : s < 2 ^ ps.length) : Closed ps (upL ps s) := by
  have hb : ∀ k, upN ps k s < 2 ^ ps.length := fun k => by
    have ht : Closed ps (2 ^ ps.length - 1) := fun v _ _ i hi => by
      rw [Nat.testBit_two_pow_sub_one]
      have : ps.getD v 0 < 2 ^ ps.length := by
        rw [List.getD_eq_getElem?_getD]
        cases h : ps[v]? with
        | none => exact Nat.two_pow_pos _
        | some p => exact hp p (List.mem_of_getElem? h)
      simpa using bit_lt this hi
    have := upN_closed ht k (s := s) fun i hi => by rw [Nat.testBit_two_pow_sub_one]; simpa using bit_lt hs hi
    exact lt_two_pow_of_bits fun i hi => by have := this i hi; rw [Nat.testBit_two_pow_sub_one] at this; simpa using this
  have key : ∀ k, upOnce ps (upN ps k s) = upN ps k s ∨ k + 1 ≤ cntB ps.length (upN ps k s) := by
    have grow : ∀ t, t < 2 ^ ps.length → upOnce ps t < 2 ^ ps.length → upOnce ps t ≠ t → cntB ps.length t < cntB ps.length (upOnce ps t) := fun t ht ht' hne => by
      have : ∃ i, (upOnce ps t).testBit i = true ∧ t.testBit i = false := by
        refine Classical.byContradiction fun hno => hne (Sub.antisymm (fun i hi => ?_) (upOnce_ge ps t))
        rcases Bool.eq_false_or_eq_true (t.testBit i) with e | e
        · exact e
        · exact absurd ⟨i, hi, e⟩ hno
      obtain ⟨i, h1, h0⟩ := this
      exact cntB_lt (upOnce_ge ps t) (bit_lt ht' h1) h0 h1
    intro k
    induction k with
    | zero =>
      by_cases h0 : s = 0
      · left
        subst h0
        show upOnce ps 0 = 0
        unfold upOnce
        have : ∀ l : List Nat, l.foldl (upStep ps) 0 = 0 := fun l => by
          induction l with
          | nil => rfl
          | cons v l ih => simp only [List.foldl_cons, upStep, Nat.zero_testBit, Bool.false_eq_true, if_false]; exact ih
        exact this _
      · right
        obtain ⟨i, hi⟩ := Nat.exists_testBit_of_ne_zero h0
        have : cntB ps.length 0 < cntB ps.length s := cntB_lt (fun j hj => by rw [Nat.zero_testBit] at hj; cases hj) (bit_lt hs hi) (Nat.zero_testBit i) hi
        show 0 + 1 ≤ cntB ps.length s
        omega
    | succ k ih =>
      rcases ih with ih | ih
      · left
        show upOnce ps (upOnce ps (upN ps k s)) = upOnce ps (upN ps k s)
        rw [ih]; exact ih
      · by_cases hf : upOnce ps (upN ps k s) = upN ps k s
        · left
          show upOnce ps (upOnce ps (upN ps k s)) = upOnce ps (upN ps k s)
          rw [hf]; exact hf
        · right
          have := grow _ (hb k) (hb (k + 1)) hf
          show k + 1 + 1 ≤ cntB ps.length (upOnce ps (upN ps k s))
          omega
  rcases key ps.length with h | h
  · exact closed_of_fix h
  · have := cntB_le ps.length (upN ps ps.length s); omega

def freeB (ps : List Nat) (done v : Nat) : Bool := !done.testBit v && decide (subN (ps.getD v 0) done = 0)
def nextT (ps : List Nat) (done : Nat) : Option Nat := (List.range ps.length).find? (freeB ps done)
def topoGo (ps : List Nat) : Nat → List Nat → Nat → Option (List Nat)
  | 0, out, _ => some out
  | k + 1, out, done => match nextT ps done with
    | none => none
    | some v => topoGo ps k (out ++ [v]) (done ||| 2 ^ v)
theorem nextT_some {ps : List Nat} {done v : Nat} (hp : ∀ p ∈ ps, p < 2 ^ 64) (h : nextT ps done = some v) : v < ps.length ∧ done.testBit v = false ∧ Sub (ps.getD v 0) done := by
  unfold nextT at h
  have h1 := List.mem_of_find?_eq_some h
  have h2 := List.find?_some h
  unfold freeB at h2
  simp only [Bool.and_eq_true, Bool.not_eq_true', decide_eq_true_eq] at h2
  have hv := List.mem_range.1 h1
  refine ⟨hv, h2.1, (subN_zero ?_).1 h2.2⟩
  rw [List.getD_eq_getElem?_getD]
  cases h : ps[v]? with
  | none => decide
  | some p => exact hp p (List.mem_of_getElem? h)
theorem nextT_none {ps : List Nat} {done : Nat} (hp : ∀ p ∈ ps, p < 2 ^ 64) (h : nextT ps done = none) : ∀ v, v < ps.length → done.testBit v = true ∨ ¬ Sub (ps.getD v 0) done := by
  intro v hv
  unfold nextT at h
  rw [List.find?_eq_none] at h
  have := h v (List.mem_range.2 hv)
  unfold freeB at this
  rcases Bool.eq_false_or_eq_true (done.testBit v) with e | e
  · exact .inl e
  · right
    intro hs
    refine this ?_
    rw [e, (subN_zero ?_).2 hs]
    · simp
    · rw [List.getD_eq_getElem?_getD]
      cases h : ps[v]? with
      | none => decide
      | some p => exact hp p (List.mem_of_getElem? h)
theorem or_pow_bit (d v i : Nat) : (d ||| 2 ^ v).testBit i = (d.testBit i || decide (v = i)) := by rw [Nat.testBit_or, Nat.testBit_two_pow]
theorem topo_of_acyc {ps : List Nat} (hp : ∀ p ∈ ps, p < 2 ^ ps.length) (h64 : ps.length ≤ 64) (ha : AcycB ps) : ∀ (k : Nat) (out : List Nat) (done : Nat), k + cntB ps.length done = ps.length → ∃ r, topoGo ps k out done = some r := by
  have hp64 : ∀ p ∈ ps, p < 2 ^ 64 := fun p h => Nat.lt_of_lt_of_le (hp p h) (Nat.pow_le_pow_right (by decide) h64)
  have hpd : ∀ v, ps.getD v 0 < 2 ^ ps.length := fun v => by
    rw [List.getD_eq_getElem?_getD]
    cases h : ps[v]? with
    | none => exact Nat.two_pow_pos _
    | some p => exact hp p (List.mem_of_getElem? h)
  intro k
  induction k with
  | zero => exact fun out done _ => ⟨out, rfl⟩
  | succ k ih =>
    intro out done hc
    unfold topoGo
    cases hn : nextT ps done with
    | none =>
      exfalso
      have hno := nextT_none hp64 hn
      -- every node that is left has a parent that is left
      have step : ∀ m v, v < ps.length → done.testBit v = false → cntB ps.length (upL ps (ps.getD v 0)) ≤ m → False := by
        intro m
        induction m with
        | zero =>
          intro v hv hd hm
          obtain ⟨i, h1, h2⟩ : ∃ i, (ps.getD v 0).testBit i = true ∧ done.testBit i = false := by
            rcases hno v hv with h | h
            · rw [hd] at h; cases h
            · refine Classical.byContradiction fun hc => h fun i hi => ?_
              rcases Bool.eq_false_or_eq_true (done.testBit i) with e | e
              · exact e
              · exact absurd ⟨i, hi, e⟩ hc
          have : cntB ps.length 0 < cntB ps.length (upL ps (ps.getD v 0)) := cntB_lt (fun j hj => by rw [Nat.zero_testBit] at hj; cases hj) (bit_lt (hpd v) h1) (Nat.zero_testBit i) (upN_ge ps _ _ i h1)
          omega
        | succ m ihm =>
          intro v hv hd hm
          obtain ⟨u, h1, h2⟩ : ∃ i, (ps.getD v 0).testBit i = true ∧ done.testBit i = false := by
            rcases hno v hv with h | h
            · rw [hd] at h; cases h
            · refine Classical.byContradiction fun hc => h fun i hi => ?_
              rcases Bool.eq_false_or_eq_true (done.testBit i) with e | e
              · exact e
              · exact absurd ⟨i, hi, e⟩ hc
          have hu := bit_lt (hpd v) h1
          have hcl := upL_closed hp (hpd v)
          have hin : (upL ps (ps.getD v 0)).testBit u = true := upN_ge ps _ _ u h1
          have hsub : Sub (upL ps (ps.getD u 0)) (upL ps (ps.getD v 0)) := upN_closed hcl _ (hcl u hu hin)
          have := cntB_lt hsub hu (ha u hu) hin
          exact ihm u hu h2 (by omega)
      obtain ⟨v, hv, hd⟩ : ∃ v, v < ps.length ∧ done.testBit v = false := by
        refine Classical.byContradiction fun hno => ?_
        have : cntB ps.length done = ps.length := by
          unfold cntB
          conv => rhs; rw [← List.length_range (n := ps.length)]
          rw [List.countP_eq_length]
          intro x hx
          rcases Bool.eq_false_or_eq_true (done.testBit x) with e | e
          · exact e
          · exact absurd ⟨x, List.mem_range.1 hx, e⟩ hno
        omega
      exact step _ v hv hd (Nat.le_refl _)
    | some v =>
      obtain ⟨h1, h2, h3⟩ := nextT_some hp64 hn
      refine ih _ _ ?_
      have : cntB ps.length (done ||| 2 ^ v) = cntB ps.length done + 1 := by
        unfold cntB
        have : ∀ l : List Nat, l.Nodup → v ∈ l → l.countP (fun i => (done ||| 2 ^ v).testBit i) = l.countP (fun i => done.testBit i) + 1 := by
          intro l
          induction l with
          | nil => intro _ h; cases h
          | cons x l ihl =>
            intro hnd hmem
            obtain ⟨g1, g2⟩ := List.nodup_cons.1 hnd
            rw [List.countP_cons, List.countP_cons]
            rcases List.mem_cons.1 hmem with rfl | hm2
            · have : l.countP (fun i => (done ||| 2 ^ v).testBit i) = l.countP (fun i => done.testBit i) := List.countP_congr fun y hy => by
                have : ¬ v = y := by rintro rfl; exact g1 hy
                simp [or_pow_bit, this]
              rw [this]; simp [or_pow_bit, h2]
            · have hx : ¬ v = x := by rintro rfl; exact g1 hm2
              rw [ihl g2 hm2]; simp [or_pow_bit, hx]; omega
        exact this _ List.nodup_range (List.mem_range.2 h1)
      omega
end Go.Proofs
