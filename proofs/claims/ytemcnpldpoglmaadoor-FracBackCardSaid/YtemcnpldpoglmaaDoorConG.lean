/- Own work: contracts. -/
import Derived.Test.YtemcnpldpoglmaaDoorConB
import Derived.Test.YtemcnpldpoglmaaDoorConF
import Derived.Test.YtemcnpldpoglmaaDoorConE
set_option linter.all false
set_option linter.unusedSimpArgs false
set_option maxRecDepth 100000
namespace Go.Hx
variable {P : Program} {G : Nat → Option (List AVal)}
/-- A world that has new blocks behind the heap. -/
theorem kit_grow {Γ : Gam} {H : AHeap} {w w' : World} (R : RelH P G Γ H w) (hw : ∃ k os, w' = Go.Sort.grow (w.drewN k) os) : Evo Γ H w Γ H w' ∧ RelH P G Γ H w' := by
  obtain ⟨k, os, rfl⟩ := hw
  have hk : ∀ b, b < w.heap.size → (Go.Sort.grow (w.drewN k) os).heap[b]? = w.heap[b]? := fun b hb => by
    show ((w.drewN k).heap ++ os)[b]? = _
    rw [Array.getElem?_append_left (by exact hb)]
    rfl
  refine grow_evo rfl rfl rfl ?_ hk (fun a ha => ?_) R
  · simp only [Go.Sort.size_grow]; exact Nat.le_add_right _ _
  · unfold World.frozen?; rw [hk _ ha]
theorem ACall.kit {f : FuncId} {args : List AVal} {H : AHeap} {K : ARes → AHeap → Prop} {v : Value} (hf : ∃ fn, P.funcs[f]? = some fn ∧ fn.body.isNone = false ∧ (fn.name == "runtime.NumGoroutine") = false)
    (hc : ∀ Γ w cargs, RelH P G Γ H w → RelL P Γ H w args cargs → Calls P f cargs w fun e w' => e = .returned v ∧ ∃ k os, w' = Go.Sort.grow (w.drewN k) os) (hK : K (.ret (.lit v)) H) : ACall P G f args H K := by
  refine ⟨hf, fun Γ w cargs R hr => callsIn_wide.2 ((hc Γ w cargs R hr).mono ?_)⟩
  rintro e w' ⟨rfl, hw⟩
  exact ⟨.ret (.lit v), H, Γ, .lit v, hK, (kit_grow R hw).2, (kit_grow R hw).1, Nat.le_refl _⟩
theorem lit_inv {Γ : Gam} {H : AHeap} {w : World} {v cv : Value} (h : RelV P Γ H w (.lit v) cv) : cv = v := by cases h; rfl
theorem tabIs_of_rel {Γ : Gam} {H : AHeap} {w : World} {name : String} {g : Nat} {k : IntKind} {zs : List Int} (hg : P.globalNamed name = some g) (hG : G g = some (zs.map fun z => .lit (.int k z))) (R : RelH P G Γ H w) : Go.Lib.TabIs P w name k zs := by
  obtain ⟨c, e, f, hc, hsz⟩ := R.gsz g _ hG
  have hrel := R.glob g _ hG
  unfold Go.Lib.TabIs World.var?
  rw [hg]
  simp only [Option.bind_some, hc, Option.some.injEq]
  generalize hcv : Value.pointer (some ⟨g, 0, none⟩) = cv at hrel
  generalize hav : AVal.vptr (zs.map fun z => AVal.lit (.int k z)) 0 = av at hrel
  cases hrel with
  | @vptr cells off b o cs hb hlt hcs hcell hr =>
    simp only [AVal.vptr.injEq] at hav
    obtain ⟨hc1, rfl⟩ := hav
    simp only [Value.pointer.injEq, Option.some.injEq, Addr.mk.injEq, Nat.add_zero] at hcv
    obtain ⟨rfl, rfl, _⟩ := hcv
    subst hc1
    have hl : cs.length = zs.length := by simpa using hcs
    apply Array.ext
    · simpa using hsz
    · intro i h1 h2
      have hi : i < zs.length := by simpa using h2
      have e1 := hcell i (by omega)
      simp only [Nat.zero_add, World.cell?, hc] at e1
      have e2 : cs[i] = .int k zs[i] := by
        have e2' := hr i (by simpa using hi) (by omega)
        rw [List.getElem_map] at e2'
        exact lit_inv e2'
      have e3 : c[i]? = some cs[i] := by simpa using e1
      rw [Array.getElem?_eq_getElem h1] at e3
      have e4 : c[i] = cs[i] := Option.some.inj e3
      rw [e4, e2]
      simp
  | _ => cases hav
end Go.Hx
namespace Go.Proofs
open Go.Hx
def strV (l : List UInt8) : AVal := .lit (.string ⟨l.toArray⟩)
theorem itoa_spec (n : Int) (hn : -9223372036854775808 ≤ n ∧ n ≤ 9223372036854775807) (H : AHeap) (K : ARes → AHeap → Prop) (hK : K (.ret (strV (Go.Lib.itoa n))) H) : ACall Tryd.prog G0 63 [.lit (.int .i64 n)] H K := by
  refine ACall.kit (v := .string ⟨(Go.Lib.itoa n).toArray⟩) ⟨_, Tryd.func63, rfl, rfl⟩ (fun Γ w cargs R hr => ?_) hK
  have hs : cargs.size = 1 := hr.1
  have h0 := hr.2 0 (by simp) (by omega)
  have e0 : cargs[0] = .int .i64 n := lit_inv h0
  have e : cargs = #[.int .i64 n] := by
    apply Array.ext
    · simpa using hs
    · intro i h1 h2
      have : i = 0 := by omega
      subst this
      simpa using e0
  rw [e]
  exact Any.strconv_Itoa Tryd.lays171 n hn.1 hn.2 w (tabIs_of_rel Tryd.lays171.m17 rfl R)
end Go.Proofs
set_option linter.unusedSimpArgs false
set_option maxRecDepth 100000
namespace Go.Hx
variable {P : Program} {t : TypeId} {x y : Operand}
theorem str_size (l : List UInt8) : (ByteArray.mk l.toArray).size = l.length := by simp [ByteArray.size]
theorem str_ext (l : List UInt8) (a b : Nat) : (ByteArray.mk l.toArray).extract a b = ⟨((l.take b).drop a).toArray⟩ := by
  apply ByteArray.ext
  rw [ByteArray.data_extract]
  apply Array.toList_inj.1
  simp [List.drop_take]
theorem eql_str (a b : List UInt8) : binA P .eql t x y (.lit (.string ⟨a.toArray⟩)) (.lit (.string ⟨b.toArray⟩)) = some (.lit (.bool (decide (a = b)))) := by
  simp [binA, AVal.toVal, eqGuard, binOp, Op.stringOp, pureRun, bind, Sem.bind, pure]
  rw [Bool.eq_iff_iff]; simp
theorem neq_str (a b : List UInt8) : binA P .neq t x y (.lit (.string ⟨a.toArray⟩)) (.lit (.string ⟨b.toArray⟩)) = some (.lit (.bool (!decide (a = b)))) := by
  simp [binA, AVal.toVal, eqGuard, binOp, Op.stringOp, pureRun, bind, Sem.bind, pure]
  rw [Bool.eq_iff_iff]; simp
theorem str_get (l : List UInt8) (i : Nat) : (ByteArray.mk l.toArray)[i]? = l[i]? := by
  by_cases h : i < l.length
  · have h2 : i < (ByteArray.mk l.toArray).size := by rw [str_size]; exact h
    rw [getElem?_pos _ i h2, getElem?_pos _ i h]
    rfl
  · have h2 : ¬ i < (ByteArray.mk l.toArray).size := by rw [str_size]; exact h
    rw [getElem?_neg _ i h2, getElem?_neg _ i h]
theorem str_app (a b : List UInt8) : (ByteArray.mk a.toArray) ++ (ByteArray.mk b.toArray) = ⟨(a ++ b).toArray⟩ := by
  apply ByteArray.ext
  simp
theorem add_str (a b : List UInt8) (h : a.length + b.length ≤ 9223372036854775807) : binA P .add t x y (.lit (.string ⟨a.toArray⟩)) (.lit (.string ⟨b.toArray⟩)) = some (.lit (.string ⟨(a ++ b).toArray⟩)) := by
  simp [binA, AVal.toVal, eqGuard, binOp, Op.stringOp, pureRun, bind, Sem.bind, pure]
  have h2 : ¬ (9223372036854775807 : Int) < (ByteArray.mk a.toArray).size + (ByteArray.mk b.toArray).size := by rw [str_size, str_size]; omega
  rw [if_neg h2, str_app]
  rfl
theorem index_str {l : List UInt8} {k : IntKind} {i : Nat} {b : UInt8} (h : l[i]? = some b) (ht : P.underlying t = some .string) : indexA P t (.lit (.string ⟨l.toArray⟩)) (.lit (.int k (i : Int))) = some (.lit (.int .u8 (b.toNat : Int))) := by
  simp [indexA, Instr.index, asIntOf, underlying, program, ht, pureRun, bind, Sem.bind, pure]
  rw [str_get, h]
  rfl
end Go.Hx
set_option linter.unusedSimpArgs false
set_option maxRecDepth 100000
namespace Go.Proofs
open Go.Hx
theorem str_getb (l : List UInt8) (i : Nat) (h : i < l.length) : (ByteArray.mk l.toArray)[i]! = l[i] := by
  have h2 : i < (ByteArray.mk l.toArray).size := by rw [str_size]; exact h
  rw [getElem!_pos _ i h2]
  rfl
theorem find_idx (l : List UInt8) (c : UInt8) : ((List.range l.length).find? fun i => (ByteArray.mk l.toArray)[i]! == c) = l.findIdx? (· == c) := by
  cases h : l.findIdx? (· == c) with
  | none =>
    rw [List.findIdx?_eq_none_iff] at h
    rw [List.find?_eq_none]
    intro i hi
    have hi' : i < l.length := by simpa using hi
    rw [str_getb l i hi']
    simpa using h _ (List.getElem_mem hi')
  | some i =>
    rw [List.findIdx?_eq_some_iff_getElem] at h
    obtain ⟨h1, h2, h3⟩ := h
    rw [List.find?_range_eq_some]
    refine ⟨by rw [str_getb l i h1]; exact h2, by simpa using h1, fun j hj => ?_⟩
    rw [str_getb l j (by omega)]
    simpa using h3 j hj
def slash (l : List UInt8) : Option Nat := l.findIdx? (· == 47)
theorem slash_some {l : List UInt8} {i : Nat} (h : slash l = some i) : i < l.length ∧ l[i]? = some 47 ∧ ∀ j, j < i → l[j]? ≠ some 47 := by
  unfold slash at h
  rw [List.findIdx?_eq_some_iff_getElem] at h
  obtain ⟨h1, h2, h3⟩ := h
  refine ⟨h1, by rw [List.getElem?_eq_getElem h1]; simpa using h2, fun j hj => ?_⟩
  rw [List.getElem?_eq_getElem (by omega)]
  simpa using h3 j hj
theorem slash_none {l : List UInt8} (h : slash l = none) : ∀ j : Nat, l[j]? ≠ some 47 := by
  unfold slash at h
  rw [List.findIdx?_eq_none_iff] at h
  intro j hj
  have := h _ (List.mem_of_getElem? hj)
  simp at this
/-- Where the slash stands, or -1. -/
def slashI (l : List UInt8) : Int := match slash l with | some i => (i : Int) | none => -1
theorem indexByte_spec (l : List UInt8) (H : AHeap) (K : ARes → AHeap → Prop) (hK : K (.ret (.lit (.int .i64 (slashI l)))) H) : ACall Tryd.prog G0 97 [.lit (.string ⟨l.toArray⟩), .lit (.int .u8 47)] H K := by
  refine ACall.clo ⟨_, Tryd.func97, rfl, rfl⟩ fun hcl => ?_
  have k : idxF [.lit (.string ⟨l.toArray⟩), .lit (.int .u8 47)] = some (.lit (.int .i64 (slashI l))) := by
    simp only [idxF]
    rw [str_size, show (47 : Int).toNat.toUInt8 = (47 : UInt8) from rfl, find_idx]
    rfl
  refine ACall.of_body (n := 8) (rs := [.tmp 4]) Tryd.func97 rfl rfl rfl (by decide) (by kernel_rfl) (by simp) ?_
  simp (config := { maxSteps := 1000000 }) only [go_sem, Int.reduceToNat, Int.reduceLE, Int.reduceLT, Int.reduceAdd, Int.reduceSub, Int.reduceMul, Int.reduceEq, Int.reduceNe, Nat.reduceEqDiff, Nat.reducePow, Nat.reduceDiv, Nat.reduceMod, Nat.reduceAdd, Nat.reduceMul, Nat.reduceSub, Nat.reduceLT, Nat.reduceLeDiff, reduceIte, reduceCtorEq, appendA_U]
  refine idx_ext k ⟨trivial, ?_⟩
  simp (config := { maxSteps := 1000000 }) only [go_sem, Int.reduceToNat, Int.reduceLE, Int.reduceLT, Int.reduceAdd, Int.reduceSub, Int.reduceMul, Int.reduceEq, Int.reduceNe, Nat.reduceEqDiff, Nat.reducePow, Nat.reduceDiv, Nat.reduceMod, Nat.reduceAdd, Nat.reduceMul, Nat.reduceSub, Nat.reduceLT, Nat.reduceLeDiff, reduceIte, reduceCtorEq, appendA_U]
  exact FinV.dropO G0_ok hcl (.refl _) (.lit _) hK
theorem index_spec (l : List UInt8) (H : AHeap) (K : ARes → AHeap → Prop) (hK : K (.ret (.lit (.int .i64 (slashI l)))) H) : ACall Tryd.prog G0 91 [.lit (.string ⟨l.toArray⟩), .lit (.string ⟨#[47]⟩)] H K := by
  refine ACall.clo ⟨_, Tryd.func91, rfl, rfl⟩ fun hcl => ?_
  have i0 := index_str (P := Tryd.prog) (t := 9) (l := [47]) (k := .i64) (i := 0) (b := 47) rfl Tryd.underlying9
  have s0 : (ByteArray.mk #[47]).size = 1 := rfl
  have s1 : (#[47] : Array UInt8).size = 1 := rfl
  have n0 : ((0 : Nat) : Int) = 0 := rfl
  rw [n0] at i0
  have b0 : ((47 : UInt8).toNat : Int) = 47 := rfl
  rw [b0] at i0
  refine ACall.of_body (n := 143) (rs := [.tmp 4]) Tryd.func91 rfl rfl rfl (by decide) (by kernel_rfl) (by simp) ?_
  by_cases h1 : [47] = l
  · subst h1
    have e : slashI [47] = 0 := by decide
    rw [e] at hK
    simp (config := { maxSteps := 1000000 }) only [go_sem, Int.reduceToNat, Int.reduceLE, Int.reduceLT, Int.reduceAdd, Int.reduceSub, Int.reduceMul, Int.reduceEq, Int.reduceNe, Nat.reduceEqDiff, Nat.reducePow, Nat.reduceDiv, Nat.reduceMod, Nat.reduceAdd, Nat.reduceMul, Nat.reduceSub, Nat.reduceLT, Nat.reduceLeDiff, reduceIte, reduceCtorEq, s0, s1, eql_str, guardA_undef, i0, appendA_U]
    exact FinV.dropO G0_ok hcl (.refl _) (.lit _) hK
  · simp (config := { maxSteps := 1000000 }) only [go_sem, Int.reduceToNat, Int.reduceLE, Int.reduceLT, Int.reduceAdd, Int.reduceSub, Int.reduceMul, Int.reduceEq, Int.reduceNe, Nat.reduceEqDiff, Nat.reducePow, Nat.reduceDiv, Nat.reduceMod, Nat.reduceAdd, Nat.reduceMul, Nat.reduceSub, Nat.reduceLT, Nat.reduceLeDiff, reduceIte, reduceCtorEq, s0, s1, eql_str, guardA_undef, i0, h1, appendA_U]
    refine AApply.clo (indexByte_spec l _ _ ⟨trivial, ?_⟩)
    simp (config := { maxSteps := 1000000 }) only [go_sem, Int.reduceToNat, Int.reduceLE, Int.reduceLT, Int.reduceAdd, Int.reduceSub, Int.reduceMul, Int.reduceEq, Int.reduceNe, Nat.reduceEqDiff, Nat.reducePow, Nat.reduceDiv, Nat.reduceMod, Nat.reduceAdd, Nat.reduceMul, Nat.reduceSub, Nat.reduceLT, Nat.reduceLeDiff, reduceIte, reduceCtorEq, appendA_U]
    exact FinV.dropO G0_ok hcl (.refl _) (.lit _) hK
def strB2 (a b : List UInt8) (f : Bool) : AVal := .tup [.lit (.string ⟨a.toArray⟩), .lit (.string ⟨b.toArray⟩), .lit (.bool f)]
theorem fz_s2 {S : Nat → Prop} {H : AHeap} {nx : Nat} {a b c : Value} : Fz S H nx (.tup [.lit a, .lit b, .lit c]) (.tup [.lit a, .lit b, .lit c]) := .tup rfl fun i hi _ => match i, hi with
  | 0, _ => .lit _
  | 1, _ => .lit _
  | 2, _ => .lit _
theorem fz_s1 {S : Nat → Prop} {H : AHeap} {nx : Nat} {a b : Value} : Fz S H nx (.tup [.lit a, .lit b]) (.tup [.lit a, .lit b]) := .tup rfl fun i hi _ => match i, hi with
  | 0, _ => .lit _
  | 1, _ => .lit _
/-- Cut at a slash. -/
def cutV (l : List UInt8) : AVal := match slash l with
  | some i => strB2 (l.take i) (l.drop (i + 1)) true
  | none => strB2 l [] false
theorem scut_spec (l : List UInt8) (hl : l.length < 9223372036854775807) (H : AHeap) (K : ARes → AHeap → Prop) (hK : K (.ret (cutV l)) H) : ACall Tryd.prog G0 84 [.lit (.string ⟨l.toArray⟩), .lit (.string ⟨#[47]⟩)] H K := by
  refine ACall.clo ⟨_, Tryd.func84, rfl, rfl⟩ fun hcl => ?_
  have s1 : (#[47] : Array UInt8).size = 1 := rfl
  have s0 : (ByteArray.mk #[47]).size = 1 := rfl
  refine ACall.of_body (n := 23) (rs := [.tmp 4, .tmp 5, .tmp 6]) Tryd.func84 rfl rfl rfl (by decide) (by kernel_rfl) (by simp) ?_
  simp (config := { maxSteps := 1000000 }) only [go_sem, Int.reduceToNat, Int.reduceLE, Int.reduceLT, Int.reduceAdd, Int.reduceSub, Int.reduceMul, Int.reduceEq, Int.reduceNe, Nat.reduceEqDiff, Nat.reducePow, Nat.reduceDiv, Nat.reduceMod, Nat.reduceAdd, Nat.reduceMul, Nat.reduceSub, Nat.reduceLT, Nat.reduceLeDiff, reduceIte, reduceCtorEq, appendA_U]
  refine AApply.clo (index_spec l _ _ ⟨trivial, ?_⟩)
  unfold slashI
  unfold cutV at hK
  cases h : slash l with
  | none =>
    rw [h] at hK
    simp (config := { maxSteps := 1000000 }) only [go_sem, Int.reduceToNat, Int.reduceLE, Int.reduceLT, Int.reduceAdd, Int.reduceSub, Int.reduceMul, Int.reduceEq, Int.reduceNe, Nat.reduceEqDiff, Nat.reducePow, Nat.reduceDiv, Nat.reduceMod, Nat.reduceAdd, Nat.reduceMul, Nat.reduceSub, Nat.reduceLT, Nat.reduceLeDiff, reduceIte, reduceCtorEq, appendA_U]
    exact FinV.dropO G0_ok hcl (.refl _) fz_s2 hK
  | some i =>
    obtain ⟨hi, _, _⟩ := slash_some h
    rw [h] at hK
    have c1 : (0 : Int) ≤ (i : Int) := by omega
    have c2 : (i : Int) ≤ (l.length : Int) := by omega
    have c3 : (0 : Int) ≤ (i : Int) + 1 := by omega
    have c4 : (i : Int) + 1 ≤ (l.length : Int) := by omega
    have w1 := IntWalk.i64_in ((i : Int) + 1) (by omega)
    simp (config := { maxSteps := 1000000 }) only [go_sem, Int.reduceToNat, Int.reduceLE, Int.reduceLT, Int.reduceAdd, Int.reduceSub, Int.reduceMul, Int.reduceEq, Int.reduceNe, Nat.reduceEqDiff, Nat.reducePow, Nat.reduceDiv, Nat.reduceMod, Nat.reduceAdd, Nat.reduceMul, Nat.reduceSub, Nat.reduceLT, Nat.reduceLeDiff, reduceIte, reduceCtorEq, c1, appendA_U]
    refine W.draw 10 [0, 0, 3, 0, 0, 0, 32, 112, 248, 7] Tryd.mixed (by kernel_rfl) (by kernel_rfl) ?_
    simp (config := { maxSteps := 1000000 }) only [go_sem, Int.reduceToNat, Int.reduceLE, Int.reduceLT, Int.reduceAdd, Int.reduceSub, Int.reduceMul, Int.reduceEq, Int.reduceNe, Nat.reduceEqDiff, Nat.reducePow, Nat.reduceDiv, Nat.reduceMod, Nat.reduceAdd, Nat.reduceMul, Nat.reduceSub, Nat.reduceLT, Nat.reduceLeDiff, reduceIte, reduceCtorEq, c1, c2, c3, c4, str_size, str_ext, w1, s0, s1, appendA_U]
    rw [show ((i : Int) + 1).toNat = i + 1 by omega, List.take_length]
    exact FinV.dropO G0_ok hcl (.refl _) fz_s2 hK
theorem cutV_form (l : List UInt8) : ∃ (a b : List UInt8) (f : Bool), cutV l = .tup [.lit (.string ⟨a.toArray⟩), .lit (.string ⟨b.toArray⟩), .lit (.bool f)] := by
  unfold cutV
  split
  · exact ⟨_, _, _, rfl⟩
  · exact ⟨_, _, _, rfl⟩
theorem cut2_spec (l : List UInt8) (hl : l.length < 9223372036854775807) (H : AHeap) (K : ARes → AHeap → Prop) (hK : K (.ret (cutV l)) H) : ACall Tryd.prog G0 65 [.lit (.string ⟨l.toArray⟩), .lit (.string ⟨#[47]⟩)] H K := by
  refine ACall.clo ⟨_, Tryd.func65, rfl, rfl⟩ fun hcl => ?_
  refine ACall.of_body (n := 13) (rs := [.tmp 4, .tmp 5, .tmp 6]) Tryd.func65 rfl rfl rfl (by decide) (by kernel_rfl) (by simp) ?_
  simp (config := { maxSteps := 1000000 }) only [go_sem, Int.reduceToNat, Int.reduceLE, Int.reduceLT, Int.reduceAdd, Int.reduceSub, Int.reduceMul, Int.reduceEq, Int.reduceNe, Nat.reduceEqDiff, Nat.reducePow, Nat.reduceDiv, Nat.reduceMod, Nat.reduceAdd, Nat.reduceMul, Nat.reduceSub, Nat.reduceLT, Nat.reduceLeDiff, reduceIte, reduceCtorEq, appendA_U]
  refine AApply.clo (scut_spec l hl _ _ ⟨trivial, ?_⟩)
  obtain ⟨a, b, f, e⟩ := cutV_form l
  rw [e] at hK ⊢
  simp (config := { maxSteps := 1000000 }) only [go_sem, Int.reduceToNat, Int.reduceLE, Int.reduceLT, Int.reduceAdd, Int.reduceSub, Int.reduceMul, Int.reduceEq, Int.reduceNe, Nat.reduceEqDiff, Nat.reducePow, Nat.reduceDiv, Nat.reduceMod, Nat.reduceAdd, Nat.reduceMul, Nat.reduceSub, Nat.reduceLT, Nat.reduceLeDiff, reduceIte, reduceCtorEq, appendA_U]
  exact FinV.dropO G0_ok hcl (.refl _) fz_s2 hK
/-- CutPrefix of a minus sign. -/
def negS (l : List UInt8) : Bool := decide (l.head? = some 45)
def restS (l : List UInt8) : List UInt8 := if l.head? = some 45 then l.tail else l
theorem prefix_spec (l : List UInt8) (hl : l.length < 9223372036854775807) (H : AHeap) (K : ARes → AHeap → Prop) (hK : K (.ret (.lit (.bool (negS l)))) H) : ACall Tryd.prog G0 90 [.lit (.string ⟨l.toArray⟩), .lit (.string ⟨#[45]⟩)] H K := by
  refine ACall.clo ⟨_, Tryd.func90, rfl, rfl⟩ fun hcl => ?_
  have s1 : (#[45] : Array UInt8).size = 1 := rfl
  refine ACall.of_body (n := 18) (rs := [.tmp 4]) Tryd.func90 rfl rfl rfl (by decide) (by kernel_rfl) (by simp) ?_
  match l with
  | [] =>
    have c1 : ¬ (1 : Int) ≤ 0 := by omega
    simp (config := { maxSteps := 1000000 }) only [go_sem, Int.reduceToNat, Int.reduceLE, Int.reduceLT, Int.reduceAdd, Int.reduceSub, Int.reduceMul, Int.reduceEq, Int.reduceNe, Nat.reduceEqDiff, Nat.reducePow, Nat.reduceDiv, Nat.reduceMod, Nat.reduceAdd, Nat.reduceMul, Nat.reduceSub, Nat.reduceLT, Nat.reduceLeDiff, reduceIte, reduceCtorEq, List.size_toArray, List.length_nil, guardA_undef, appendA_U]
    exact FinV.dropO G0_ok hcl (.refl _) (.lit _) hK
  | b :: l' =>
    have c1 : (1 : Int) ≤ ((l'.length + 1 : Nat) : Int) := by omega
    have c0 : (0 : Int) ≤ 1 := by omega
    have e : List.drop 0 (List.take 1 (b :: l')) = [b] := rfl
    have t1 : (1 : Int).toNat = 1 := rfl
    by_cases hb : b = 45
    · subst hb
      have d : ([45] : List UInt8) = [45] := rfl
      simp (config := { maxSteps := 1000000 }) only [go_sem, Int.reduceToNat, Int.reduceLE, Int.reduceLT, Int.reduceAdd, Int.reduceSub, Int.reduceMul, Int.reduceEq, Int.reduceNe, Nat.reduceEqDiff, Nat.reducePow, Nat.reduceDiv, Nat.reduceMod, Nat.reduceAdd, Nat.reduceMul, Nat.reduceSub, Nat.reduceLT, Nat.reduceLeDiff, reduceIte, reduceCtorEq, List.size_toArray, s1, str_size, str_ext, c0, c1, e, eql_str, guardA_undef, t1, appendA_U]
      exact FinV.dropO G0_ok hcl (.refl _) (.lit _) hK
    · have d : ¬ ([b] : List UInt8) = [45] := fun h => hb (by simpa using h)
      have hn : negS (b :: l') = false := decide_eq_false (fun h => hb (by simpa using h))
      rw [hn] at hK
      simp (config := { maxSteps := 1000000 }) only [go_sem, Int.reduceToNat, Int.reduceLE, Int.reduceLT, Int.reduceAdd, Int.reduceSub, Int.reduceMul, Int.reduceEq, Int.reduceNe, Nat.reduceEqDiff, Nat.reducePow, Nat.reduceDiv, Nat.reduceMod, Nat.reduceAdd, Nat.reduceMul, Nat.reduceSub, Nat.reduceLT, Nat.reduceLeDiff, reduceIte, reduceCtorEq, List.size_toArray, s1, str_size, str_ext, c0, c1, e, eql_str, guardA_undef, d, t1, appendA_U]
      exact FinV.dropO G0_ok hcl (.refl _) (.lit _) hK
theorem scutp_spec (l : List UInt8) (hl : l.length < 9223372036854775807) (H : AHeap) (K : ARes → AHeap → Prop) (hK : K (.ret (.tup [.lit (.string ⟨(restS l).toArray⟩), .lit (.bool (negS l))])) H) : ACall Tryd.prog G0 83 [.lit (.string ⟨l.toArray⟩), .lit (.string ⟨#[45]⟩)] H K := by
  refine ACall.clo ⟨_, Tryd.func83, rfl, rfl⟩ fun hcl => ?_
  have s1 : (#[45] : Array UInt8).size = 1 := rfl
  have s0 : (ByteArray.mk #[45]).size = 1 := rfl
  refine ACall.of_body (n := 15) (rs := [.tmp 4, .tmp 5]) Tryd.func83 rfl rfl rfl (by decide) (by kernel_rfl) (by simp) ?_
  simp (config := { maxSteps := 1000000 }) only [go_sem, Int.reduceToNat, Int.reduceLE, Int.reduceLT, Int.reduceAdd, Int.reduceSub, Int.reduceMul, Int.reduceEq, Int.reduceNe, Nat.reduceEqDiff, Nat.reducePow, Nat.reduceDiv, Nat.reduceMod, Nat.reduceAdd, Nat.reduceMul, Nat.reduceSub, Nat.reduceLT, Nat.reduceLeDiff, reduceIte, reduceCtorEq, appendA_U]
  refine AApply.clo (prefix_spec l hl _ _ ⟨trivial, ?_⟩)
  unfold negS restS at *
  by_cases h : l.head? = some 45
  · rw [decide_eq_true h] at hK ⊢
    rw [if_pos h] at hK
    match l, h with
    | b :: l', h =>
      have c1 : (1 : Int) ≤ ((l'.length + 1 : Nat) : Int) := by omega
      have c0 : (0 : Int) ≤ 1 := by omega
      have t1 : (1 : Int).toNat = 1 := rfl
      simp (config := { maxSteps := 1000000 }) only [go_sem, Int.reduceToNat, Int.reduceLE, Int.reduceLT, Int.reduceAdd, Int.reduceSub, Int.reduceMul, Int.reduceEq, Int.reduceNe, Nat.reduceEqDiff, Nat.reducePow, Nat.reduceDiv, Nat.reduceMod, Nat.reduceAdd, Nat.reduceMul, Nat.reduceSub, Nat.reduceLT, Nat.reduceLeDiff, reduceIte, reduceCtorEq, List.size_toArray, s1, s0, str_size, str_ext, c0, c1, t1, List.take_length, appendA_U]
      exact FinV.dropO G0_ok hcl (.refl _) fz_s1 hK
  · rw [decide_eq_false h] at hK ⊢
    rw [if_neg h] at hK
    simp (config := { maxSteps := 1000000 }) only [go_sem, Int.reduceToNat, Int.reduceLE, Int.reduceLT, Int.reduceAdd, Int.reduceSub, Int.reduceMul, Int.reduceEq, Int.reduceNe, Nat.reduceEqDiff, Nat.reducePow, Nat.reduceDiv, Nat.reduceMod, Nat.reduceAdd, Nat.reduceMul, Nat.reduceSub, Nat.reduceLT, Nat.reduceLeDiff, reduceIte, reduceCtorEq, appendA_U]
    exact FinV.dropO G0_ok hcl (.refl _) fz_s1 hK
theorem cutp_spec (l : List UInt8) (hl : l.length < 9223372036854775807) (H : AHeap) (K : ARes → AHeap → Prop) (hK : K (.ret (.tup [.lit (.string ⟨(restS l).toArray⟩), .lit (.bool (negS l))])) H) : ACall Tryd.prog G0 64 [.lit (.string ⟨l.toArray⟩), .lit (.string ⟨#[45]⟩)] H K := by
  refine ACall.clo ⟨_, Tryd.func64, rfl, rfl⟩ fun hcl => ?_
  refine ACall.of_body (n := 11) (rs := [.tmp 4, .tmp 5]) Tryd.func64 rfl rfl rfl (by decide) (by kernel_rfl) (by simp) ?_
  simp (config := { maxSteps := 1000000 }) only [go_sem, Int.reduceToNat, Int.reduceLE, Int.reduceLT, Int.reduceAdd, Int.reduceSub, Int.reduceMul, Int.reduceEq, Int.reduceNe, Nat.reduceEqDiff, Nat.reducePow, Nat.reduceDiv, Nat.reduceMod, Nat.reduceAdd, Nat.reduceMul, Nat.reduceSub, Nat.reduceLT, Nat.reduceLeDiff, reduceIte, reduceCtorEq, appendA_U]
  refine AApply.clo (scutp_spec l hl _ _ ⟨trivial, ?_⟩)
  simp (config := { maxSteps := 1000000 }) only [go_sem, Int.reduceToNat, Int.reduceLE, Int.reduceLT, Int.reduceAdd, Int.reduceSub, Int.reduceMul, Int.reduceEq, Int.reduceNe, Nat.reduceEqDiff, Nat.reducePow, Nat.reduceDiv, Nat.reduceMod, Nat.reduceAdd, Nat.reduceMul, Nat.reduceSub, Nat.reduceLT, Nat.reduceLeDiff, reduceIte, reduceCtorEq, appendA_U]
  exact FinV.dropO G0_ok hcl (.refl _) fz_s1 hK
end Go.Proofs
set_option linter.unusedSimpArgs false
set_option maxRecDepth 100000
namespace Go.Proofs
open Go.Hx
def digB (b : UInt8) : Bool := decide (48 ≤ b.toNat) && decide (b.toNat ≤ 57)
def decV (l : List UInt8) : Nat := l.foldl (fun n b => 10 * n + (b.toNat - 48)) 0
def okL (l : List UInt8) : Bool := !(decide (l = []) || decide (19 < l.length) || (decide (l.head? = some 48) && !decide (l = [48])))
def part (l : List UInt8) : Option Nat := if okL l = true ∧ l.all digB = true ∧ decV l ≤ 4611686018427387903 then some (decV l) else none
theorem decV_snoc (l : List UInt8) (b : UInt8) : decV (l ++ [b]) = 10 * decV l + (b.toNat - 48) := by
  unfold decV; rw [List.foldl_append]; rfl
theorem decV_take {l : List UInt8} {j : Nat} {b : UInt8} (h : l[j]? = some b) : decV (l.take (j + 1)) = 10 * decV (l.take j) + (b.toNat - 48) := by
  rw [take_succ_of h, decV_snoc]
theorem decV_lt {l : List UInt8} (h : l.all digB = true) : decV l < 10 ^ l.length := by
  have key : ∀ n, ∀ l : List UInt8, l.length = n → l.all digB = true → decV l < 10 ^ n := by
    intro n
    induction n with
    | zero => intro l hl _; rw [List.eq_nil_of_length_eq_zero hl]; decide
    | succ n ih =>
      intro l hl ha
      have hne : l ≠ [] := fun h => by rw [h] at hl; cases hl
      obtain ⟨l', b, rfl⟩ : ∃ l' b, l = l' ++ [b] := ⟨l.dropLast, l.getLast hne, (List.dropLast_concat_getLast hne).symm⟩
      rw [decV_snoc]
      simp only [List.all_append, List.all_cons, List.all_nil, Bool.and_true, Bool.and_eq_true] at ha
      have := ih l' (by simpa using hl) ha.1
      have hb := ha.2
      unfold digB at hb
      simp only [Bool.and_eq_true, decide_eq_true_eq] at hb
      rw [Nat.pow_succ]
      omega
  exact key _ l rfl h
theorem all_take_succ {l : List UInt8} {j : Nat} {b : UInt8} (h : l[j]? = some b) (ha : (l.take j).all digB = true) (hb : digB b = true) : (l.take (j + 1)).all digB = true := by
  rw [take_succ_of h, List.all_append, ha]
  simp [hb]
theorem not_all {l : List UInt8} {j : Nat} {b : UInt8} (h : l[j]? = some b) (hb : digB b = false) : l.all digB = false := by
  rw [List.all_eq_false]
  exact ⟨b, List.mem_of_getElem? h, by rw [hb]; decide⟩
theorem part_bad1 {l : List UInt8} (h : okL l = false) : part l = none := by unfold part; rw [if_neg (fun k => by rw [h] at k; exact absurd k.1 (by decide))]
theorem part_bad2 {l : List UInt8} (h : l.all digB = false) : part l = none := by unfold part; rw [if_neg (fun k => by rw [h] at k; exact absurd k.2.1 (by decide))]
theorem part_bad3 {l : List UInt8} (h : ¬ decV l ≤ 4611686018427387903) : part l = none := by unfold part; rw [if_neg (fun k => h k.2.2)]
theorem part_good {l : List UInt8} (h1 : okL l = true) (h2 : l.all digB = true) (h3 : decV l ≤ 4611686018427387903) : part l = some (decV l) := by unfold part; rw [if_pos ⟨h1, h2, h3⟩]
theorem part_le {l : List UInt8} {v : Nat} (h : part l = some v) : v ≤ 4611686018427387903 := by
  unfold part at h
  split at h
  · rename_i k; cases h; exact k.2.2
  · cases h
/-- What Parse reads. -/
def sndS (l : List UInt8) : List UInt8 := match slash l with
  | some i => l.drop (i + 1)
  | none => [49]
def fstS (l : List UInt8) : List UInt8 := match slash l with
  | some i => l.take i
  | none => l
def parseO (l : List UInt8) : Option (Int × Int) := match part (fstS (restS l)), part (sndS (restS l)) with
  | some n, some d => if ((slash (restS l)).isSome = true ∧ d = 1) ∨ (negS l = true ∧ n = 0) ∨ checkQ n d ≠ 0 then none else some (if negS l = true then -(n : Int) else n, d)
  | _, _ => none
def parseV (l : List UInt8) : AVal := match parseO l with
  | some p => .tup [qV p.1 p.2, .lit (.int .i64 0)]
  | none => .tup [qV 0 0, .lit (.int .i64 5)]
end Go.Proofs
set_option linter.unusedSimpArgs false
set_option maxRecDepth 100000
namespace Go.Proofs
open Go.Hx
set_option maxHeartbeats 4000000 in
theorem fparse_spec (l : List UInt8) (hl : l.length < 9223372036854775000) (H : AHeap) (K : ARes → AHeap → Prop) (hK : K (.ret (parseV l)) H) : ACall Tryd.prog G0 35 [.lit (.string ⟨l.toArray⟩)] H K := by
  refine ACall.clo ⟨_, Tryd.func35, rfl, rfl⟩ fun hcl => ?_
  have hr : (restS l).length < 9223372036854775000 := by
    unfold restS
    split
    · rw [List.length_tail]; omega
    · exact hl
  have cp := fun H2 K h => cutp_spec l (by omega) H2 K h
  have ct := fun H2 K h => cut2_spec (restS l) (by omega) H2 K h
  unfold parseV parseO at hK
  obtain ⟨neg, hneg⟩ : ∃ n, n = negS l := ⟨_, rfl⟩
  obtain ⟨r, hrr⟩ : ∃ r, r = restS l := ⟨_, rfl⟩
  rw [← hneg] at cp hK
  rw [← hrr] at cp ct hK hr
  clear hneg hrr
  -- what Cut gives
  obtain ⟨u, hu⟩ : ∃ u, u = fstS r := ⟨_, rfl⟩
  obtain ⟨w, hw⟩ : ∃ u, u = sndS r := ⟨_, rfl⟩
  obtain ⟨sl, hsl⟩ : ∃ s, s = (slash r).isSome := ⟨_, rfl⟩
  have lu : u.length < 9223372036854775000 := by
    rw [hu]; unfold fstS; split
    · rw [List.length_take]; omega
    · exact hr
  have lw : w.length < 9223372036854775000 := by
    rw [hw]; unfold sndS; split
    · rw [List.length_drop]; omega
    · decide
  have hcv : ∃ w2, cutV r = .tup [.lit (.string ⟨u.toArray⟩), .lit (.string ⟨(w2 : List UInt8).toArray⟩), .lit (.bool sl)] ∧ (sl = true → w2 = w) ∧ (sl = false → w = [49]) := by
    unfold cutV
    rw [hu, hw, hsl]
    unfold fstS sndS
    cases slash r with
    | none => exact ⟨[], rfl, ⟨(fun h => by cases h), fun _ => rfl⟩⟩
    | some i => exact ⟨_, rfl, ⟨fun _ => rfl, (fun h => by cases h)⟩⟩
  obtain ⟨w2, ecv, hw2, hw3⟩ := hcv
  rw [ecv] at ct
  rw [← hu, ← hw, ← hsl] at hK
  clear hu hw hsl ecv
  refine ACall.of_bodyW (n := 121) (rs := [.cell 2 23, .tmp 3]) Tryd.func35 rfl rfl rfl (by decide) (by simp) ?_
  refine W.seq (vc_sound _ _ _ (by rfl) ?_)
  simp (config := { maxSteps := 1000000 }) only [go_sem, Int.reduceToNat, Int.reduceLE, Int.reduceLT, Int.reduceAdd, Int.reduceSub, Int.reduceMul, Int.reduceEq, Int.reduceNe, Nat.reduceEqDiff, Nat.reducePow, Nat.reduceDiv, Nat.reduceMod, Nat.reduceAdd, Nat.reduceMul, Nat.reduceSub, Nat.reduceLT, Nat.reduceLeDiff, reduceIte, reduceCtorEq, appendA_U]
  refine W.scope ?_
  refine W.seq (vc_sound _ _ _ (by rfl) ?_)
  simp (config := { maxSteps := 1000000 }) only [go_sem, Int.reduceToNat, Int.reduceLE, Int.reduceLT, Int.reduceAdd, Int.reduceSub, Int.reduceMul, Int.reduceEq, Int.reduceNe, Nat.reduceEqDiff, Nat.reducePow, Nat.reduceDiv, Nat.reduceMod, Nat.reduceAdd, Nat.reduceMul, Nat.reduceSub, Nat.reduceLT, Nat.reduceLeDiff, reduceIte, reduceCtorEq, appendA_U]
  refine AApply.clo (cp _ _ ⟨trivial, ?_⟩)
  simp (config := { maxSteps := 1000000 }) only [go_sem, Int.reduceToNat, Int.reduceLE, Int.reduceLT, Int.reduceAdd, Int.reduceSub, Int.reduceMul, Int.reduceEq, Int.reduceNe, Nat.reduceEqDiff, Nat.reducePow, Nat.reduceDiv, Nat.reduceMod, Nat.reduceAdd, Nat.reduceMul, Nat.reduceSub, Nat.reduceLT, Nat.reduceLeDiff, reduceIte, reduceCtorEq, appendA_U]
  refine W.seq (vc_sound _ _ _ (by rfl) ?_)
  simp (config := { maxSteps := 1000000 }) only [go_sem, Int.reduceToNat, Int.reduceLE, Int.reduceLT, Int.reduceAdd, Int.reduceSub, Int.reduceMul, Int.reduceEq, Int.reduceNe, Nat.reduceEqDiff, Nat.reducePow, Nat.reduceDiv, Nat.reduceMod, Nat.reduceAdd, Nat.reduceMul, Nat.reduceSub, Nat.reduceLT, Nat.reduceLeDiff, reduceIte, reduceCtorEq, appendA_U]
  refine AApply.clo (ct _ _ ⟨trivial, ?_⟩)
  simp (config := { maxSteps := 1000000 }) only [go_sem, Int.reduceToNat, Int.reduceLE, Int.reduceLT, Int.reduceAdd, Int.reduceSub, Int.reduceMul, Int.reduceEq, Int.reduceNe, Nat.reduceEqDiff, Nat.reducePow, Nat.reduceDiv, Nat.reduceMod, Nat.reduceAdd, Nat.reduceMul, Nat.reduceSub, Nat.reduceLT, Nat.reduceLeDiff, reduceIte, reduceCtorEq, appendA_U]
  refine W.mid (fun s' => s'.H = ext H [.arr 0 23 [.lit (.int .i64 0), .lit (.int .i64 0)]] ∧ s'.ρ 2 = .ptr H.next 0 0 ∧ s'.ρ 5 = .lit (.bool neg) ∧ s'.ρ 6 = .lit (.string ⟨u.toArray⟩) ∧ s'.ρ 7 = .lit (.string ⟨w.toArray⟩) ∧ s'.ρ 8 = .lit (.bool sl)) ?_ ?_
  · refine vc_sound _ _ _ (by rfl) ?_
    cases sl with
    | true =>
      rw [← hw2 rfl]
      simp (config := { maxSteps := 1000000 }) only [go_sem, Int.reduceToNat, Int.reduceLE, Int.reduceLT, Int.reduceAdd, Int.reduceSub, Int.reduceMul, Int.reduceEq, Int.reduceNe, Nat.reduceEqDiff, Nat.reducePow, Nat.reduceDiv, Nat.reduceMod, Nat.reduceAdd, Nat.reduceMul, Nat.reduceSub, Nat.reduceLT, Nat.reduceLeDiff, reduceIte, reduceCtorEq, appendA_U]
    | false =>
      rw [hw3 rfl]
      simp (config := { maxSteps := 1000000 }) only [go_sem, Int.reduceToNat, Int.reduceLE, Int.reduceLT, Int.reduceAdd, Int.reduceSub, Int.reduceMul, Int.reduceEq, Int.reduceNe, Nat.reduceEqDiff, Nat.reducePow, Nat.reduceDiv, Nat.reduceMod, Nat.reduceAdd, Nat.reduceMul, Nat.reduceSub, Nat.reduceLT, Nat.reduceLeDiff, reduceIte, reduceCtorEq, appendA_U]
  rintro ⟨E, H2⟩ ⟨eH, a2, a5, a6, a7, a8⟩
  simp only at eH a2 a5 a6 a7 a8
  subst eH
  clear hw2 hw3 cp ct
  refine W.seq (vc_sound _ _ _ (by rfl) ?_)
  simp (config := { maxSteps := 1000000 }) only [go_sem, Int.reduceToNat, Int.reduceLE, Int.reduceLT, Int.reduceAdd, Int.reduceSub, Int.reduceMul, Int.reduceEq, Int.reduceNe, Nat.reduceEqDiff, Nat.reducePow, Nat.reduceDiv, Nat.reduceMod, Nat.reduceAdd, Nat.reduceMul, Nat.reduceSub, Nat.reduceLT, Nat.reduceLeDiff, reduceIte, reduceCtorEq, a2, a5, a6, a7, a8, appendA_U]
  refine W.seq (vc_sound _ _ _ (by rfl) ?_)
  simp (config := { maxSteps := 1000000 }) only [go_sem, Int.reduceToNat, Int.reduceLE, Int.reduceLT, Int.reduceAdd, Int.reduceSub, Int.reduceMul, Int.reduceEq, Int.reduceNe, Nat.reduceEqDiff, Nat.reducePow, Nat.reduceDiv, Nat.reduceMod, Nat.reduceAdd, Nat.reduceMul, Nat.reduceSub, Nat.reduceLT, Nat.reduceLeDiff, reduceIte, reduceCtorEq, a2, a5, a6, a7, a8, appendA_U]
  refine W.seq (vc_sound _ _ _ (by rfl) ?_)
  simp (config := { maxSteps := 1000000 }) only [go_sem, Int.reduceToNat, Int.reduceLE, Int.reduceLT, Int.reduceAdd, Int.reduceSub, Int.reduceMul, Int.reduceEq, Int.reduceNe, Nat.reduceEqDiff, Nat.reducePow, Nat.reduceDiv, Nat.reduceMod, Nat.reduceAdd, Nat.reduceMul, Nat.reduceSub, Nat.reduceLT, Nat.reduceLeDiff, reduceIte, reduceCtorEq, a2, a5, a6, a7, a8, ext_ext, List.cons_append, List.nil_append, appendA_U]
  refine W.env fun E2 hE => ?_
  have b2 : E2 2 = .ptr H.next 0 0 := by rw [hE]; exact a2
  have b5 : E2 5 = .lit (.bool neg) := by rw [hE]; exact a5
  have b8 : E2 8 = .lit (.bool sl) := by rw [hE]; exact a8
  have b9 : E2 9 = .ptr (H.next + 1) 0 0 := by rw [hE]; rfl
  have b10 : E2 10 = lin 0 := by rw [hE]; rfl
  have b32 : E2 32 = .agg [.lit (.string ⟨u.toArray⟩), .lit (.string ⟨w.toArray⟩)] := by rw [hE]; rfl
  have b33 : E2 33 = lin 0 := by rw [hE]; rfl
  clear hE a2 a5 a6 a7 a8
  have wk1 := IntWalk.i64_in 1 (by omega)
  have wk2 := IntWalk.i64_in 2 (by omega)
  refine W.mono (Q := fun ax s' => ax = .exit 0 ∧ ∃ (rd : Nat) (x y : Int), s'.H = ext H [.arr 0 23 [.lit (.int .i64 0), .lit (.int .i64 0)], .arr 0 92 [.lit (.int .i64 x), .lit (.int .i64 y)]] ∧ s'.ρ 2 = .ptr H.next 0 0 ∧ s'.ρ 5 = .lit (.bool neg) ∧ s'.ρ 8 = .lit (.bool sl) ∧ s'.ρ 9 = .ptr (H.next + 1) 0 0 ∧ s'.ρ 10 = lin rd ∧ ((rd = 2 ∧ ∃ n d : Nat, part u = some n ∧ part w = some d ∧ x = n ∧ y = d) ∨ (rd < 2 ∧ (part u = none ∨ part w = none)))) ?_ ?_
  · refine W.loop0 77371252455336258591292416 (by rfl) (fun ρ H' => ∃ (k : Nat) (x y : Int), ρ 33 = lin k ∧ ρ 10 = lin k ∧ k ≤ 2 ∧ H' = ext H [.arr 0 23 [.lit (.int .i64 0), .lit (.int .i64 0)], .arr 0 92 [.lit (.int .i64 x), .lit (.int .i64 y)]] ∧ (1 ≤ k → ∃ n : Nat, part u = some n ∧ x = n) ∧ (2 ≤ k → ∃ d : Nat, part w = some d ∧ y = d)) (fun ρ H => 2 - (iv (ρ 33)).toNat) ?_ ?_
    · simp (config := { maxSteps := 1000000 }) only [go_sem, Int.reduceToNat, Int.reduceLE, Int.reduceLT, Int.reduceAdd, Int.reduceSub, Int.reduceMul, Int.reduceEq, Int.reduceNe, Nat.reduceEqDiff, Nat.reducePow, Nat.reduceDiv, Nat.reduceMod, Nat.reduceAdd, Nat.reduceMul, Nat.reduceSub, Nat.reduceLT, Nat.reduceLeDiff, reduceIte, reduceCtorEq, b10, b33, appendA_U]
      exact ⟨0, 0, 0, rfl, rfl, by omega, rfl, (fun h => absurd h (by omega)), (fun h => absurd h (by omega))⟩
    rintro ρ H' ⟨k, x, y, h33, h10, hk, rfl, hx, hy⟩
    refine vc_sound _ _ _ (by rfl) ?_
    have hk3 : k = 2 ∨ k = 0 ∨ k = 1 := by omega
    rcases hk3 with rfl | rfl | rfl
    · obtain ⟨n, en, rfl⟩ := hx (by omega)
      obtain ⟨d, ed, rfl⟩ := hy (by omega)
      simp (config := { maxSteps := 1000000 }) only [go_sem, Int.reduceToNat, Int.reduceLE, Int.reduceLT, Int.reduceAdd, Int.reduceSub, Int.reduceMul, Int.reduceEq, Int.reduceNe, Nat.reduceEqDiff, Nat.reducePow, Nat.reduceDiv, Nat.reduceMod, Nat.reduceAdd, Nat.reduceMul, Nat.reduceSub, Nat.reduceLT, Nat.reduceLeDiff, reduceIte, reduceCtorEq, b2, b5, b8, b9, h10, h33, appendA_U]
      exact ⟨2, n, d, rfl, rfl, .inl ⟨rfl, n, d, en, ed, rfl, rfl⟩⟩
    · skip
      by_cases e0 : u = []
      · simp (config := { maxSteps := 1000000 }) only [go_sem, Int.reduceToNat, Int.reduceLE, Int.reduceLT, Int.reduceAdd, Int.reduceSub, Int.reduceMul, Int.reduceEq, Int.reduceNe, Nat.reduceEqDiff, Nat.reducePow, Nat.reduceDiv, Nat.reduceMod, Nat.reduceAdd, Nat.reduceMul, Nat.reduceSub, Nat.reduceLT, Nat.reduceLeDiff, reduceIte, reduceCtorEq, b2, b5, b8, b9, b32, h10, h33, List.size_toArray, eql_str, neq_str, guardA_undef, e0, appendA_U]
        exact ⟨0, x, y, rfl, rfl, .inr ⟨by omega, .inl (part_bad1 rfl)⟩⟩
      obtain ⟨b, hb⟩ : ∃ b, u[0]? = some b := ⟨u[0]'(List.length_pos_iff.2 e0), List.getElem?_eq_getElem _⟩
      have i1 := index_str (P := Tryd.prog) (t := 9) (k := .i64) hb Tryd.underlying9
      have hhd : u.head? = some b := by rw [List.head?_eq_getElem?]; exact hb
      by_cases e1 : (19 : Int) < (u.length : Int)
      · simp (config := { maxSteps := 1000000 }) only [go_sem, Int.reduceToNat, Int.reduceLE, Int.reduceLT, Int.reduceAdd, Int.reduceSub, Int.reduceMul, Int.reduceEq, Int.reduceNe, Nat.reduceEqDiff, Nat.reducePow, Nat.reduceDiv, Nat.reduceMod, Nat.reduceAdd, Nat.reduceMul, Nat.reduceSub, Nat.reduceLT, Nat.reduceLeDiff, reduceIte, reduceCtorEq, b2, b5, b8, b9, b32, h10, h33, List.size_toArray, eql_str, neq_str, guardA_undef, e0, e1, appendA_U]
        exact ⟨0, x, y, rfl, rfl, .inr ⟨by omega, .inl (part_bad1 (by unfold okL; rw [decide_eq_true (show 19 < u.length by omega)]; simp))⟩⟩
      have z0 : ((0 : Nat) : Int) = 0 := rfl
      rw [z0] at i1
      by_cases e2 : (b.toNat : Int) = 48
      · by_cases e3 : u = [48]
        · have ok : okL u = true := by rw [e3]; decide
          simp (config := { maxSteps := 1000000 }) only [go_sem, Int.reduceToNat, Int.reduceLE, Int.reduceLT, Int.reduceAdd, Int.reduceSub, Int.reduceMul, Int.reduceEq, Int.reduceNe, Nat.reduceEqDiff, Nat.reducePow, Nat.reduceDiv, Nat.reduceMod, Nat.reduceAdd, Nat.reduceMul, Nat.reduceSub, Nat.reduceLT, Nat.reduceLeDiff, reduceIte, reduceCtorEq, b2, b5, b8, b9, b32, h10, h33, List.size_toArray, eql_str, neq_str, guardA_undef, e0, e1, i1, e2, ← e3, appendA_U]
          refine W.env fun E3 hE => ?_
          have c2 : E3 2 = .ptr H.next 0 0 := by rw [hE]; exact b2
          have c5 : E3 5 = .lit (.bool neg) := by rw [hE]; exact b5
          have c8 : E3 8 = .lit (.bool sl) := by rw [hE]; exact b8
          have c9 : E3 9 = .ptr (H.next + 1) 0 0 := by rw [hE]; exact b9
          have c10 : E3 10 = lin 0 := by rw [hE]; exact h10
          have c11 : E3 11 = lin 0 := by rw [hE]; rfl
          have c12 : E3 12 = .lit (.string ⟨u.toArray⟩) := by rw [hE]; rfl
          have c13 : E3 13 = .lit (.int .u64 0) := by rw [hE]; rfl
          have c33 : E3 33 = lin 0 := by rw [hE]; exact h33
          have c54 : E3 54 = lin u.length := by rw [hE]; rfl
          have c55 : E3 55 = lin 0 := by rw [hE]; rfl
          clear hE
          refine W.loop0 151115691423031627898880 (by rfl) (fun ρ2 H2 => ∃ (j : Nat), ρ2 55 = lin j ∧ ρ2 13 = .lit (.int .u64 (decV (u.take j) : Nat)) ∧ j ≤ u.length ∧ H2 = ext H [.arr 0 23 [.lit (.int .i64 0), .lit (.int .i64 0)], .arr 0 92 [.lit (.int .i64 x), .lit (.int .i64 y)]] ∧ (u.take j).all digB = true) (fun ρ2 H => u.length - (iv (ρ2 55)).toNat) ?_ ?_
          · simp (config := { maxSteps := 1000000 }) only [go_sem, Int.reduceToNat, Int.reduceLE, Int.reduceLT, Int.reduceAdd, Int.reduceSub, Int.reduceMul, Int.reduceEq, Int.reduceNe, Nat.reduceEqDiff, Nat.reducePow, Nat.reduceDiv, Nat.reduceMod, Nat.reduceAdd, Nat.reduceMul, Nat.reduceSub, Nat.reduceLT, Nat.reduceLeDiff, reduceIte, reduceCtorEq, c13, c55, appendA_U]
            exact ⟨0, rfl, rfl, by omega, rfl⟩
          rintro ρ2 H2 ⟨j, d55, d13, hj, rfl, ha⟩
          refine vc_sound _ _ _ (by rfl) ?_
          by_cases hje : j = u.length
          · subst hje
            rw [List.take_length] at ha d13
            have q1 : ¬ (u.length : Int) < (u.length : Int) := by omega
            by_cases hM : (4611686018427387903 : Int) < (decV u : Nat)
            · simp (config := { maxSteps := 1000000 }) only [go_sem, Int.reduceToNat, Int.reduceLE, Int.reduceLT, Int.reduceAdd, Int.reduceSub, Int.reduceMul, Int.reduceEq, Int.reduceNe, Nat.reduceEqDiff, Nat.reducePow, Nat.reduceDiv, Nat.reduceMod, Nat.reduceAdd, Nat.reduceMul, Nat.reduceSub, Nat.reduceLT, Nat.reduceLeDiff, reduceIte, reduceCtorEq, c2, c5, c8, c9, c12, c10, c11, c33, c54, d13, d55, List.size_toArray, guardA_undef, q1, hM, appendA_U]
              exact ⟨0, x, y, rfl, rfl, .inr ⟨by omega, .inl (part_bad3 (by omega))⟩⟩
            · have wM := IntWalk.i64_in ((decV u : Nat) : Int) (by omega)
              simp (config := { maxSteps := 1000000 }) only [go_sem, Int.reduceToNat, Int.reduceLE, Int.reduceLT, Int.reduceAdd, Int.reduceSub, Int.reduceMul, Int.reduceEq, Int.reduceNe, Nat.reduceEqDiff, Nat.reducePow, Nat.reduceDiv, Nat.reduceMod, Nat.reduceAdd, Nat.reduceMul, Nat.reduceSub, Nat.reduceLT, Nat.reduceLeDiff, reduceIte, reduceCtorEq, c2, c5, c8, c9, c12, c10, c11, c33, c54, d13, d55, List.size_toArray, guardA_undef, q1, hM, wM, wk1, wk2, appendA_U]
              exact ⟨1, _, _, rfl, rfl, by omega, rfl, fun _ => ⟨_, part_good ok ha (by omega), rfl⟩, fun h => absurd h (by omega)⟩
          · have q1 : (j : Int) < (u.length : Int) := by omega
            obtain ⟨c, hc⟩ : ∃ c, u[j]? = some c := ⟨u[j]'(by omega), List.getElem?_eq_getElem _⟩
            have ij := index_str (P := Tryd.prog) (t := 9) (k := .i64) hc Tryd.underlying9
            have cb := c.toNat_lt
            by_cases g1 : (c.toNat : Int) < 48
            · simp (config := { maxSteps := 1000000 }) only [go_sem, Int.reduceToNat, Int.reduceLE, Int.reduceLT, Int.reduceAdd, Int.reduceSub, Int.reduceMul, Int.reduceEq, Int.reduceNe, Nat.reduceEqDiff, Nat.reducePow, Nat.reduceDiv, Nat.reduceMod, Nat.reduceAdd, Nat.reduceMul, Nat.reduceSub, Nat.reduceLT, Nat.reduceLeDiff, reduceIte, reduceCtorEq, c2, c5, c8, c9, c12, c10, c11, c33, c54, d13, d55, List.size_toArray, guardA_undef, q1, ij, g1, appendA_U]
              exact ⟨0, x, y, rfl, rfl, .inr ⟨by omega, .inl (part_bad2 (not_all hc (by unfold digB; rw [decide_eq_false (by omega)]; rfl)))⟩⟩
            · by_cases g2 : (57 : Int) < (c.toNat : Int)
              · simp (config := { maxSteps := 1000000 }) only [go_sem, Int.reduceToNat, Int.reduceLE, Int.reduceLT, Int.reduceAdd, Int.reduceSub, Int.reduceMul, Int.reduceEq, Int.reduceNe, Nat.reduceEqDiff, Nat.reducePow, Nat.reduceDiv, Nat.reduceMod, Nat.reduceAdd, Nat.reduceMul, Nat.reduceSub, Nat.reduceLT, Nat.reduceLeDiff, reduceIte, reduceCtorEq, c2, c5, c8, c9, c12, c10, c11, c33, c54, d13, d55, List.size_toArray, guardA_undef, q1, ij, g1, g2, appendA_U]
                exact ⟨0, x, y, rfl, rfl, .inr ⟨by omega, .inl (part_bad2 (not_all hc (by unfold digB; rw [decide_eq_false (show ¬ c.toNat ≤ 57 by omega)]; simp)))⟩⟩
              · have lim : decV (u.take j) < 10 ^ 18 := by
                  have h1 := decV_lt ha
                  rw [List.length_take, Nat.min_eq_left hj] at h1
                  exact Nat.lt_of_lt_of_le h1 (Nat.pow_le_pow_right (by omega) (by omega))
                have p18 : (10 : Nat) ^ 18 = 1000000000000000000 := by decide
                rw [p18] at lim
                have dt := decV_take hc
                have r1 := IntWalk.u64_in (10 * ((decV (u.take j) : Nat) : Int)) (by omega)
                have r2 : IntKind.u8.wrap ((c.toNat : Int) - 48) = (c.toNat : Int) - 48 := by simp [IntKind.wrap, IntKind.bits, IntKind.signed]; omega
                have r3 := IntWalk.u64_in ((c.toNat : Int) - 48) (by omega)
                have r4 := IntWalk.u64_in (10 * ((decV (u.take j) : Nat) : Int) + ((c.toNat : Int) - 48)) (by omega)
                have r5 := IntWalk.i64_in ((j : Int) + 1) (by omega)
                have r6 : 10 * ((decV (u.take j) : Nat) : Int) + ((c.toNat : Int) - 48) = ((decV (u.take (j + 1)) : Nat) : Int) := by omega
                rw [r6] at r4
                simp (config := { maxSteps := 1000000 }) only [go_sem, Int.reduceToNat, Int.reduceLE, Int.reduceLT, Int.reduceAdd, Int.reduceSub, Int.reduceMul, Int.reduceEq, Int.reduceNe, Nat.reduceEqDiff, Nat.reducePow, Nat.reduceDiv, Nat.reduceMod, Nat.reduceAdd, Nat.reduceMul, Nat.reduceSub, Nat.reduceLT, Nat.reduceLeDiff, reduceIte, reduceCtorEq, c2, c5, c8, c9, c12, c10, c11, c33, c54, d13, d55, List.size_toArray, guardA_undef, q1, ij, g1, g2, r1, r2, r3, r4, r5, r6, appendA_U]
                exact ⟨⟨j + 1, by simp, rfl, by omega, all_take_succ hc ha (by unfold digB; rw [decide_eq_true (by omega), decide_eq_true (by omega)]; rfl)⟩, by omega⟩
        · simp (config := { maxSteps := 1000000 }) only [go_sem, Int.reduceToNat, Int.reduceLE, Int.reduceLT, Int.reduceAdd, Int.reduceSub, Int.reduceMul, Int.reduceEq, Int.reduceNe, Nat.reduceEqDiff, Nat.reducePow, Nat.reduceDiv, Nat.reduceMod, Nat.reduceAdd, Nat.reduceMul, Nat.reduceSub, Nat.reduceLT, Nat.reduceLeDiff, reduceIte, reduceCtorEq, b2, b5, b8, b9, b32, h10, h33, List.size_toArray, eql_str, neq_str, guardA_undef, e0, e1, i1, e2, e3, appendA_U]
          exact ⟨0, x, y, rfl, rfl, .inr ⟨by omega, .inl (part_bad1 (by unfold okL; rw [hhd, show b = 48 from UInt8.toNat_inj.1 (by rw [show (48 : UInt8).toNat = 48 from rfl]; omega), decide_eq_false e3]; simp))⟩⟩
      · have ok : okL u = true := by
          unfold okL
          rw [decide_eq_false e0, decide_eq_false (show ¬ 19 < u.length by omega), hhd, decide_eq_false (fun h => e2 (by cases h; rfl))]
          rfl
        simp (config := { maxSteps := 1000000 }) only [go_sem, Int.reduceToNat, Int.reduceLE, Int.reduceLT, Int.reduceAdd, Int.reduceSub, Int.reduceMul, Int.reduceEq, Int.reduceNe, Nat.reduceEqDiff, Nat.reducePow, Nat.reduceDiv, Nat.reduceMod, Nat.reduceAdd, Nat.reduceMul, Nat.reduceSub, Nat.reduceLT, Nat.reduceLeDiff, reduceIte, reduceCtorEq, b2, b5, b8, b9, b32, h10, h33, List.size_toArray, eql_str, neq_str, guardA_undef, e0, e1, i1, e2, appendA_U]
        refine W.env fun E3 hE => ?_
        have c2 : E3 2 = .ptr H.next 0 0 := by rw [hE]; exact b2
        have c5 : E3 5 = .lit (.bool neg) := by rw [hE]; exact b5
        have c8 : E3 8 = .lit (.bool sl) := by rw [hE]; exact b8
        have c9 : E3 9 = .ptr (H.next + 1) 0 0 := by rw [hE]; exact b9
        have c10 : E3 10 = lin 0 := by rw [hE]; exact h10
        have c11 : E3 11 = lin 0 := by rw [hE]; rfl
        have c12 : E3 12 = .lit (.string ⟨u.toArray⟩) := by rw [hE]; rfl
        have c13 : E3 13 = .lit (.int .u64 0) := by rw [hE]; rfl
        have c33 : E3 33 = lin 0 := by rw [hE]; exact h33
        have c54 : E3 54 = lin u.length := by rw [hE]; rfl
        have c55 : E3 55 = lin 0 := by rw [hE]; rfl
        clear hE
        refine W.loop0 151115691423031627898880 (by rfl) (fun ρ2 H2 => ∃ (j : Nat), ρ2 55 = lin j ∧ ρ2 13 = .lit (.int .u64 (decV (u.take j) : Nat)) ∧ j ≤ u.length ∧ H2 = ext H [.arr 0 23 [.lit (.int .i64 0), .lit (.int .i64 0)], .arr 0 92 [.lit (.int .i64 x), .lit (.int .i64 y)]] ∧ (u.take j).all digB = true) (fun ρ2 H => u.length - (iv (ρ2 55)).toNat) ?_ ?_
        · simp (config := { maxSteps := 1000000 }) only [go_sem, Int.reduceToNat, Int.reduceLE, Int.reduceLT, Int.reduceAdd, Int.reduceSub, Int.reduceMul, Int.reduceEq, Int.reduceNe, Nat.reduceEqDiff, Nat.reducePow, Nat.reduceDiv, Nat.reduceMod, Nat.reduceAdd, Nat.reduceMul, Nat.reduceSub, Nat.reduceLT, Nat.reduceLeDiff, reduceIte, reduceCtorEq, c13, c55, appendA_U]
          exact ⟨0, rfl, rfl, by omega, rfl⟩
        rintro ρ2 H2 ⟨j, d55, d13, hj, rfl, ha⟩
        refine vc_sound _ _ _ (by rfl) ?_
        by_cases hje : j = u.length
        · subst hje
          rw [List.take_length] at ha d13
          have q1 : ¬ (u.length : Int) < (u.length : Int) := by omega
          by_cases hM : (4611686018427387903 : Int) < (decV u : Nat)
          · simp (config := { maxSteps := 1000000 }) only [go_sem, Int.reduceToNat, Int.reduceLE, Int.reduceLT, Int.reduceAdd, Int.reduceSub, Int.reduceMul, Int.reduceEq, Int.reduceNe, Nat.reduceEqDiff, Nat.reducePow, Nat.reduceDiv, Nat.reduceMod, Nat.reduceAdd, Nat.reduceMul, Nat.reduceSub, Nat.reduceLT, Nat.reduceLeDiff, reduceIte, reduceCtorEq, c2, c5, c8, c9, c12, c10, c11, c33, c54, d13, d55, List.size_toArray, guardA_undef, q1, hM, appendA_U]
            exact ⟨0, x, y, rfl, rfl, .inr ⟨by omega, .inl (part_bad3 (by omega))⟩⟩
          · have wM := IntWalk.i64_in ((decV u : Nat) : Int) (by omega)
            simp (config := { maxSteps := 1000000 }) only [go_sem, Int.reduceToNat, Int.reduceLE, Int.reduceLT, Int.reduceAdd, Int.reduceSub, Int.reduceMul, Int.reduceEq, Int.reduceNe, Nat.reduceEqDiff, Nat.reducePow, Nat.reduceDiv, Nat.reduceMod, Nat.reduceAdd, Nat.reduceMul, Nat.reduceSub, Nat.reduceLT, Nat.reduceLeDiff, reduceIte, reduceCtorEq, c2, c5, c8, c9, c12, c10, c11, c33, c54, d13, d55, List.size_toArray, guardA_undef, q1, hM, wM, wk1, wk2, appendA_U]
            exact ⟨1, _, _, rfl, rfl, by omega, rfl, fun _ => ⟨_, part_good ok ha (by omega), rfl⟩, fun h => absurd h (by omega)⟩
        · have q1 : (j : Int) < (u.length : Int) := by omega
          obtain ⟨c, hc⟩ : ∃ c, u[j]? = some c := ⟨u[j]'(by omega), List.getElem?_eq_getElem _⟩
          have ij := index_str (P := Tryd.prog) (t := 9) (k := .i64) hc Tryd.underlying9
          have cb := c.toNat_lt
          by_cases g1 : (c.toNat : Int) < 48
          · simp (config := { maxSteps := 1000000 }) only [go_sem, Int.reduceToNat, Int.reduceLE, Int.reduceLT, Int.reduceAdd, Int.reduceSub, Int.reduceMul, Int.reduceEq, Int.reduceNe, Nat.reduceEqDiff, Nat.reducePow, Nat.reduceDiv, Nat.reduceMod, Nat.reduceAdd, Nat.reduceMul, Nat.reduceSub, Nat.reduceLT, Nat.reduceLeDiff, reduceIte, reduceCtorEq, c2, c5, c8, c9, c12, c10, c11, c33, c54, d13, d55, List.size_toArray, guardA_undef, q1, ij, g1, appendA_U]
            exact ⟨0, x, y, rfl, rfl, .inr ⟨by omega, .inl (part_bad2 (not_all hc (by unfold digB; rw [decide_eq_false (by omega)]; rfl)))⟩⟩
          · by_cases g2 : (57 : Int) < (c.toNat : Int)
            · simp (config := { maxSteps := 1000000 }) only [go_sem, Int.reduceToNat, Int.reduceLE, Int.reduceLT, Int.reduceAdd, Int.reduceSub, Int.reduceMul, Int.reduceEq, Int.reduceNe, Nat.reduceEqDiff, Nat.reducePow, Nat.reduceDiv, Nat.reduceMod, Nat.reduceAdd, Nat.reduceMul, Nat.reduceSub, Nat.reduceLT, Nat.reduceLeDiff, reduceIte, reduceCtorEq, c2, c5, c8, c9, c12, c10, c11, c33, c54, d13, d55, List.size_toArray, guardA_undef, q1, ij, g1, g2, appendA_U]
              exact ⟨0, x, y, rfl, rfl, .inr ⟨by omega, .inl (part_bad2 (not_all hc (by unfold digB; rw [decide_eq_false (show ¬ c.toNat ≤ 57 by omega)]; simp)))⟩⟩
            · have lim : decV (u.take j) < 10 ^ 18 := by
                have h1 := decV_lt ha
                rw [List.length_take, Nat.min_eq_left hj] at h1
                exact Nat.lt_of_lt_of_le h1 (Nat.pow_le_pow_right (by omega) (by omega))
              have p18 : (10 : Nat) ^ 18 = 1000000000000000000 := by decide
              rw [p18] at lim
              have dt := decV_take hc
              have r1 := IntWalk.u64_in (10 * ((decV (u.take j) : Nat) : Int)) (by omega)
              have r2 : IntKind.u8.wrap ((c.toNat : Int) - 48) = (c.toNat : Int) - 48 := by simp [IntKind.wrap, IntKind.bits, IntKind.signed]; omega
              have r3 := IntWalk.u64_in ((c.toNat : Int) - 48) (by omega)
              have r4 := IntWalk.u64_in (10 * ((decV (u.take j) : Nat) : Int) + ((c.toNat : Int) - 48)) (by omega)
              have r5 := IntWalk.i64_in ((j : Int) + 1) (by omega)
              have r6 : 10 * ((decV (u.take j) : Nat) : Int) + ((c.toNat : Int) - 48) = ((decV (u.take (j + 1)) : Nat) : Int) := by omega
              rw [r6] at r4
              simp (config := { maxSteps := 1000000 }) only [go_sem, Int.reduceToNat, Int.reduceLE, Int.reduceLT, Int.reduceAdd, Int.reduceSub, Int.reduceMul, Int.reduceEq, Int.reduceNe, Nat.reduceEqDiff, Nat.reducePow, Nat.reduceDiv, Nat.reduceMod, Nat.reduceAdd, Nat.reduceMul, Nat.reduceSub, Nat.reduceLT, Nat.reduceLeDiff, reduceIte, reduceCtorEq, c2, c5, c8, c9, c12, c10, c11, c33, c54, d13, d55, List.size_toArray, guardA_undef, q1, ij, g1, g2, r1, r2, r3, r4, r5, r6, appendA_U]
              exact ⟨⟨j + 1, by simp, rfl, by omega, all_take_succ hc ha (by unfold digB; rw [decide_eq_true (by omega), decide_eq_true (by omega)]; rfl)⟩, by omega⟩
    · skip
      by_cases e0 : w = []
      · simp (config := { maxSteps := 1000000 }) only [go_sem, Int.reduceToNat, Int.reduceLE, Int.reduceLT, Int.reduceAdd, Int.reduceSub, Int.reduceMul, Int.reduceEq, Int.reduceNe, Nat.reduceEqDiff, Nat.reducePow, Nat.reduceDiv, Nat.reduceMod, Nat.reduceAdd, Nat.reduceMul, Nat.reduceSub, Nat.reduceLT, Nat.reduceLeDiff, reduceIte, reduceCtorEq, b2, b5, b8, b9, b32, h10, h33, List.size_toArray, eql_str, neq_str, guardA_undef, e0, appendA_U]
        exact ⟨1, x, y, rfl, rfl, .inr ⟨by omega, .inr (part_bad1 rfl)⟩⟩
      obtain ⟨b, hb⟩ : ∃ b, w[0]? = some b := ⟨w[0]'(List.length_pos_iff.2 e0), List.getElem?_eq_getElem _⟩
      have i1 := index_str (P := Tryd.prog) (t := 9) (k := .i64) hb Tryd.underlying9
      have hhd : w.head? = some b := by rw [List.head?_eq_getElem?]; exact hb
      by_cases e1 : (19 : Int) < (w.length : Int)
      · simp (config := { maxSteps := 1000000 }) only [go_sem, Int.reduceToNat, Int.reduceLE, Int.reduceLT, Int.reduceAdd, Int.reduceSub, Int.reduceMul, Int.reduceEq, Int.reduceNe, Nat.reduceEqDiff, Nat.reducePow, Nat.reduceDiv, Nat.reduceMod, Nat.reduceAdd, Nat.reduceMul, Nat.reduceSub, Nat.reduceLT, Nat.reduceLeDiff, reduceIte, reduceCtorEq, b2, b5, b8, b9, b32, h10, h33, List.size_toArray, eql_str, neq_str, guardA_undef, e0, e1, appendA_U]
        exact ⟨1, x, y, rfl, rfl, .inr ⟨by omega, .inr (part_bad1 (by unfold okL; rw [decide_eq_true (show 19 < w.length by omega)]; simp))⟩⟩
      have z0 : ((0 : Nat) : Int) = 0 := rfl
      rw [z0] at i1
      by_cases e2 : (b.toNat : Int) = 48
      · by_cases e3 : w = [48]
        · have ok : okL w = true := by rw [e3]; decide
          simp (config := { maxSteps := 1000000 }) only [go_sem, Int.reduceToNat, Int.reduceLE, Int.reduceLT, Int.reduceAdd, Int.reduceSub, Int.reduceMul, Int.reduceEq, Int.reduceNe, Nat.reduceEqDiff, Nat.reducePow, Nat.reduceDiv, Nat.reduceMod, Nat.reduceAdd, Nat.reduceMul, Nat.reduceSub, Nat.reduceLT, Nat.reduceLeDiff, reduceIte, reduceCtorEq, b2, b5, b8, b9, b32, h10, h33, List.size_toArray, eql_str, neq_str, guardA_undef, e0, e1, i1, e2, ← e3, appendA_U]
          refine W.env fun E3 hE => ?_
          have c2 : E3 2 = .ptr H.next 0 0 := by rw [hE]; exact b2
          have c5 : E3 5 = .lit (.bool neg) := by rw [hE]; exact b5
          have c8 : E3 8 = .lit (.bool sl) := by rw [hE]; exact b8
          have c9 : E3 9 = .ptr (H.next + 1) 0 0 := by rw [hE]; exact b9
          have c10 : E3 10 = lin 1 := by rw [hE]; exact h10
          have c11 : E3 11 = lin 1 := by rw [hE]; rfl
          have c12 : E3 12 = .lit (.string ⟨w.toArray⟩) := by rw [hE]; rfl
          have c13 : E3 13 = .lit (.int .u64 0) := by rw [hE]; rfl
          have c33 : E3 33 = lin 1 := by rw [hE]; exact h33
          have c54 : E3 54 = lin w.length := by rw [hE]; rfl
          have c55 : E3 55 = lin 0 := by rw [hE]; rfl
          clear hE
          refine W.loop0 151115691423031627898880 (by rfl) (fun ρ2 H2 => ∃ (j : Nat), ρ2 55 = lin j ∧ ρ2 13 = .lit (.int .u64 (decV (w.take j) : Nat)) ∧ j ≤ w.length ∧ H2 = ext H [.arr 0 23 [.lit (.int .i64 0), .lit (.int .i64 0)], .arr 0 92 [.lit (.int .i64 x), .lit (.int .i64 y)]] ∧ (w.take j).all digB = true) (fun ρ2 H => w.length - (iv (ρ2 55)).toNat) ?_ ?_
          · simp (config := { maxSteps := 1000000 }) only [go_sem, Int.reduceToNat, Int.reduceLE, Int.reduceLT, Int.reduceAdd, Int.reduceSub, Int.reduceMul, Int.reduceEq, Int.reduceNe, Nat.reduceEqDiff, Nat.reducePow, Nat.reduceDiv, Nat.reduceMod, Nat.reduceAdd, Nat.reduceMul, Nat.reduceSub, Nat.reduceLT, Nat.reduceLeDiff, reduceIte, reduceCtorEq, c13, c55, appendA_U]
            exact ⟨0, rfl, rfl, by omega, rfl⟩
          rintro ρ2 H2 ⟨j, d55, d13, hj, rfl, ha⟩
          refine vc_sound _ _ _ (by rfl) ?_
          by_cases hje : j = w.length
          · subst hje
            rw [List.take_length] at ha d13
            have q1 : ¬ (w.length : Int) < (w.length : Int) := by omega
            by_cases hM : (4611686018427387903 : Int) < (decV w : Nat)
            · simp (config := { maxSteps := 1000000 }) only [go_sem, Int.reduceToNat, Int.reduceLE, Int.reduceLT, Int.reduceAdd, Int.reduceSub, Int.reduceMul, Int.reduceEq, Int.reduceNe, Nat.reduceEqDiff, Nat.reducePow, Nat.reduceDiv, Nat.reduceMod, Nat.reduceAdd, Nat.reduceMul, Nat.reduceSub, Nat.reduceLT, Nat.reduceLeDiff, reduceIte, reduceCtorEq, c2, c5, c8, c9, c12, c10, c11, c33, c54, d13, d55, List.size_toArray, guardA_undef, q1, hM, appendA_U]
              exact ⟨1, x, y, rfl, rfl, .inr ⟨by omega, .inr (part_bad3 (by omega))⟩⟩
            · have wM := IntWalk.i64_in ((decV w : Nat) : Int) (by omega)
              simp (config := { maxSteps := 1000000 }) only [go_sem, Int.reduceToNat, Int.reduceLE, Int.reduceLT, Int.reduceAdd, Int.reduceSub, Int.reduceMul, Int.reduceEq, Int.reduceNe, Nat.reduceEqDiff, Nat.reducePow, Nat.reduceDiv, Nat.reduceMod, Nat.reduceAdd, Nat.reduceMul, Nat.reduceSub, Nat.reduceLT, Nat.reduceLeDiff, reduceIte, reduceCtorEq, c2, c5, c8, c9, c12, c10, c11, c33, c54, d13, d55, List.size_toArray, guardA_undef, q1, hM, wM, wk1, wk2, appendA_U]
              exact ⟨2, _, _, rfl, rfl, by omega, rfl, fun _ => hx (by omega), fun _ => ⟨_, part_good ok ha (by omega), rfl⟩⟩
          · have q1 : (j : Int) < (w.length : Int) := by omega
            obtain ⟨c, hc⟩ : ∃ c, w[j]? = some c := ⟨w[j]'(by omega), List.getElem?_eq_getElem _⟩
            have ij := index_str (P := Tryd.prog) (t := 9) (k := .i64) hc Tryd.underlying9
            have cb := c.toNat_lt
            by_cases g1 : (c.toNat : Int) < 48
            · simp (config := { maxSteps := 1000000 }) only [go_sem, Int.reduceToNat, Int.reduceLE, Int.reduceLT, Int.reduceAdd, Int.reduceSub, Int.reduceMul, Int.reduceEq, Int.reduceNe, Nat.reduceEqDiff, Nat.reducePow, Nat.reduceDiv, Nat.reduceMod, Nat.reduceAdd, Nat.reduceMul, Nat.reduceSub, Nat.reduceLT, Nat.reduceLeDiff, reduceIte, reduceCtorEq, c2, c5, c8, c9, c12, c10, c11, c33, c54, d13, d55, List.size_toArray, guardA_undef, q1, ij, g1, appendA_U]
              exact ⟨1, x, y, rfl, rfl, .inr ⟨by omega, .inr (part_bad2 (not_all hc (by unfold digB; rw [decide_eq_false (by omega)]; rfl)))⟩⟩
            · by_cases g2 : (57 : Int) < (c.toNat : Int)
              · simp (config := { maxSteps := 1000000 }) only [go_sem, Int.reduceToNat, Int.reduceLE, Int.reduceLT, Int.reduceAdd, Int.reduceSub, Int.reduceMul, Int.reduceEq, Int.reduceNe, Nat.reduceEqDiff, Nat.reducePow, Nat.reduceDiv, Nat.reduceMod, Nat.reduceAdd, Nat.reduceMul, Nat.reduceSub, Nat.reduceLT, Nat.reduceLeDiff, reduceIte, reduceCtorEq, c2, c5, c8, c9, c12, c10, c11, c33, c54, d13, d55, List.size_toArray, guardA_undef, q1, ij, g1, g2, appendA_U]
                exact ⟨1, x, y, rfl, rfl, .inr ⟨by omega, .inr (part_bad2 (not_all hc (by unfold digB; rw [decide_eq_false (show ¬ c.toNat ≤ 57 by omega)]; simp)))⟩⟩
              · have lim : decV (w.take j) < 10 ^ 18 := by
                  have h1 := decV_lt ha
                  rw [List.length_take, Nat.min_eq_left hj] at h1
                  exact Nat.lt_of_lt_of_le h1 (Nat.pow_le_pow_right (by omega) (by omega))
                have p18 : (10 : Nat) ^ 18 = 1000000000000000000 := by decide
                rw [p18] at lim
                have dt := decV_take hc
                have r1 := IntWalk.u64_in (10 * ((decV (w.take j) : Nat) : Int)) (by omega)
                have r2 : IntKind.u8.wrap ((c.toNat : Int) - 48) = (c.toNat : Int) - 48 := by simp [IntKind.wrap, IntKind.bits, IntKind.signed]; omega
                have r3 := IntWalk.u64_in ((c.toNat : Int) - 48) (by omega)
                have r4 := IntWalk.u64_in (10 * ((decV (w.take j) : Nat) : Int) + ((c.toNat : Int) - 48)) (by omega)
                have r5 := IntWalk.i64_in ((j : Int) + 1) (by omega)
                have r6 : 10 * ((decV (w.take j) : Nat) : Int) + ((c.toNat : Int) - 48) = ((decV (w.take (j + 1)) : Nat) : Int) := by omega
                rw [r6] at r4
                simp (config := { maxSteps := 1000000 }) only [go_sem, Int.reduceToNat, Int.reduceLE, Int.reduceLT, Int.reduceAdd, Int.reduceSub, Int.reduceMul, Int.reduceEq, Int.reduceNe, Nat.reduceEqDiff, Nat.reducePow, Nat.reduceDiv, Nat.reduceMod, Nat.reduceAdd, Nat.reduceMul, Nat.reduceSub, Nat.reduceLT, Nat.reduceLeDiff, reduceIte, reduceCtorEq, c2, c5, c8, c9, c12, c10, c11, c33, c54, d13, d55, List.size_toArray, guardA_undef, q1, ij, g1, g2, r1, r2, r3, r4, r5, r6, appendA_U]
                exact ⟨⟨j + 1, by simp, rfl, by omega, all_take_succ hc ha (by unfold digB; rw [decide_eq_true (by omega), decide_eq_true (by omega)]; rfl)⟩, by omega⟩
        · simp (config := { maxSteps := 1000000 }) only [go_sem, Int.reduceToNat, Int.reduceLE, Int.reduceLT, Int.reduceAdd, Int.reduceSub, Int.reduceMul, Int.reduceEq, Int.reduceNe, Nat.reduceEqDiff, Nat.reducePow, Nat.reduceDiv, Nat.reduceMod, Nat.reduceAdd, Nat.reduceMul, Nat.reduceSub, Nat.reduceLT, Nat.reduceLeDiff, reduceIte, reduceCtorEq, b2, b5, b8, b9, b32, h10, h33, List.size_toArray, eql_str, neq_str, guardA_undef, e0, e1, i1, e2, e3, appendA_U]
          exact ⟨1, x, y, rfl, rfl, .inr ⟨by omega, .inr (part_bad1 (by unfold okL; rw [hhd, show b = 48 from UInt8.toNat_inj.1 (by rw [show (48 : UInt8).toNat = 48 from rfl]; omega), decide_eq_false e3]; simp))⟩⟩
      · have ok : okL w = true := by
          unfold okL
          rw [decide_eq_false e0, decide_eq_false (show ¬ 19 < w.length by omega), hhd, decide_eq_false (fun h => e2 (by cases h; rfl))]
          rfl
        simp (config := { maxSteps := 1000000 }) only [go_sem, Int.reduceToNat, Int.reduceLE, Int.reduceLT, Int.reduceAdd, Int.reduceSub, Int.reduceMul, Int.reduceEq, Int.reduceNe, Nat.reduceEqDiff, Nat.reducePow, Nat.reduceDiv, Nat.reduceMod, Nat.reduceAdd, Nat.reduceMul, Nat.reduceSub, Nat.reduceLT, Nat.reduceLeDiff, reduceIte, reduceCtorEq, b2, b5, b8, b9, b32, h10, h33, List.size_toArray, eql_str, neq_str, guardA_undef, e0, e1, i1, e2, appendA_U]
        refine W.env fun E3 hE => ?_
        have c2 : E3 2 = .ptr H.next 0 0 := by rw [hE]; exact b2
        have c5 : E3 5 = .lit (.bool neg) := by rw [hE]; exact b5
        have c8 : E3 8 = .lit (.bool sl) := by rw [hE]; exact b8
        have c9 : E3 9 = .ptr (H.next + 1) 0 0 := by rw [hE]; exact b9
        have c10 : E3 10 = lin 1 := by rw [hE]; exact h10
        have c11 : E3 11 = lin 1 := by rw [hE]; rfl
        have c12 : E3 12 = .lit (.string ⟨w.toArray⟩) := by rw [hE]; rfl
        have c13 : E3 13 = .lit (.int .u64 0) := by rw [hE]; rfl
        have c33 : E3 33 = lin 1 := by rw [hE]; exact h33
        have c54 : E3 54 = lin w.length := by rw [hE]; rfl
        have c55 : E3 55 = lin 0 := by rw [hE]; rfl
        clear hE
        refine W.loop0 151115691423031627898880 (by rfl) (fun ρ2 H2 => ∃ (j : Nat), ρ2 55 = lin j ∧ ρ2 13 = .lit (.int .u64 (decV (w.take j) : Nat)) ∧ j ≤ w.length ∧ H2 = ext H [.arr 0 23 [.lit (.int .i64 0), .lit (.int .i64 0)], .arr 0 92 [.lit (.int .i64 x), .lit (.int .i64 y)]] ∧ (w.take j).all digB = true) (fun ρ2 H => w.length - (iv (ρ2 55)).toNat) ?_ ?_
        · simp (config := { maxSteps := 1000000 }) only [go_sem, Int.reduceToNat, Int.reduceLE, Int.reduceLT, Int.reduceAdd, Int.reduceSub, Int.reduceMul, Int.reduceEq, Int.reduceNe, Nat.reduceEqDiff, Nat.reducePow, Nat.reduceDiv, Nat.reduceMod, Nat.reduceAdd, Nat.reduceMul, Nat.reduceSub, Nat.reduceLT, Nat.reduceLeDiff, reduceIte, reduceCtorEq, c13, c55, appendA_U]
          exact ⟨0, rfl, rfl, by omega, rfl⟩
        rintro ρ2 H2 ⟨j, d55, d13, hj, rfl, ha⟩
        refine vc_sound _ _ _ (by rfl) ?_
        by_cases hje : j = w.length
        · subst hje
          rw [List.take_length] at ha d13
          have q1 : ¬ (w.length : Int) < (w.length : Int) := by omega
          by_cases hM : (4611686018427387903 : Int) < (decV w : Nat)
          · simp (config := { maxSteps := 1000000 }) only [go_sem, Int.reduceToNat, Int.reduceLE, Int.reduceLT, Int.reduceAdd, Int.reduceSub, Int.reduceMul, Int.reduceEq, Int.reduceNe, Nat.reduceEqDiff, Nat.reducePow, Nat.reduceDiv, Nat.reduceMod, Nat.reduceAdd, Nat.reduceMul, Nat.reduceSub, Nat.reduceLT, Nat.reduceLeDiff, reduceIte, reduceCtorEq, c2, c5, c8, c9, c12, c10, c11, c33, c54, d13, d55, List.size_toArray, guardA_undef, q1, hM, appendA_U]
            exact ⟨1, x, y, rfl, rfl, .inr ⟨by omega, .inr (part_bad3 (by omega))⟩⟩
          · have wM := IntWalk.i64_in ((decV w : Nat) : Int) (by omega)
            simp (config := { maxSteps := 1000000 }) only [go_sem, Int.reduceToNat, Int.reduceLE, Int.reduceLT, Int.reduceAdd, Int.reduceSub, Int.reduceMul, Int.reduceEq, Int.reduceNe, Nat.reduceEqDiff, Nat.reducePow, Nat.reduceDiv, Nat.reduceMod, Nat.reduceAdd, Nat.reduceMul, Nat.reduceSub, Nat.reduceLT, Nat.reduceLeDiff, reduceIte, reduceCtorEq, c2, c5, c8, c9, c12, c10, c11, c33, c54, d13, d55, List.size_toArray, guardA_undef, q1, hM, wM, wk1, wk2, appendA_U]
            exact ⟨2, _, _, rfl, rfl, by omega, rfl, fun _ => hx (by omega), fun _ => ⟨_, part_good ok ha (by omega), rfl⟩⟩
        · have q1 : (j : Int) < (w.length : Int) := by omega
          obtain ⟨c, hc⟩ : ∃ c, w[j]? = some c := ⟨w[j]'(by omega), List.getElem?_eq_getElem _⟩
          have ij := index_str (P := Tryd.prog) (t := 9) (k := .i64) hc Tryd.underlying9
          have cb := c.toNat_lt
          by_cases g1 : (c.toNat : Int) < 48
          · simp (config := { maxSteps := 1000000 }) only [go_sem, Int.reduceToNat, Int.reduceLE, Int.reduceLT, Int.reduceAdd, Int.reduceSub, Int.reduceMul, Int.reduceEq, Int.reduceNe, Nat.reduceEqDiff, Nat.reducePow, Nat.reduceDiv, Nat.reduceMod, Nat.reduceAdd, Nat.reduceMul, Nat.reduceSub, Nat.reduceLT, Nat.reduceLeDiff, reduceIte, reduceCtorEq, c2, c5, c8, c9, c12, c10, c11, c33, c54, d13, d55, List.size_toArray, guardA_undef, q1, ij, g1, appendA_U]
            exact ⟨1, x, y, rfl, rfl, .inr ⟨by omega, .inr (part_bad2 (not_all hc (by unfold digB; rw [decide_eq_false (by omega)]; rfl)))⟩⟩
          · by_cases g2 : (57 : Int) < (c.toNat : Int)
            · simp (config := { maxSteps := 1000000 }) only [go_sem, Int.reduceToNat, Int.reduceLE, Int.reduceLT, Int.reduceAdd, Int.reduceSub, Int.reduceMul, Int.reduceEq, Int.reduceNe, Nat.reduceEqDiff, Nat.reducePow, Nat.reduceDiv, Nat.reduceMod, Nat.reduceAdd, Nat.reduceMul, Nat.reduceSub, Nat.reduceLT, Nat.reduceLeDiff, reduceIte, reduceCtorEq, c2, c5, c8, c9, c12, c10, c11, c33, c54, d13, d55, List.size_toArray, guardA_undef, q1, ij, g1, g2, appendA_U]
              exact ⟨1, x, y, rfl, rfl, .inr ⟨by omega, .inr (part_bad2 (not_all hc (by unfold digB; rw [decide_eq_false (show ¬ c.toNat ≤ 57 by omega)]; simp)))⟩⟩
            · have lim : decV (w.take j) < 10 ^ 18 := by
                have h1 := decV_lt ha
                rw [List.length_take, Nat.min_eq_left hj] at h1
                exact Nat.lt_of_lt_of_le h1 (Nat.pow_le_pow_right (by omega) (by omega))
              have p18 : (10 : Nat) ^ 18 = 1000000000000000000 := by decide
              rw [p18] at lim
              have dt := decV_take hc
              have r1 := IntWalk.u64_in (10 * ((decV (w.take j) : Nat) : Int)) (by omega)
              have r2 : IntKind.u8.wrap ((c.toNat : Int) - 48) = (c.toNat : Int) - 48 := by simp [IntKind.wrap, IntKind.bits, IntKind.signed]; omega
              have r3 := IntWalk.u64_in ((c.toNat : Int) - 48) (by omega)
              have r4 := IntWalk.u64_in (10 * ((decV (w.take j) : Nat) : Int) + ((c.toNat : Int) - 48)) (by omega)
              have r5 := IntWalk.i64_in ((j : Int) + 1) (by omega)
              have r6 : 10 * ((decV (w.take j) : Nat) : Int) + ((c.toNat : Int) - 48) = ((decV (w.take (j + 1)) : Nat) : Int) := by omega
              rw [r6] at r4
              simp (config := { maxSteps := 1000000 }) only [go_sem, Int.reduceToNat, Int.reduceLE, Int.reduceLT, Int.reduceAdd, Int.reduceSub, Int.reduceMul, Int.reduceEq, Int.reduceNe, Nat.reduceEqDiff, Nat.reducePow, Nat.reduceDiv, Nat.reduceMod, Nat.reduceAdd, Nat.reduceMul, Nat.reduceSub, Nat.reduceLT, Nat.reduceLeDiff, reduceIte, reduceCtorEq, c2, c5, c8, c9, c12, c10, c11, c33, c54, d13, d55, List.size_toArray, guardA_undef, q1, ij, g1, g2, r1, r2, r3, r4, r5, r6, appendA_U]
              exact ⟨⟨j + 1, by simp, rfl, by omega, all_take_succ hc ha (by unfold digB; rw [decide_eq_true (by omega), decide_eq_true (by omega)]; rfl)⟩, by omega⟩
  · rintro ax ⟨E4, H4⟩ ⟨rfl, rd, x, y, eH, a2, a5, a8, a9, a10, hcase⟩
    simp only at eH a2 a5 a8 a9 a10
    subst eH
    show W Tryd.prog G0 121 none _ _ _
    have fq : ∀ (x y : Int), checkQ x y = 0 ∨ checkQ x y = 5 := checkQ_cases
    rcases hcase with ⟨rfl, n, d, hn, hd, rfl, rfl⟩ | ⟨hrd, hbad⟩
    · rw [hn, hd] at hK
      have bn := part_le hn
      have bd := part_le hd
      simp only at hK
      refine vc_sound _ _ _ (by rfl) ?_
      have wneg := IntWalk.i64_in (-(n : Int)) (by omega)
      have sneg : (0 : Int) - (n : Int) = -(n : Int) := by omega
      cases sl with
      | true =>
        by_cases g1 : d = 1
        · subst g1
          rw [if_pos (.inl ⟨rfl, rfl⟩)] at hK
          simp (config := { maxSteps := 1000000 }) only [go_sem, Int.reduceToNat, Int.reduceLE, Int.reduceLT, Int.reduceAdd, Int.reduceSub, Int.reduceMul, Int.reduceEq, Int.reduceNe, Nat.reduceEqDiff, Nat.reducePow, Nat.reduceDiv, Nat.reduceMod, Nat.reduceAdd, Nat.reduceMul, Nat.reduceSub, Nat.reduceLT, Nat.reduceLeDiff, reduceIte, reduceCtorEq, a2, a5, a8, a9, a10, guardA_undef, ext_ext, List.cons_append, List.nil_append, appendA_U]
          exact FinV.drop G0_ok hcl (fz_tq _ _ _) hK
        have g1' : ¬ (d : Int) = 1 := by omega
        cases neg with
        | true =>
          by_cases g2 : n = 0
          · subst g2
            rw [if_pos (.inr (.inl ⟨rfl, rfl⟩))] at hK
            have n0 : ((0 : Nat) : Int) = 0 := rfl
            simp (config := { maxSteps := 1000000 }) only [go_sem, Int.reduceToNat, Int.reduceLE, Int.reduceLT, Int.reduceAdd, Int.reduceSub, Int.reduceMul, Int.reduceEq, Int.reduceNe, Nat.reduceEqDiff, Nat.reducePow, Nat.reduceDiv, Nat.reduceMod, Nat.reduceAdd, Nat.reduceMul, Nat.reduceSub, Nat.reduceLT, Nat.reduceLeDiff, reduceIte, reduceCtorEq, a2, a5, a8, a9, a10, guardA_undef, ext_ext, List.cons_append, List.nil_append, g1', n0, appendA_U]
            exact FinV.drop G0_ok hcl (fz_tq _ _ _) hK
          have g2' : ¬ (n : Int) = 0 := by omega
          simp (config := { maxSteps := 1000000 }) only [go_sem, Int.reduceToNat, Int.reduceLE, Int.reduceLT, Int.reduceAdd, Int.reduceSub, Int.reduceMul, Int.reduceEq, Int.reduceNe, Nat.reduceEqDiff, Nat.reducePow, Nat.reduceDiv, Nat.reduceMod, Nat.reduceAdd, Nat.reduceMul, Nat.reduceSub, Nat.reduceLT, Nat.reduceLeDiff, reduceIte, reduceCtorEq, a2, a5, a8, a9, a10, guardA_undef, ext_ext, List.cons_append, List.nil_append, g1', g2', appendA_U]
          refine AApply.clo (fcheck_spec n d (by omega) (by omega) _ _ ⟨trivial, ?_⟩)
          rcases fq n d with hc | hc
          · rw [hc]
            rw [hc] at hK
            rw [if_neg (by simp [g1, g2])] at hK
            simp (config := { maxSteps := 1000000 }) only [go_sem, Int.reduceToNat, Int.reduceLE, Int.reduceLT, Int.reduceAdd, Int.reduceSub, Int.reduceMul, Int.reduceEq, Int.reduceNe, Nat.reduceEqDiff, Nat.reducePow, Nat.reduceDiv, Nat.reduceMod, Nat.reduceAdd, Nat.reduceMul, Nat.reduceSub, Nat.reduceLT, Nat.reduceLeDiff, reduceIte, reduceCtorEq, a2, a5, a8, a9, a10, guardA_undef, ext_ext, List.cons_append, List.nil_append, wneg, sneg, appendA_U]
            exact FinV.drop G0_ok hcl (fz_tq _ _ _) (by simp at hK; exact hK)
          · rw [hc]
            rw [hc, if_pos (.inr (.inr (by decide)))] at hK
            simp (config := { maxSteps := 1000000 }) only [go_sem, Int.reduceToNat, Int.reduceLE, Int.reduceLT, Int.reduceAdd, Int.reduceSub, Int.reduceMul, Int.reduceEq, Int.reduceNe, Nat.reduceEqDiff, Nat.reducePow, Nat.reduceDiv, Nat.reduceMod, Nat.reduceAdd, Nat.reduceMul, Nat.reduceSub, Nat.reduceLT, Nat.reduceLeDiff, reduceIte, reduceCtorEq, a2, a5, a8, a9, a10, guardA_undef, ext_ext, List.cons_append, List.nil_append, appendA_U]
            exact FinV.drop G0_ok hcl (fz_tq _ _ _) hK
        | false =>
          simp (config := { maxSteps := 1000000 }) only [go_sem, Int.reduceToNat, Int.reduceLE, Int.reduceLT, Int.reduceAdd, Int.reduceSub, Int.reduceMul, Int.reduceEq, Int.reduceNe, Nat.reduceEqDiff, Nat.reducePow, Nat.reduceDiv, Nat.reduceMod, Nat.reduceAdd, Nat.reduceMul, Nat.reduceSub, Nat.reduceLT, Nat.reduceLeDiff, reduceIte, reduceCtorEq, a2, a5, a8, a9, a10, guardA_undef, ext_ext, List.cons_append, List.nil_append, g1', appendA_U]
          refine AApply.clo (fcheck_spec n d (by omega) (by omega) _ _ ⟨trivial, ?_⟩)
          rcases fq n d with hc | hc
          · rw [hc]
            rw [hc] at hK
            rw [if_neg (by simp [g1])] at hK
            simp (config := { maxSteps := 1000000 }) only [go_sem, Int.reduceToNat, Int.reduceLE, Int.reduceLT, Int.reduceAdd, Int.reduceSub, Int.reduceMul, Int.reduceEq, Int.reduceNe, Nat.reduceEqDiff, Nat.reducePow, Nat.reduceDiv, Nat.reduceMod, Nat.reduceAdd, Nat.reduceMul, Nat.reduceSub, Nat.reduceLT, Nat.reduceLeDiff, reduceIte, reduceCtorEq, a2, a5, a8, a9, a10, guardA_undef, ext_ext, List.cons_append, List.nil_append, appendA_U]
            exact FinV.drop G0_ok hcl (fz_tq _ _ _) (by simp at hK; exact hK)
          · rw [hc]
            rw [hc, if_pos (.inr (.inr (by decide)))] at hK
            simp (config := { maxSteps := 1000000 }) only [go_sem, Int.reduceToNat, Int.reduceLE, Int.reduceLT, Int.reduceAdd, Int.reduceSub, Int.reduceMul, Int.reduceEq, Int.reduceNe, Nat.reduceEqDiff, Nat.reducePow, Nat.reduceDiv, Nat.reduceMod, Nat.reduceAdd, Nat.reduceMul, Nat.reduceSub, Nat.reduceLT, Nat.reduceLeDiff, reduceIte, reduceCtorEq, a2, a5, a8, a9, a10, guardA_undef, ext_ext, List.cons_append, List.nil_append, appendA_U]
            exact FinV.drop G0_ok hcl (fz_tq _ _ _) hK
      | false =>
        cases neg with
        | true =>
          by_cases g2 : n = 0
          · subst g2
            rw [if_pos (.inr (.inl ⟨rfl, rfl⟩))] at hK
            have n0 : ((0 : Nat) : Int) = 0 := rfl
            simp (config := { maxSteps := 1000000 }) only [go_sem, Int.reduceToNat, Int.reduceLE, Int.reduceLT, Int.reduceAdd, Int.reduceSub, Int.reduceMul, Int.reduceEq, Int.reduceNe, Nat.reduceEqDiff, Nat.reducePow, Nat.reduceDiv, Nat.reduceMod, Nat.reduceAdd, Nat.reduceMul, Nat.reduceSub, Nat.reduceLT, Nat.reduceLeDiff, reduceIte, reduceCtorEq, a2, a5, a8, a9, a10, guardA_undef, ext_ext, List.cons_append, List.nil_append, n0, appendA_U]
            exact FinV.drop G0_ok hcl (fz_tq _ _ _) hK
          have g2' : ¬ (n : Int) = 0 := by omega
          simp (config := { maxSteps := 1000000 }) only [go_sem, Int.reduceToNat, Int.reduceLE, Int.reduceLT, Int.reduceAdd, Int.reduceSub, Int.reduceMul, Int.reduceEq, Int.reduceNe, Nat.reduceEqDiff, Nat.reducePow, Nat.reduceDiv, Nat.reduceMod, Nat.reduceAdd, Nat.reduceMul, Nat.reduceSub, Nat.reduceLT, Nat.reduceLeDiff, reduceIte, reduceCtorEq, a2, a5, a8, a9, a10, guardA_undef, ext_ext, List.cons_append, List.nil_append, g2', appendA_U]
          refine AApply.clo (fcheck_spec n d (by omega) (by omega) _ _ ⟨trivial, ?_⟩)
          rcases fq n d with hc | hc
          · rw [hc]
            rw [hc] at hK
            rw [if_neg (by simp [g2])] at hK
            simp (config := { maxSteps := 1000000 }) only [go_sem, Int.reduceToNat, Int.reduceLE, Int.reduceLT, Int.reduceAdd, Int.reduceSub, Int.reduceMul, Int.reduceEq, Int.reduceNe, Nat.reduceEqDiff, Nat.reducePow, Nat.reduceDiv, Nat.reduceMod, Nat.reduceAdd, Nat.reduceMul, Nat.reduceSub, Nat.reduceLT, Nat.reduceLeDiff, reduceIte, reduceCtorEq, a2, a5, a8, a9, a10, guardA_undef, ext_ext, List.cons_append, List.nil_append, wneg, sneg, appendA_U]
            exact FinV.drop G0_ok hcl (fz_tq _ _ _) (by simp at hK; exact hK)
          · rw [hc]
            rw [hc, if_pos (.inr (.inr (by decide)))] at hK
            simp (config := { maxSteps := 1000000 }) only [go_sem, Int.reduceToNat, Int.reduceLE, Int.reduceLT, Int.reduceAdd, Int.reduceSub, Int.reduceMul, Int.reduceEq, Int.reduceNe, Nat.reduceEqDiff, Nat.reducePow, Nat.reduceDiv, Nat.reduceMod, Nat.reduceAdd, Nat.reduceMul, Nat.reduceSub, Nat.reduceLT, Nat.reduceLeDiff, reduceIte, reduceCtorEq, a2, a5, a8, a9, a10, guardA_undef, ext_ext, List.cons_append, List.nil_append, appendA_U]
            exact FinV.drop G0_ok hcl (fz_tq _ _ _) hK
        | false =>
          simp (config := { maxSteps := 1000000 }) only [go_sem, Int.reduceToNat, Int.reduceLE, Int.reduceLT, Int.reduceAdd, Int.reduceSub, Int.reduceMul, Int.reduceEq, Int.reduceNe, Nat.reduceEqDiff, Nat.reducePow, Nat.reduceDiv, Nat.reduceMod, Nat.reduceAdd, Nat.reduceMul, Nat.reduceSub, Nat.reduceLT, Nat.reduceLeDiff, reduceIte, reduceCtorEq, a2, a5, a8, a9, a10, guardA_undef, ext_ext, List.cons_append, List.nil_append, appendA_U]
          refine AApply.clo (fcheck_spec n d (by omega) (by omega) _ _ ⟨trivial, ?_⟩)
          rcases fq n d with hc | hc
          · rw [hc]
            rw [hc] at hK
            rw [if_neg (by simp [])] at hK
            simp (config := { maxSteps := 1000000 }) only [go_sem, Int.reduceToNat, Int.reduceLE, Int.reduceLT, Int.reduceAdd, Int.reduceSub, Int.reduceMul, Int.reduceEq, Int.reduceNe, Nat.reduceEqDiff, Nat.reducePow, Nat.reduceDiv, Nat.reduceMod, Nat.reduceAdd, Nat.reduceMul, Nat.reduceSub, Nat.reduceLT, Nat.reduceLeDiff, reduceIte, reduceCtorEq, a2, a5, a8, a9, a10, guardA_undef, ext_ext, List.cons_append, List.nil_append, appendA_U]
            exact FinV.drop G0_ok hcl (fz_tq _ _ _) (by simp at hK; exact hK)
          · rw [hc]
            rw [hc, if_pos (.inr (.inr (by decide)))] at hK
            simp (config := { maxSteps := 1000000 }) only [go_sem, Int.reduceToNat, Int.reduceLE, Int.reduceLT, Int.reduceAdd, Int.reduceSub, Int.reduceMul, Int.reduceEq, Int.reduceNe, Nat.reduceEqDiff, Nat.reducePow, Nat.reduceDiv, Nat.reduceMod, Nat.reduceAdd, Nat.reduceMul, Nat.reduceSub, Nat.reduceLT, Nat.reduceLeDiff, reduceIte, reduceCtorEq, a2, a5, a8, a9, a10, guardA_undef, ext_ext, List.cons_append, List.nil_append, appendA_U]
            exact FinV.drop G0_ok hcl (fz_tq _ _ _) hK
    · have rlt : (rd : Int) < 2 := by omega
      have e0 : K (.ret (.tup [qV 0 0, .lit (.int .i64 5)])) H := by
        rcases hbad with hb | hb
        · rw [hb] at hK; exact hK
        · rw [hb] at hK
          cases hu : part u with
          | none => rw [hu] at hK; exact hK
          | some v => rw [hu] at hK; exact hK
      refine vc_sound _ _ _ (by rfl) ?_
      simp (config := { maxSteps := 1000000 }) only [go_sem, Int.reduceToNat, Int.reduceLE, Int.reduceLT, Int.reduceAdd, Int.reduceSub, Int.reduceMul, Int.reduceEq, Int.reduceNe, Nat.reduceEqDiff, Nat.reducePow, Nat.reduceDiv, Nat.reduceMod, Nat.reduceAdd, Nat.reduceMul, Nat.reduceSub, Nat.reduceLT, Nat.reduceLeDiff, reduceIte, reduceCtorEq, a2, a5, a8, a9, a10, guardA_undef, ext_ext, List.cons_append, List.nil_append, rlt, appendA_U]
      exact FinV.drop G0_ok hcl (fz_tq _ _ _) e0
end Go.Proofs
set_option linter.unusedSimpArgs false
set_option maxRecDepth 100000
namespace Go.Proofs
open Go.Hx
end Go.Proofs
set_option linter.unusedSimpArgs false
set_option maxRecDepth 100000
namespace Go.Proofs
open Go.Hx
def numO (l : List UInt8) : Option Int := if negS l = true then (match part (restS l) with | some v => if v = 0 then none else some (-(v : Int)) | none => none) else (match part (restS l) with | some v => some (v : Int) | none => none)
def numR (l : List UInt8) : AVal := match numO l with
  | some n => .tup [.lit (.int .i64 n), .lit (.bool true)]
  | none => .tup [.lit (.int .i64 0), .lit (.bool false)]
/-- A list of digits, or the empty one. -/
def DigV (v : AVal) (X : Nat) : Prop := v = vecI (dig X) ∨ (v = .lit (.slice none 0 0) ∧ X = 0)
end Go.Proofs
set_option linter.unusedSimpArgs false
set_option maxRecDepth 100000
namespace Go.Proofs
open Go.Hx
theorem slash_of {l : List UInt8} {i : Nat} (h : l[i]? = some 47) (h2 : ∀ j, j < i → l[j]? ≠ some 47) : slash l = some i := by
  cases hs : slash l with
  | none => exact absurd h (slash_none hs i)
  | some k =>
    obtain ⟨_, k2, k3⟩ := slash_some hs
    rcases Nat.lt_trichotomy i k with g | g | g
    · exact absurd h (k3 i g)
    · rw [g]
    · exact absurd k2 (h2 k g)
theorem slash_no {l : List UInt8} (h2 : ∀ j, j < l.length → l[j]? ≠ some 47) : slash l = none := by
  cases hs : slash l with
  | none => rfl
  | some k =>
    obtain ⟨k1, k2, _⟩ := slash_some hs
    exact absurd k2 (h2 k k1)
def numP (l : List UInt8) : Int × Bool := match numO l with
  | some n => (n, true)
  | none => (0, false)
def rP (l : List UInt8) : Int × Int × Bool := match slash l with
  | some i => ((numP (l.take i)).1, (numP (l.drop (i + 1))).1, (numP (l.take i)).2 && ((numP (l.drop (i + 1))).2 && (decide (1 < (numP (l.drop (i + 1))).1) && decide (checkQ (numP (l.take i)).1 (numP (l.drop (i + 1))).1 = 0))))
  | none => ((numP l).1, 1, (numP l).2)
end Go.Proofs
set_option linter.unusedSimpArgs false
set_option maxRecDepth 100000
namespace Go.Proofs
open Go.Hx Go.Lib
theorem dgt {u : Nat} (h : u < 10) : (UInt8.ofNat (48 + u)).toNat = 48 + u := by
  rw [UInt8.toNat_ofNat']; omega
theorem dd_small {u : Nat} (h : u < 10) : decDigits u = [UInt8.ofNat (48 + u)] := decDigits_one h
theorem dd_big {u : Nat} (h : ¬ u < 10) : decDigits u = decDigits (u / 10) ++ [UInt8.ofNat (48 + u % 10)] := by
  rw [decDigits, dif_neg h]
theorem dd_val (u : Nat) : decV (decDigits u) = u := by
  induction u using Nat.strongRecOn with
  | _ u ih =>
    by_cases h : u < 10
    · rw [dd_small h]
      show 10 * 0 + ((UInt8.ofNat (48 + u)).toNat - 48) = u
      rw [dgt h]; omega
    · rw [dd_big h, decV_snoc, ih (u / 10) (by omega), dgt (by omega)]; omega
theorem dd_all (u : Nat) : (decDigits u).all digB = true := by
  have k : ∀ v, v < 10 → digB (UInt8.ofNat (48 + v)) = true := fun v hv => by
    unfold digB
    rw [dgt hv, decide_eq_true (by omega), decide_eq_true (by omega)]; rfl
  induction u using Nat.strongRecOn with
  | _ u ih =>
    by_cases h : u < 10
    · rw [dd_small h, List.all_cons, List.all_nil, Bool.and_true]; exact k u h
    · rw [dd_big h, List.all_append, ih (u / 10) (by omega), List.all_cons, List.all_nil, Bool.and_true, Bool.true_and]; exact k (u % 10) (by omega)
theorem dd_ne (u : Nat) : decDigits u ≠ [] := by
  by_cases h : u < 10
  · rw [dd_small h]; simp
  · rw [dd_big h]; simp
theorem dd_len (k : Nat) : ∀ u, u < 10 ^ (k + 1) → (decDigits u).length ≤ k + 1 := by
  induction k with
  | zero => intro u hu; rw [dd_small (by simpa using hu)]; simp
  | succ k ih =>
    intro u hu
    by_cases h : u < 10
    · rw [dd_small h]; simp
    · rw [dd_big h, List.length_append]
      have := ih (u / 10) (by rw [Nat.pow_succ] at hu; omega)
      simp; omega
theorem dd_head (u : Nat) (hu : u ≠ 0) : (decDigits u).head? ≠ some 48 := by
  induction u using Nat.strongRecOn with
  | _ u ih =>
    by_cases h : u < 10
    · rw [dd_small h]
      intro e
      have e2 : UInt8.ofNat (48 + u) = 48 := by simpa using e
      have := congrArg UInt8.toNat e2
      rw [dgt h] at this
      have k : (48 : UInt8).toNat = 48 := rfl
      omega
    · rw [dd_big h, List.head?_append]
      have := ih (u / 10) (by omega) (by omega)
      cases hh : (decDigits (u / 10)).head? with
      | none => rw [List.head?_eq_none_iff] at hh; exact absurd hh (dd_ne _)
      | some b => rw [hh] at this; simpa using this
theorem dd_part {u : Nat} (h : u ≤ 4611686018427387903) : part (decDigits u) = some u := by
  have hl : (decDigits u).length ≤ 19 := dd_len 18 u (Nat.lt_of_le_of_lt h (by decide))
  have ok : okL (decDigits u) = true := by
    unfold okL
    rw [decide_eq_false (dd_ne u), decide_eq_false (by omega)]
    by_cases h0 : u = 0
    · subst h0; rw [dd_small (by omega)]; decide
    · rw [decide_eq_false (dd_head u h0)]; rfl
  have := part_good ok (dd_all u) (by rw [dd_val]; exact h)
  rw [dd_val] at this
  exact this
theorem dd_no (u : Nat) {c : UInt8} (hc : digB c = false) : ∀ j : Nat, (decDigits u)[j]? ≠ some c := fun j h => by
  have h1 := dd_all u
  rw [List.all_eq_true] at h1
  rw [h1 c (List.mem_of_getElem? h)] at hc
  cases hc
theorem slash_dd (u : Nat) : slash (decDigits u) = none := slash_no fun j _ => dd_no u (by decide) j
theorem slash_cat (u : Nat) (r : List UInt8) : slash (decDigits u ++ 47 :: r) = some (decDigits u).length := slash_of (by simp) fun j hj => by
  rw [List.getElem?_append_left hj]
  exact dd_no u (by decide) j
theorem dd_head45 (u : Nat) : (decDigits u).head? ≠ some 45 := fun h => dd_no u (c := 45) (by decide) 0 (by rw [← List.head?_eq_getElem?]; exact h)
theorem itoa_neg' {n : Int} (h : n < 0) : itoa n = 45 :: decDigits n.natAbs := by unfold itoa; rw [if_pos h]
theorem itoa_pos' {n : Int} (h : ¬ n < 0) : itoa n = decDigits n.natAbs := by unfold itoa; rw [if_neg h]; congr 1; omega
theorem itoa_len {n : Int} (h : I64 n) : (itoa n).length ≤ 21 := by
  have := dd_len 19 n.natAbs (by have : (10 : Nat) ^ 20 = 100000000000000000000 := by decide
                                 have := h.1; have := h.2; omega)
  unfold itoa
  split
  · simp; omega
  · have e : n.toNat = n.natAbs := by omega
    rw [e]; omega
def tail2 (d : Int) : List UInt8 := if d = 1 then [] else 47 :: itoa d
def textL (n d : Int) : List UInt8 := itoa n ++ tail2 d
theorem neg_cat (n : Int) (r : List UInt8) : negS (itoa n ++ r) = decide (n < 0) ∧ restS (itoa n ++ r) = decDigits n.natAbs ++ r := by
  unfold negS restS
  by_cases h : n < 0
  · rw [itoa_neg' h]; simp [h]
  · rw [itoa_pos' h]
    have h2 : (decDigits n.natAbs ++ r).head? ≠ some 45 := by
      rw [List.head?_append]
      have := dd_head45 n.natAbs
      cases hh : (decDigits n.natAbs).head? with
      | none => rw [List.head?_eq_none_iff] at hh; exact absurd hh (dd_ne _)
      | some b => rw [hh] at this; simpa using this
    rw [if_neg h2, decide_eq_false h2, decide_eq_false h]
    exact ⟨rfl, rfl⟩
/-- Parse of a text gives the fraction back. -/
theorem parse_text {n d : Int} (h : checkQ n d = 0) : parseO (textL n d) = some (n, d) := by
  obtain ⟨rn, rd, hg⟩ := checkQ_range h
  obtain ⟨D, hD⟩ : ∃ D : Nat, (D : Int) = d := ⟨d.natAbs, by omega⟩
  have e : ((n.natAbs : Nat) : Int) = if n < 0 then -n else n := by split <;> omega
  have ck : checkQ (n.natAbs : Int) d = 0 := checkQ_ok (by omega) rd (by simpa using checkQ_gcd h)
  obtain ⟨h1, h2⟩ := neg_cat n (tail2 d)
  have fin : ∀ sl : Bool, (sl = true → D ≠ 1) → (if ((sl = true ∧ D = 1) ∨ (decide (n < 0) = true ∧ n.natAbs = 0) ∨ checkQ (n.natAbs : Int) (D : Int) ≠ 0) then none else some (if decide (n < 0) = true then -(n.natAbs : Int) else n.natAbs, (D : Int))) = some (n, d) := fun sl hs => by
    rw [hD, ck, if_neg (by
      rintro (⟨a, b⟩ | ⟨a, b⟩ | a)
      · exact hs a b
      · have := of_decide_eq_true a; omega
      · exact a rfl)]
    by_cases hn : n < 0
    · rw [if_pos (decide_eq_true hn)]; congr 2; omega
    · rw [if_neg (by simpa using hn)]; congr 2; omega
  unfold parseO textL fstS sndS
  rw [h1, h2]
  unfold tail2
  by_cases hd1 : d = 1
  · rw [if_pos hd1, List.append_nil, slash_dd]
    simp only
    rw [dd_part (by omega), show part [49] = some 1 by decide]
    have e1 : D = 1 := by omega
    have := fin false (fun h => by cases h)
    rw [e1] at this
    exact this
  · rw [if_neg hd1, itoa_pos' (by omega), slash_cat]
    simp only [List.take_left', List.drop_append, Nat.add_sub_cancel_left]
    have e1 : List.drop ((decDigits n.natAbs).length + 1) (decDigits n.natAbs) = [] := List.drop_eq_nil_of_le (by omega)
    rw [e1, List.nil_append, List.drop_one, List.tail_cons, dd_part (by omega), dd_part (show d.natAbs ≤ 4611686018427387903 by omega)]
    have e2 : d.natAbs = D := by omega
    rw [e2]
    exact fin true (fun _ => by omega)
end Go.Proofs
set_option linter.unusedSimpArgs false
set_option maxRecDepth 100000
namespace Go.Proofs
open Go.Hx Go.Lib
end Go.Proofs
set_option linter.unusedSimpArgs false
set_option maxRecDepth 100000
namespace Go.Proofs
open Go.Hx Go.Lib
theorem itoa_ok (n : Int) (hn : I64 n) (H : AHeap) (K : ARes → AHeap → Prop) (hK : K (.ret (.lit (.string ⟨(itoa n).toArray⟩))) H) : ACall Tryd.prog G0 63 [.lit (.int .i64 n)] H K := itoa_spec n hn H K hK
theorem slash_lit {t : TypeId} {x y : Operand} {n : Int} (h : I64 n) : binA Tryd.prog .add t x y (.lit (.string ⟨(itoa n).toArray⟩)) (.lit (.string ⟨#[47]⟩)) = some (.lit (.string ⟨(itoa n ++ [47]).toArray⟩)) := by
  have := itoa_len h
  exact add_str (itoa n) [47] (by simp; omega)
theorem cat_lit {t : TypeId} {x y : Operand} {n d : Int} (h : I64 n) (h2 : I64 d) : binA Tryd.prog .add t x y (.lit (.string ⟨(itoa n ++ [47]).toArray⟩)) (.lit (.string ⟨(itoa d).toArray⟩)) = some (.lit (.string ⟨((itoa n ++ [47]) ++ itoa d).toArray⟩)) := by
  have := itoa_len h
  have := itoa_len h2
  exact add_str (itoa n ++ [47]) (itoa d) (by simp; omega)
theorem textL_one (n : Int) : textL n 1 = itoa n := by unfold textL tail2; rw [if_pos rfl, List.append_nil]
theorem textL_two (n d : Int) (h : d ≠ 1) : textL n d = itoa n ++ 47 :: itoa d := by unfold textL tail2; rw [if_neg h]
theorem ftext_spec (n d : Int) (hn : I64 n) (hd : I64 d) (H : AHeap) (K : ARes → AHeap → Prop) (hK : K (.ret (.tup [.lit (.string ⟨(if checkQ n d = 0 then textL n d else []).toArray⟩), .lit (.int .i64 (checkQ n d))])) H) : ACall Tryd.prog G0 33 [qV n d] H K := by
  refine ACall.clo ⟨_, Tryd.func33, rfl, rfl⟩ fun hcl => ?_
  refine ACall.of_body (n := 21) (rs := [.tmp 2, .tmp 3]) Tryd.func33 rfl rfl rfl (by decide) (by kernel_rfl) (by simp) ?_
  simp (config := { maxSteps := 1000000 }) only [go_sem, Int.reduceToNat, Int.reduceLE, Int.reduceLT, Int.reduceAdd, Int.reduceSub, Int.reduceMul, Int.reduceEq, Int.reduceNe, Nat.reduceEqDiff, Nat.reducePow, Nat.reduceDiv, Nat.reduceMod, Nat.reduceAdd, Nat.reduceMul, Nat.reduceSub, Nat.reduceLT, Nat.reduceLeDiff, reduceIte, reduceCtorEq, qV, appendA_U]
  refine AApply.clo (fcheck_spec n d hn hd _ _ ⟨trivial, ?_⟩)
  rcases checkQ_cases n d with hc | hc
  · rw [hc] at hK ⊢
    rw [if_pos rfl] at hK
    by_cases h1 : d = 1
    · subst h1
      rw [textL_one] at hK
      simp (config := { maxSteps := 1000000 }) only [go_sem, Int.reduceToNat, Int.reduceLE, Int.reduceLT, Int.reduceAdd, Int.reduceSub, Int.reduceMul, Int.reduceEq, Int.reduceNe, Nat.reduceEqDiff, Nat.reducePow, Nat.reduceDiv, Nat.reduceMod, Nat.reduceAdd, Nat.reduceMul, Nat.reduceSub, Nat.reduceLT, Nat.reduceLeDiff, reduceIte, reduceCtorEq, qV, appendA_U]
      refine AApply.clo (itoa_ok n hn _ _ ⟨trivial, ?_⟩)
      simp (config := { maxSteps := 1000000 }) only [go_sem, Int.reduceToNat, Int.reduceLE, Int.reduceLT, Int.reduceAdd, Int.reduceSub, Int.reduceMul, Int.reduceEq, Int.reduceNe, Nat.reduceEqDiff, Nat.reducePow, Nat.reduceDiv, Nat.reduceMod, Nat.reduceAdd, Nat.reduceMul, Nat.reduceSub, Nat.reduceLT, Nat.reduceLeDiff, reduceIte, reduceCtorEq, appendA_U]
      exact FinV.drop G0_ok hcl fz_s1 hK
    · rw [textL_two n d h1] at hK
      simp (config := { maxSteps := 1000000 }) only [go_sem, Int.reduceToNat, Int.reduceLE, Int.reduceLT, Int.reduceAdd, Int.reduceSub, Int.reduceMul, Int.reduceEq, Int.reduceNe, Nat.reduceEqDiff, Nat.reducePow, Nat.reduceDiv, Nat.reduceMod, Nat.reduceAdd, Nat.reduceMul, Nat.reduceSub, Nat.reduceLT, Nat.reduceLeDiff, reduceIte, reduceCtorEq, qV, h1, appendA_U]
      refine W.draw 7 [0, 1, 3, 7, 0, 16, 55] Tryd.mixed (by kernel_rfl) (by kernel_rfl) ?_
      simp (config := { maxSteps := 1000000 }) only [go_sem, Int.reduceToNat, Int.reduceLE, Int.reduceLT, Int.reduceAdd, Int.reduceSub, Int.reduceMul, Int.reduceEq, Int.reduceNe, Nat.reduceEqDiff, Nat.reducePow, Nat.reduceDiv, Nat.reduceMod, Nat.reduceAdd, Nat.reduceMul, Nat.reduceSub, Nat.reduceLT, Nat.reduceLeDiff, reduceIte, reduceCtorEq, qV, appendA_U]
      refine ⟨_, [], PCall.pure fun H2 => itoa_ok n hn H2 _ ⟨rfl, rfl⟩, ?_⟩
      simp (config := { maxSteps := 1000000 }) only [go_sem, Int.reduceToNat, Int.reduceLE, Int.reduceLT, Int.reduceAdd, Int.reduceSub, Int.reduceMul, Int.reduceEq, Int.reduceNe, Nat.reduceEqDiff, Nat.reducePow, Nat.reduceDiv, Nat.reduceMod, Nat.reduceAdd, Nat.reduceMul, Nat.reduceSub, Nat.reduceLT, Nat.reduceLeDiff, reduceIte, reduceCtorEq, slash_lit hn, appendA_U]
      refine ⟨_, [], PCall.pure fun H2 => itoa_ok d hd H2 _ ⟨rfl, rfl⟩, ?_⟩
      simp (config := { maxSteps := 1000000 }) only [go_sem, Int.reduceToNat, Int.reduceLE, Int.reduceLT, Int.reduceAdd, Int.reduceSub, Int.reduceMul, Int.reduceEq, Int.reduceNe, Nat.reduceEqDiff, Nat.reducePow, Nat.reduceDiv, Nat.reduceMod, Nat.reduceAdd, Nat.reduceMul, Nat.reduceSub, Nat.reduceLT, Nat.reduceLeDiff, reduceIte, reduceCtorEq, cat_lit hn hd, appendA_U]
      exact FinV.drop G0_ok hcl fz_s1 hK
  · rw [hc] at hK ⊢
    rw [if_neg (by decide)] at hK
    simp (config := { maxSteps := 1000000 }) only [go_sem, Int.reduceToNat, Int.reduceLE, Int.reduceLT, Int.reduceAdd, Int.reduceSub, Int.reduceMul, Int.reduceEq, Int.reduceNe, Nat.reduceEqDiff, Nat.reducePow, Nat.reduceDiv, Nat.reduceMod, Nat.reduceAdd, Nat.reduceMul, Nat.reduceSub, Nat.reduceLT, Nat.reduceLeDiff, reduceIte, reduceCtorEq, qV, appendA_U]
    exact FinV.drop G0_ok hcl fz_s1 hK
end Go.Proofs
set_option linter.unusedSimpArgs false
set_option maxRecDepth 100000
namespace Go.Proofs
open Go.Hx Go.Lib
theorem parseV_text {n d : Int} (h : checkQ n d = 0) : parseV (textL n d) = .tup [.agg [.lit (.int .i64 n), .lit (.int .i64 d)], .lit (.int .i64 0)] := by
  unfold parseV
  rw [parse_text h]
  rfl
theorem textL_len {n d : Int} (hn : I64 n) (hd : I64 d) : (textL n d).length ≤ 43 := by
  have := itoa_len hn
  have := itoa_len hd
  unfold textL tail2
  split <;> simp <;> omega
/-- The sign of a fraction that Make gives. -/
theorem make_sign {n d x y : Int} (hd : d ≠ 0) (h1 : checkQ x y = 0) (h2 : rv x y = rv n d) : (decide (x < 0) == (decide (¬ n = 0) && !(decide (n < 0) == decide (d < 0)))) = true := by
  obtain ⟨_, ry, _⟩ := checkQ_range h1
  have c := (rv_cross (by omega) hd).1 h2
  have key : x < 0 ↔ (¬ n = 0 ∧ ¬ (n < 0 ↔ d < 0)) := by
    rcases Int.lt_or_lt_of_ne hd with hd' | hd'
    · constructor
      · intro hx
        have := Int.mul_pos_of_neg_of_neg hx hd'
        rw [c] at this
        have hn : 0 < n := by
          rcases Int.lt_or_le 0 n with g | g
          · exact g
          · have := Int.mul_nonneg (show 0 ≤ -n by omega) (show 0 ≤ y by omega)
            rw [Int.neg_mul] at this; omega
        omega
      · rintro ⟨a, b⟩
        have hn : 0 < n := by omega
        have := Int.mul_pos hn (show 0 < y by omega)
        rw [← c] at this
        rcases Int.lt_or_le x 0 with g | g
        · exact g
        · have := Int.mul_nonneg g (show 0 ≤ -d by omega)
          rw [Int.mul_neg] at this; omega
    · constructor
      · intro hx
        have := Int.mul_neg_of_neg_of_pos hx hd'
        rw [c] at this
        have hn : n < 0 := by
          rcases Int.lt_or_le n 0 with g | g
          · exact g
          · have := Int.mul_nonneg g (show 0 ≤ y by omega); omega
        omega
      · rintro ⟨a, b⟩
        have hn : n < 0 := by omega
        have := Int.mul_neg_of_neg_of_pos hn (show 0 < y by omega)
        rw [← c] at this
        rcases Int.lt_or_le x 0 with g | g
        · exact g
        · have := Int.mul_nonneg g (show 0 ≤ d by omega); omega
  by_cases a : x < 0 <;> by_cases b : n = 0 <;> by_cases e : n < 0 <;> by_cases g : d < 0 <;> simp [a, b, e, g] at key ⊢
theorem big_make {n d : Int} (hd : d ≠ 0) (h1 : n.natAbs ≤ 4611686018427387903) (h2 : d.natAbs ≤ 4611686018427387903) : ∃ x y, makeR n d = .tup [qV x y, .lit (.int .i64 0)] ∧ checkQ x y = 0 ∧ rv x y = rv n d := by
  obtain ⟨x, y, h⟩ := fit_some (S := sgnB n d) (T := n.natAbs) (D := d.natAbs) h1 h2
  have hm : makeO n d = some (qV x y) := h
  refine ⟨x, y, ?_, make_val hd hm⟩
  unfold makeR
  rw [if_neg hd, hm]
  rfl
set_option maxHeartbeats 2000000 in
theorem back_spec (n d k : Int) (hn : I64 n) (hd : I64 d) (hk : I16 k) (H : AHeap) (K : ARes → AHeap → Prop) (hK : K (.ret (.lit (.bool true))) H) : ACall Tryd.prog G0 9 [.lit (.int .i64 n), .lit (.int .i64 d), .lit (.int .i16 k)] H K := by
  refine ACall.clo ⟨_, Tryd.func9, rfl, rfl⟩ fun hcl => ?_
  refine ACall.of_body (n := 121) (rs := [.tmp 6]) Tryd.func9 rfl rfl rfl (by decide) (by kernel_rfl) (by simp) ?_
  simp (config := { maxSteps := 1000000 }) only [go_sem, Int.reduceToNat, Int.reduceLE, Int.reduceLT, Int.reduceAdd, Int.reduceSub, Int.reduceMul, Int.reduceEq, Int.reduceNe, Nat.reduceEqDiff, Nat.reducePow, Nat.reduceDiv, Nat.reduceMod, Nat.reduceAdd, Nat.reduceMul, Nat.reduceSub, Nat.reduceLT, Nat.reduceLeDiff, reduceIte, reduceCtorEq, appendA_U]
  refine AApply.clo (works_ok _ _ ⟨trivial, ?_⟩)
  simp (config := { maxSteps := 1000000 }) only [go_sem, Int.reduceToNat, Int.reduceLE, Int.reduceLT, Int.reduceAdd, Int.reduceSub, Int.reduceMul, Int.reduceEq, Int.reduceNe, Nat.reduceEqDiff, Nat.reducePow, Nat.reduceDiv, Nat.reduceMod, Nat.reduceAdd, Nat.reduceMul, Nat.reduceSub, Nat.reduceLT, Nat.reduceLeDiff, reduceIte, reduceCtorEq, appendA_U]
  refine AApply.clo (make_spec n d hn hd _ _ ⟨trivial, ?_⟩)
  by_cases hd0 : d = 0
  · unfold makeR
    rw [if_pos hd0]
    simp (config := { maxSteps := 1000000 }) only [go_sem, Int.reduceToNat, Int.reduceLE, Int.reduceLT, Int.reduceAdd, Int.reduceSub, Int.reduceMul, Int.reduceEq, Int.reduceNe, Nat.reduceEqDiff, Nat.reducePow, Nat.reduceDiv, Nat.reduceMod, Nat.reduceAdd, Nat.reduceMul, Nat.reduceSub, Nat.reduceLT, Nat.reduceLeDiff, reduceIte, reduceCtorEq, qV, hd0, guardA_undef, appendA_U]
    exact FinV.drop G0_ok hcl (.lit _) hK
  rcases make_out (n := n) hd0 with ⟨e1, _⟩ | ⟨x, y, e1, _, cq, vq⟩
  · rw [e1]
    simp (config := { maxSteps := 1000000 }) only [go_sem, Int.reduceToNat, Int.reduceLE, Int.reduceLT, Int.reduceAdd, Int.reduceSub, Int.reduceMul, Int.reduceEq, Int.reduceNe, Nat.reduceEqDiff, Nat.reducePow, Nat.reduceDiv, Nat.reduceMod, Nat.reduceAdd, Nat.reduceMul, Nat.reduceSub, Nat.reduceLT, Nat.reduceLeDiff, reduceIte, reduceCtorEq, qV, hd0, guardA_undef, appendA_U]
    exact FinV.drop G0_ok hcl (.lit _) hK
  rw [e1]
  simp (config := { maxSteps := 1000000 }) only [go_sem, Int.reduceToNat, Int.reduceLE, Int.reduceLT, Int.reduceAdd, Int.reduceSub, Int.reduceMul, Int.reduceEq, Int.reduceNe, Nat.reduceEqDiff, Nat.reducePow, Nat.reduceDiv, Nat.reduceMod, Nat.reduceAdd, Nat.reduceMul, Nat.reduceSub, Nat.reduceLT, Nat.reduceLeDiff, reduceIte, reduceCtorEq, qV, guardA_undef, appendA_U]
  obtain ⟨rx, ry, _⟩ := checkQ_range cq
  have ix : I64 x := by unfold I64; omega
  have iy : I64 y := by unfold I64; omega
  have ft := ftext_spec x y ix iy
  rw [if_pos cq, cq] at ft
  refine AApply.clo (ft _ _ ⟨trivial, ?_⟩)
  simp (config := { maxSteps := 1000000 }) only [go_sem, Int.reduceToNat, Int.reduceLE, Int.reduceLT, Int.reduceAdd, Int.reduceSub, Int.reduceMul, Int.reduceEq, Int.reduceNe, Nat.reduceEqDiff, Nat.reducePow, Nat.reduceDiv, Nat.reduceMod, Nat.reduceAdd, Nat.reduceMul, Nat.reduceSub, Nat.reduceLT, Nat.reduceLeDiff, reduceIte, reduceCtorEq, qV, guardA_undef, appendA_U]
  have fc := fcheck_spec x y ix iy
  rw [cq] at fc
  refine AApply.clo (fc _ _ ⟨trivial, ?_⟩)
  simp (config := { maxSteps := 1000000 }) only [go_sem, Int.reduceToNat, Int.reduceLE, Int.reduceLT, Int.reduceAdd, Int.reduceSub, Int.reduceMul, Int.reduceEq, Int.reduceNe, Nat.reduceEqDiff, Nat.reducePow, Nat.reduceDiv, Nat.reduceMod, Nat.reduceAdd, Nat.reduceMul, Nat.reduceSub, Nat.reduceLT, Nat.reduceLeDiff, reduceIte, reduceCtorEq, qV, guardA_undef, appendA_U]
  refine AApply.clo (is_ok x y _ _ ⟨trivial, ?_⟩)
  simp (config := { maxSteps := 1000000 }) only [go_sem, Int.reduceToNat, Int.reduceLE, Int.reduceLT, Int.reduceAdd, Int.reduceSub, Int.reduceMul, Int.reduceEq, Int.reduceNe, Nat.reduceEqDiff, Nat.reducePow, Nat.reduceDiv, Nat.reduceMod, Nat.reduceAdd, Nat.reduceMul, Nat.reduceSub, Nat.reduceLT, Nat.reduceLeDiff, reduceIte, reduceCtorEq, qV, guardA_undef, appendA_U]
  have fp := fparse_spec (textL x y) (by have := textL_len ix iy; omega)
  rw [parseV_text cq] at fp
  refine AApply.clo (fp _ _ ⟨trivial, ?_⟩)
  simp (config := { maxSteps := 1000000 }) only [go_sem, Int.reduceToNat, Int.reduceLE, Int.reduceLT, Int.reduceAdd, Int.reduceSub, Int.reduceMul, Int.reduceEq, Int.reduceNe, Nat.reduceEqDiff, Nat.reducePow, Nat.reduceDiv, Nat.reduceMod, Nat.reduceAdd, Nat.reduceMul, Nat.reduceSub, Nat.reduceLT, Nat.reduceLeDiff, reduceIte, reduceCtorEq, qV, guardA_undef, appendA_U]
  refine AApply.clo (is1_ok x y _ _ ⟨trivial, ?_⟩)
  have y1 : ¬ y < 1 := by omega
  have sg := make_sign hd0 cq vq
  have tb : ∀ z : Int, -1099511627776 < z.tmod 1099511627776 ∧ z.tmod 1099511627776 < 1099511627776 := fun z => by
    have h1 := Int.natAbs_tmod z 1099511627776
    have h2 := Nat.mod_lt z.natAbs (show 0 < (1099511627776 : Int).natAbs by decide)
    have h3 : (1099511627776 : Int).natAbs = 1099511627776 := rfl
    rw [h3] at h1 h2
    omega
  have b1 := tb n
  have b2 := tb d
  have w1 := IntWalk.i64_in (n.tmod 1099511627776) (by omega)
  have w2 := IntWalk.i64_in (d.tmod 1099511627776) (by omega)
  clear tb
  by_cases hn0 : n = 0
  · subst hn0
    have x0 : ¬ x < 0 := fun h => by
      rw [decide_eq_true h] at sg
      simp at sg
    obtain ⟨X, hX⟩ : ∃ X, X = (0 : Int).tmod 1099511627776 := ⟨_, rfl⟩
    obtain ⟨Y, hY⟩ : ∃ Y, Y = d.tmod 1099511627776 := ⟨_, rfl⟩
    rw [← hX] at b1 w1
    rw [← hY] at b2 w2
    have hX' := hX.symm
    have hY' := hY.symm
    by_cases hy0 : Y = 0
    · simp (config := { maxSteps := 1000000 }) only [go_sem, Int.reduceToNat, Int.reduceLE, Int.reduceLT, Int.reduceAdd, Int.reduceSub, Int.reduceMul, Int.reduceEq, Int.reduceNe, Nat.reduceEqDiff, Nat.reducePow, Nat.reduceDiv, Nat.reduceMod, Nat.reduceAdd, Nat.reduceMul, Nat.reduceSub, Nat.reduceLT, Nat.reduceLeDiff, reduceIte, reduceCtorEq, qV, guardA_undef, y1, x0, bin_neq_bool Tryd.underlying4, hX', hY', w1, w2, hy0, appendA_U]
      exact FinV.drop G0_ok hcl (.lit _) hK
    by_cases hk0 : k = 0
    · simp (config := { maxSteps := 1000000 }) only [go_sem, Int.reduceToNat, Int.reduceLE, Int.reduceLT, Int.reduceAdd, Int.reduceSub, Int.reduceMul, Int.reduceEq, Int.reduceNe, Nat.reduceEqDiff, Nat.reducePow, Nat.reduceDiv, Nat.reduceMod, Nat.reduceAdd, Nat.reduceMul, Nat.reduceSub, Nat.reduceLT, Nat.reduceLeDiff, reduceIte, reduceCtorEq, qV, guardA_undef, y1, x0, bin_neq_bool Tryd.underlying4, hX', hY', w1, w2, hy0, hk0, appendA_U]
      exact FinV.drop G0_ok hcl (.lit _) hK
    simp (config := { maxSteps := 1000000 }) only [go_sem, Int.reduceToNat, Int.reduceLE, Int.reduceLT, Int.reduceAdd, Int.reduceSub, Int.reduceMul, Int.reduceEq, Int.reduceNe, Nat.reduceEqDiff, Nat.reducePow, Nat.reduceDiv, Nat.reduceMod, Nat.reduceAdd, Nat.reduceMul, Nat.reduceSub, Nat.reduceLT, Nat.reduceLeDiff, reduceIte, reduceCtorEq, qV, guardA_undef, y1, x0, bin_neq_bool Tryd.underlying4, hX', hY', w1, w2, hy0, hk0, appendA_U]
    refine AApply.clo (make_spec X Y (by omega) (by omega) _ _ ⟨trivial, ?_⟩)
    obtain ⟨p, q, e2, cp, vp⟩ := big_make (n := X) (d := Y) hy0 (by omega) (by omega)
    rw [e2]
    simp (config := { maxSteps := 1000000 }) only [go_sem, Int.reduceToNat, Int.reduceLE, Int.reduceLT, Int.reduceAdd, Int.reduceSub, Int.reduceMul, Int.reduceEq, Int.reduceNe, Nat.reduceEqDiff, Nat.reducePow, Nat.reduceDiv, Nat.reduceMod, Nat.reduceAdd, Nat.reduceMul, Nat.reduceSub, Nat.reduceLT, Nat.reduceLeDiff, reduceIte, reduceCtorEq, qV, guardA_undef, appendA_U]
    refine AApply.clo (is_ok p q _ _ ⟨trivial, ?_⟩)
    have bk : k.natAbs ≤ 32768 := by unfold I16 at hk; omega
    have m1 : (X * k).natAbs ≤ 1099511627776 * 32768 := by rw [Int.natAbs_mul]; exact Nat.mul_le_mul (by omega) bk
    have m2 : (Y * k).natAbs ≤ 1099511627776 * 32768 := by rw [Int.natAbs_mul]; exact Nat.mul_le_mul (by omega) bk
    have w3 := IntWalk.i64_in k (by omega)
    have w4 := IntWalk.i64_in (X * k) (by omega)
    have w5 := IntWalk.i64_in (Y * k) (by omega)
    have yk : Y * k ≠ 0 := Int.mul_ne_zero hy0 hk0
    simp (config := { maxSteps := 1000000 }) only [go_sem, Int.reduceToNat, Int.reduceLE, Int.reduceLT, Int.reduceAdd, Int.reduceSub, Int.reduceMul, Int.reduceEq, Int.reduceNe, Nat.reduceEqDiff, Nat.reducePow, Nat.reduceDiv, Nat.reduceMod, Nat.reduceAdd, Nat.reduceMul, Nat.reduceSub, Nat.reduceLT, Nat.reduceLeDiff, reduceIte, reduceCtorEq, qV, guardA_undef, w3, w4, w5, appendA_U]
    refine AApply.clo (make_spec (X * k) (Y * k) (by omega) (by omega) _ _ ⟨trivial, ?_⟩)
    obtain ⟨p', q', e3, cp', vp'⟩ := big_make (n := X * k) (d := Y * k) yk (by omega) (by omega)
    have ev : rv (X * k) (Y * k) = rv X Y := by
      rw [rv_cross yk hy0]
      grind
    obtain ⟨r1, r2⟩ := rv_inj cp' cp (by rw [vp', vp, ev])
    subst r1 r2
    rw [e3]
    simp (config := { maxSteps := 1000000 }) only [go_sem, Int.reduceToNat, Int.reduceLE, Int.reduceLT, Int.reduceAdd, Int.reduceSub, Int.reduceMul, Int.reduceEq, Int.reduceNe, Nat.reduceEqDiff, Nat.reducePow, Nat.reduceDiv, Nat.reduceMod, Nat.reduceAdd, Nat.reduceMul, Nat.reduceSub, Nat.reduceLT, Nat.reduceLeDiff, reduceIte, reduceCtorEq, qV, guardA_undef, appendA_U]
    refine AApply.clo (is1_ok p' q' _ _ ⟨trivial, ?_⟩)
    simp (config := { maxSteps := 1000000 }) only [go_sem, Int.reduceToNat, Int.reduceLE, Int.reduceLT, Int.reduceAdd, Int.reduceSub, Int.reduceMul, Int.reduceEq, Int.reduceNe, Nat.reduceEqDiff, Nat.reducePow, Nat.reduceDiv, Nat.reduceMod, Nat.reduceAdd, Nat.reduceMul, Nat.reduceSub, Nat.reduceLT, Nat.reduceLeDiff, reduceIte, reduceCtorEq, qV, guardA_undef, appendA_U]
    exact FinV.drop G0_ok hcl (.lit _) hK
  · have sg' : (decide (x < 0) == !(decide (n < 0) == decide (d < 0))) = true := by simpa [hn0] using sg
    obtain ⟨X, hX⟩ : ∃ X, X = (n : Int).tmod 1099511627776 := ⟨_, rfl⟩
    obtain ⟨Y, hY⟩ : ∃ Y, Y = d.tmod 1099511627776 := ⟨_, rfl⟩
    rw [← hX] at b1 w1
    rw [← hY] at b2 w2
    have hX' := hX.symm
    have hY' := hY.symm
    by_cases hy0 : Y = 0
    · simp (config := { maxSteps := 1000000 }) only [go_sem, Int.reduceToNat, Int.reduceLE, Int.reduceLT, Int.reduceAdd, Int.reduceSub, Int.reduceMul, Int.reduceEq, Int.reduceNe, Nat.reduceEqDiff, Nat.reducePow, Nat.reduceDiv, Nat.reduceMod, Nat.reduceAdd, Nat.reduceMul, Nat.reduceSub, Nat.reduceLT, Nat.reduceLeDiff, reduceIte, reduceCtorEq, qV, guardA_undef, y1, hn0, bin_neq_bool Tryd.underlying4, sg', hX', hY', w1, w2, hy0, appendA_U]
      exact FinV.drop G0_ok hcl (.lit _) hK
    by_cases hk0 : k = 0
    · simp (config := { maxSteps := 1000000 }) only [go_sem, Int.reduceToNat, Int.reduceLE, Int.reduceLT, Int.reduceAdd, Int.reduceSub, Int.reduceMul, Int.reduceEq, Int.reduceNe, Nat.reduceEqDiff, Nat.reducePow, Nat.reduceDiv, Nat.reduceMod, Nat.reduceAdd, Nat.reduceMul, Nat.reduceSub, Nat.reduceLT, Nat.reduceLeDiff, reduceIte, reduceCtorEq, qV, guardA_undef, y1, hn0, bin_neq_bool Tryd.underlying4, sg', hX', hY', w1, w2, hy0, hk0, appendA_U]
      exact FinV.drop G0_ok hcl (.lit _) hK
    simp (config := { maxSteps := 1000000 }) only [go_sem, Int.reduceToNat, Int.reduceLE, Int.reduceLT, Int.reduceAdd, Int.reduceSub, Int.reduceMul, Int.reduceEq, Int.reduceNe, Nat.reduceEqDiff, Nat.reducePow, Nat.reduceDiv, Nat.reduceMod, Nat.reduceAdd, Nat.reduceMul, Nat.reduceSub, Nat.reduceLT, Nat.reduceLeDiff, reduceIte, reduceCtorEq, qV, guardA_undef, y1, hn0, bin_neq_bool Tryd.underlying4, sg', hX', hY', w1, w2, hy0, hk0, appendA_U]
    refine AApply.clo (make_spec X Y (by omega) (by omega) _ _ ⟨trivial, ?_⟩)
    obtain ⟨p, q, e2, cp, vp⟩ := big_make (n := X) (d := Y) hy0 (by omega) (by omega)
    rw [e2]
    simp (config := { maxSteps := 1000000 }) only [go_sem, Int.reduceToNat, Int.reduceLE, Int.reduceLT, Int.reduceAdd, Int.reduceSub, Int.reduceMul, Int.reduceEq, Int.reduceNe, Nat.reduceEqDiff, Nat.reducePow, Nat.reduceDiv, Nat.reduceMod, Nat.reduceAdd, Nat.reduceMul, Nat.reduceSub, Nat.reduceLT, Nat.reduceLeDiff, reduceIte, reduceCtorEq, qV, guardA_undef, appendA_U]
    refine AApply.clo (is_ok p q _ _ ⟨trivial, ?_⟩)
    have bk : k.natAbs ≤ 32768 := by unfold I16 at hk; omega
    have m1 : (X * k).natAbs ≤ 1099511627776 * 32768 := by rw [Int.natAbs_mul]; exact Nat.mul_le_mul (by omega) bk
    have m2 : (Y * k).natAbs ≤ 1099511627776 * 32768 := by rw [Int.natAbs_mul]; exact Nat.mul_le_mul (by omega) bk
    have w3 := IntWalk.i64_in k (by omega)
    have w4 := IntWalk.i64_in (X * k) (by omega)
    have w5 := IntWalk.i64_in (Y * k) (by omega)
    have yk : Y * k ≠ 0 := Int.mul_ne_zero hy0 hk0
    simp (config := { maxSteps := 1000000 }) only [go_sem, Int.reduceToNat, Int.reduceLE, Int.reduceLT, Int.reduceAdd, Int.reduceSub, Int.reduceMul, Int.reduceEq, Int.reduceNe, Nat.reduceEqDiff, Nat.reducePow, Nat.reduceDiv, Nat.reduceMod, Nat.reduceAdd, Nat.reduceMul, Nat.reduceSub, Nat.reduceLT, Nat.reduceLeDiff, reduceIte, reduceCtorEq, qV, guardA_undef, w3, w4, w5, appendA_U]
    refine AApply.clo (make_spec (X * k) (Y * k) (by omega) (by omega) _ _ ⟨trivial, ?_⟩)
    obtain ⟨p', q', e3, cp', vp'⟩ := big_make (n := X * k) (d := Y * k) yk (by omega) (by omega)
    have ev : rv (X * k) (Y * k) = rv X Y := by
      rw [rv_cross yk hy0]
      grind
    obtain ⟨r1, r2⟩ := rv_inj cp' cp (by rw [vp', vp, ev])
    subst r1 r2
    rw [e3]
    simp (config := { maxSteps := 1000000 }) only [go_sem, Int.reduceToNat, Int.reduceLE, Int.reduceLT, Int.reduceAdd, Int.reduceSub, Int.reduceMul, Int.reduceEq, Int.reduceNe, Nat.reduceEqDiff, Nat.reducePow, Nat.reduceDiv, Nat.reduceMod, Nat.reduceAdd, Nat.reduceMul, Nat.reduceSub, Nat.reduceLT, Nat.reduceLeDiff, reduceIte, reduceCtorEq, qV, guardA_undef, appendA_U]
    refine AApply.clo (is1_ok p' q' _ _ ⟨trivial, ?_⟩)
    simp (config := { maxSteps := 1000000 }) only [go_sem, Int.reduceToNat, Int.reduceLE, Int.reduceLT, Int.reduceAdd, Int.reduceSub, Int.reduceMul, Int.reduceEq, Int.reduceNe, Nat.reduceEqDiff, Nat.reducePow, Nat.reduceDiv, Nat.reduceMod, Nat.reduceAdd, Nat.reduceMul, Nat.reduceSub, Nat.reduceLT, Nat.reduceLeDiff, reduceIte, reduceCtorEq, qV, guardA_undef, appendA_U]
    exact FinV.drop G0_ok hcl (.lit _) hK
end Go.Proofs
