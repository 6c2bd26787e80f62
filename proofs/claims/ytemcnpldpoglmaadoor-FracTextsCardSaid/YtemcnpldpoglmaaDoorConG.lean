/- Own work: contracts. -/
import Derived.Test.YtemcnpldpoglmaaDoorConB
import Derived.Test.YtemcnpldpoglmaaDoorConF
import Derived.Test.YtemcnpldpoglmaaDoorConE
set_option linter.all false
set_option linter.unusedSimpArgs false
set_option maxRecDepth 100000
namespace Go.Hx
variable {P : Program} {G : Nat → Option (List AVal)}
/-- A world that has new blocks behind the heap. -/
theorem kit_grow {Γ : Gam} {H : AHeap} {w w' : World} (R : RelH P G Γ H w) (hw : ∃ k os, w' = Go.Sort.grow (w.drewN k) os) : Evo Γ H w Γ H w' ∧ RelH P G Γ H w' := by
  obtain ⟨k, os, rfl⟩ := hw
  have hk : ∀ b, b < w.heap.size → (Go.Sort.grow (w.drewN k) os).heap[b]? = w.heap[b]? := fun b hb => by
    show ((w.drewN k).heap ++ os)[b]? = _
    rw [Array.getElem?_append_left (by exact hb)]
    rfl
  refine grow_evo rfl rfl rfl ?_ hk (fun a ha => ?_) R
  · simp only [Go.Sort.size_grow]; exact Nat.le_add_right _ _
  · unfold World.frozen?; rw [hk _ ha]
theorem ACall.kit {f : FuncId} {args : List AVal} {H : AHeap} {K : ARes → AHeap → Prop} {v : Value} (hf : ∃ fn, P.funcs[f]? = some fn ∧ fn.body.isNone = false ∧ (fn.name == "runtime.NumGoroutine") = false)
    (hc : ∀ Γ w cargs, RelH P G Γ H w → RelL P Γ H w args cargs → Calls P f cargs w fun e w' => e = .returned v ∧ ∃ k os, w' = Go.Sort.grow (w.drewN k) os) (hK : K (.ret (.lit v)) H) : ACall P G f args H K := by
  refine ⟨hf, fun Γ w cargs R hr => callsIn_wide.2 ((hc Γ w cargs R hr).mono ?_)⟩
  rintro e w' ⟨rfl, hw⟩
  exact ⟨.ret (.lit v), H, Γ, .lit v, hK, (kit_grow R hw).2, (kit_grow R hw).1, Nat.le_refl _⟩
theorem lit_inv {Γ : Gam} {H : AHeap} {w : World} {v cv : Value} (h : RelV P Γ H w (.lit v) cv) : cv = v := by cases h; rfl
theorem tabIs_of_rel {Γ : Gam} {H : AHeap} {w : World} {name : String} {g : Nat} {k : IntKind} {zs : List Int} (hg : P.globalNamed name = some g) (hG : G g = some (zs.map fun z => .lit (.int k z))) (R : RelH P G Γ H w) : Go.Lib.TabIs P w name k zs := by
  obtain ⟨c, e, f, hc, hsz⟩ := R.gsz g _ hG
  have hrel := R.glob g _ hG
  unfold Go.Lib.TabIs World.var?
  rw [hg]
  simp only [Option.bind_some, hc, Option.some.injEq]
  generalize hcv : Value.pointer (some ⟨g, 0, none⟩) = cv at hrel
  generalize hav : AVal.vptr (zs.map fun z => AVal.lit (.int k z)) 0 = av at hrel
  cases hrel with
  | @vptr cells off b o cs hb hlt hcs hcell hr =>
    simp only [AVal.vptr.injEq] at hav
    obtain ⟨hc1, rfl⟩ := hav
    simp only [Value.pointer.injEq, Option.some.injEq, Addr.mk.injEq, Nat.add_zero] at hcv
    obtain ⟨rfl, rfl, _⟩ := hcv
    subst hc1
    have hl : cs.length = zs.length := by simpa using hcs
    apply Array.ext
    · simpa using hsz
    · intro i h1 h2
      have hi : i < zs.length := by simpa using h2
      have e1 := hcell i (by omega)
      simp only [Nat.zero_add, World.cell?, hc] at e1
      have e2 : cs[i] = .int k zs[i] := by
        have e2' := hr i (by simpa using hi) (by omega)
        rw [List.getElem_map] at e2'
        exact lit_inv e2'
      have e3 : c[i]? = some cs[i] := by simpa using e1
      rw [Array.getElem?_eq_getElem h1] at e3
      have e4 : c[i] = cs[i] := Option.some.inj e3
      rw [e4, e2]
      simp
  | _ => cases hav
end Go.Hx
namespace Go.Proofs
open Go.Hx
def strV (l : List UInt8) : AVal := .lit (.string ⟨l.toArray⟩)
theorem itoa_spec (n : Int) (hn : -9223372036854775808 ≤ n ∧ n ≤ 9223372036854775807) (H : AHeap) (K : ARes → AHeap → Prop) (hK : K (.ret (strV (Go.Lib.itoa n))) H) : ACall Tryd.prog G0 63 [.lit (.int .i64 n)] H K := by
  refine ACall.kit (v := .string ⟨(Go.Lib.itoa n).toArray⟩) ⟨_, Tryd.func63, rfl, rfl⟩ (fun Γ w cargs R hr => ?_) hK
  have hs : cargs.size = 1 := hr.1
  have h0 := hr.2 0 (by simp) (by omega)
  have e0 : cargs[0] = .int .i64 n := lit_inv h0
  have e : cargs = #[.int .i64 n] := by
    apply Array.ext
    · simpa using hs
    · intro i h1 h2
      have : i = 0 := by omega
      subst this
      simpa using e0
  rw [e]
  exact Any.strconv_Itoa Tryd.lays171 n hn.1 hn.2 w (tabIs_of_rel Tryd.lays171.m17 rfl R)
end Go.Proofs
set_option linter.unusedSimpArgs false
set_option maxRecDepth 100000
namespace Go.Hx
variable {P : Program} {t : TypeId} {x y : Operand}
theorem str_size (l : List UInt8) : (ByteArray.mk l.toArray).size = l.length := by simp [ByteArray.size]
theorem str_ext (l : List UInt8) (a b : Nat) : (ByteArray.mk l.toArray).extract a b = ⟨((l.take b).drop a).toArray⟩ := by
  apply ByteArray.ext
  rw [ByteArray.data_extract]
  apply Array.toList_inj.1
  simp [List.drop_take]
theorem eql_str (a b : List UInt8) : binA P .eql t x y (.lit (.string ⟨a.toArray⟩)) (.lit (.string ⟨b.toArray⟩)) = some (.lit (.bool (decide (a = b)))) := by
  simp [binA, AVal.toVal, eqGuard, binOp, Op.stringOp, pureRun, bind, Sem.bind, pure]
  rw [Bool.eq_iff_iff]; simp
theorem neq_str (a b : List UInt8) : binA P .neq t x y (.lit (.string ⟨a.toArray⟩)) (.lit (.string ⟨b.toArray⟩)) = some (.lit (.bool (!decide (a = b)))) := by
  simp [binA, AVal.toVal, eqGuard, binOp, Op.stringOp, pureRun, bind, Sem.bind, pure]
  rw [Bool.eq_iff_iff]; simp
theorem str_get (l : List UInt8) (i : Nat) : (ByteArray.mk l.toArray)[i]? = l[i]? := by
  by_cases h : i < l.length
  · have h2 : i < (ByteArray.mk l.toArray).size := by rw [str_size]; exact h
    rw [getElem?_pos _ i h2, getElem?_pos _ i h]
    rfl
  · have h2 : ¬ i < (ByteArray.mk l.toArray).size := by rw [str_size]; exact h
    rw [getElem?_neg _ i h2, getElem?_neg _ i h]
theorem str_app (a b : List UInt8) : (ByteArray.mk a.toArray) ++ (ByteArray.mk b.toArray) = ⟨(a ++ b).toArray⟩ := by
  apply ByteArray.ext
  simp
theorem add_str (a b : List UInt8) (h : a.length + b.length ≤ 9223372036854775807) : binA P .add t x y (.lit (.string ⟨a.toArray⟩)) (.lit (.string ⟨b.toArray⟩)) = some (.lit (.string ⟨(a ++ b).toArray⟩)) := by
  simp [binA, AVal.toVal, eqGuard, binOp, Op.stringOp, pureRun, bind, Sem.bind, pure]
  have h2 : ¬ (9223372036854775807 : Int) < (ByteArray.mk a.toArray).size + (ByteArray.mk b.toArray).size := by rw [str_size, str_size]; omega
  rw [if_neg h2, str_app]
  rfl
theorem index_str {l : List UInt8} {k : IntKind} {i : Nat} {b : UInt8} (h : l[i]? = some b) (ht : P.underlying t = some .string) : indexA P t (.lit (.string ⟨l.toArray⟩)) (.lit (.int k (i : Int))) = some (.lit (.int .u8 (b.toNat : Int))) := by
  simp [indexA, Instr.index, asIntOf, underlying, program, ht, pureRun, bind, Sem.bind, pure]
  rw [str_get, h]
  rfl
end Go.Hx
set_option linter.unusedSimpArgs false
set_option maxRecDepth 100000
namespace Go.Proofs
open Go.Hx
theorem str_getb (l : List UInt8) (i : Nat) (h : i < l.length) : (ByteArray.mk l.toArray)[i]! = l[i] := by
  have h2 : i < (ByteArray.mk l.toArray).size := by rw [str_size]; exact h
  rw [getElem!_pos _ i h2]
  rfl
theorem find_idx (l : List UInt8) (c : UInt8) : ((List.range l.length).find? fun i => (ByteArray.mk l.toArray)[i]! == c) = l.findIdx? (· == c) := by
  cases h : l.findIdx? (· == c) with
  | none =>
    rw [List.findIdx?_eq_none_iff] at h
    rw [List.find?_eq_none]
    intro i hi
    have hi' : i < l.length := by simpa using hi
    rw [str_getb l i hi']
    simpa using h _ (List.getElem_mem hi')
  | some i =>
    rw [List.findIdx?_eq_some_iff_getElem] at h
    obtain ⟨h1, h2, h3⟩ := h
    rw [List.find?_range_eq_some]
    refine ⟨by rw [str_getb l i h1]; exact h2, by simpa using h1, fun j hj => ?_⟩
    rw [str_getb l j (by omega)]
    simpa using h3 j hj
def slash (l : List UInt8) : Option Nat := l.findIdx? (· == 47)
theorem slash_some {l : List UInt8} {i : Nat} (h : slash l = some i) : i < l.length ∧ l[i]? = some 47 ∧ ∀ j, j < i → l[j]? ≠ some 47 := by
  unfold slash at h
  rw [List.findIdx?_eq_some_iff_getElem] at h
  obtain ⟨h1, h2, h3⟩ := h
  refine ⟨h1, by rw [List.getElem?_eq_getElem h1]; simpa using h2, fun j hj => ?_⟩
  rw [List.getElem?_eq_getElem (by omega)]
  simpa using h3 j hj
theorem slash_none {l : List UInt8} (h : slash l = none) : ∀ j : Nat, l[j]? ≠ some 47 := by
  unfold slash at h
  rw [List.findIdx?_eq_none_iff] at h
  intro j hj
  have := h _ (List.mem_of_getElem? hj)
  simp at this
/-- Where the slash stands, or -1. -/
def slashI (l : List UInt8) : Int := match slash l with | some i => (i : Int) | none => -1
theorem indexByte_spec (l : List UInt8) (H : AHeap) (K : ARes → AHeap → Prop) (hK : K (.ret (.lit (.int .i64 (slashI l)))) H) : ACall Tryd.prog G0 97 [.lit (.string ⟨l.toArray⟩), .lit (.int .u8 47)] H K := by
  refine ACall.clo ⟨_, Tryd.func97, rfl, rfl⟩ fun hcl => ?_
  have k : idxF [.lit (.string ⟨l.toArray⟩), .lit (.int .u8 47)] = some (.lit (.int .i64 (slashI l))) := by
    simp only [idxF]
    rw [str_size, show (47 : Int).toNat.toUInt8 = (47 : UInt8) from rfl, find_idx]
    rfl
  refine ACall.of_body (n := 8) (rs := [.tmp 4]) Tryd.func97 rfl rfl rfl (by decide) (by kernel_rfl) (by simp) ?_
  simp (config := { maxSteps := 1000000 }) only [go_sem, Int.reduceToNat, Int.reduceLE, Int.reduceLT, Int.reduceAdd, Int.reduceSub, Int.reduceMul, Int.reduceEq, Int.reduceNe, Nat.reduceEqDiff, Nat.reducePow, Nat.reduceDiv, Nat.reduceMod, Nat.reduceAdd, Nat.reduceMul, Nat.reduceSub, Nat.reduceLT, Nat.reduceLeDiff, reduceIte, reduceCtorEq, appendA_U]
  refine idx_ext k ⟨trivial, ?_⟩
  simp (config := { maxSteps := 1000000 }) only [go_sem, Int.reduceToNat, Int.reduceLE, Int.reduceLT, Int.reduceAdd, Int.reduceSub, Int.reduceMul, Int.reduceEq, Int.reduceNe, Nat.reduceEqDiff, Nat.reducePow, Nat.reduceDiv, Nat.reduceMod, Nat.reduceAdd, Nat.reduceMul, Nat.reduceSub, Nat.reduceLT, Nat.reduceLeDiff, reduceIte, reduceCtorEq, appendA_U]
  exact FinV.dropO G0_ok hcl (.refl _) (.lit _) hK
theorem index_spec (l : List UInt8) (H : AHeap) (K : ARes → AHeap → Prop) (hK : K (.ret (.lit (.int .i64 (slashI l)))) H) : ACall Tryd.prog G0 91 [.lit (.string ⟨l.toArray⟩), .lit (.string ⟨#[47]⟩)] H K := by
  refine ACall.clo ⟨_, Tryd.func91, rfl, rfl⟩ fun hcl => ?_
  have i0 := index_str (P := Tryd.prog) (t := 9) (l := [47]) (k := .i64) (i := 0) (b := 47) rfl Tryd.underlying9
  have s0 : (ByteArray.mk #[47]).size = 1 := rfl
  have s1 : (#[47] : Array UInt8).size = 1 := rfl
  have n0 : ((0 : Nat) : Int) = 0 := rfl
  rw [n0] at i0
  have b0 : ((47 : UInt8).toNat : Int) = 47 := rfl
  rw [b0] at i0
  refine ACall.of_body (n := 143) (rs := [.tmp 4]) Tryd.func91 rfl rfl rfl (by decide) (by kernel_rfl) (by simp) ?_
  by_cases h1 : [47] = l
  · subst h1
    have e : slashI [47] = 0 := by decide
    rw [e] at hK
    simp (config := { maxSteps := 1000000 }) only [go_sem, Int.reduceToNat, Int.reduceLE, Int.reduceLT, Int.reduceAdd, Int.reduceSub, Int.reduceMul, Int.reduceEq, Int.reduceNe, Nat.reduceEqDiff, Nat.reducePow, Nat.reduceDiv, Nat.reduceMod, Nat.reduceAdd, Nat.reduceMul, Nat.reduceSub, Nat.reduceLT, Nat.reduceLeDiff, reduceIte, reduceCtorEq, s0, s1, eql_str, guardA_undef, i0, appendA_U]
    exact FinV.dropO G0_ok hcl (.refl _) (.lit _) hK
  · simp (config := { maxSteps := 1000000 }) only [go_sem, Int.reduceToNat, Int.reduceLE, Int.reduceLT, Int.reduceAdd, Int.reduceSub, Int.reduceMul, Int.reduceEq, Int.reduceNe, Nat.reduceEqDiff, Nat.reducePow, Nat.reduceDiv, Nat.reduceMod, Nat.reduceAdd, Nat.reduceMul, Nat.reduceSub, Nat.reduceLT, Nat.reduceLeDiff, reduceIte, reduceCtorEq, s0, s1, eql_str, guardA_undef, i0, h1, appendA_U]
    refine AApply.clo (indexByte_spec l _ _ ⟨trivial, ?_⟩)
    simp (config := { maxSteps := 1000000 }) only [go_sem, Int.reduceToNat, Int.reduceLE, Int.reduceLT, Int.reduceAdd, Int.reduceSub, Int.reduceMul, Int.reduceEq, Int.reduceNe, Nat.reduceEqDiff, Nat.reducePow, Nat.reduceDiv, Nat.reduceMod, Nat.reduceAdd, Nat.reduceMul, Nat.reduceSub, Nat.reduceLT, Nat.reduceLeDiff, reduceIte, reduceCtorEq, appendA_U]
    exact FinV.dropO G0_ok hcl (.refl _) (.lit _) hK
def strB2 (a b : List UInt8) (f : Bool) : AVal := .tup [.lit (.string ⟨a.toArray⟩), .lit (.string ⟨b.toArray⟩), .lit (.bool f)]
theorem fz_s2 {S : Nat → Prop} {H : AHeap} {nx : Nat} {a b c : Value} : Fz S H nx (.tup [.lit a, .lit b, .lit c]) (.tup [.lit a, .lit b, .lit c]) := .tup rfl fun i hi _ => match i, hi with
  | 0, _ => .lit _
  | 1, _ => .lit _
  | 2, _ => .lit _
theorem fz_s1 {S : Nat → Prop} {H : AHeap} {nx : Nat} {a b : Value} : Fz S H nx (.tup [.lit a, .lit b]) (.tup [.lit a, .lit b]) := .tup rfl fun i hi _ => match i, hi with
  | 0, _ => .lit _
  | 1, _ => .lit _
/-- Cut at a slash. -/
def cutV (l : List UInt8) : AVal := match slash l with
  | some i => strB2 (l.take i) (l.drop (i + 1)) true
  | none => strB2 l [] false
theorem scut_spec (l : List UInt8) (hl : l.length < 9223372036854775807) (H : AHeap) (K : ARes → AHeap → Prop) (hK : K (.ret (cutV l)) H) : ACall Tryd.prog G0 84 [.lit (.string ⟨l.toArray⟩), .lit (.string ⟨#[47]⟩)] H K := by
  refine ACall.clo ⟨_, Tryd.func84, rfl, rfl⟩ fun hcl => ?_
  have s1 : (#[47] : Array UInt8).size = 1 := rfl
  have s0 : (ByteArray.mk #[47]).size = 1 := rfl
  refine ACall.of_body (n := 23) (rs := [.tmp 4, .tmp 5, .tmp 6]) Tryd.func84 rfl rfl rfl (by decide) (by kernel_rfl) (by simp) ?_
  simp (config := { maxSteps := 1000000 }) only [go_sem, Int.reduceToNat, Int.reduceLE, Int.reduceLT, Int.reduceAdd, Int.reduceSub, Int.reduceMul, Int.reduceEq, Int.reduceNe, Nat.reduceEqDiff, Nat.reducePow, Nat.reduceDiv, Nat.reduceMod, Nat.reduceAdd, Nat.reduceMul, Nat.reduceSub, Nat.reduceLT, Nat.reduceLeDiff, reduceIte, reduceCtorEq, appendA_U]
  refine AApply.clo (index_spec l _ _ ⟨trivial, ?_⟩)
  unfold slashI
  unfold cutV at hK
  cases h : slash l with
  | none =>
    rw [h] at hK
    simp (config := { maxSteps := 1000000 }) only [go_sem, Int.reduceToNat, Int.reduceLE, Int.reduceLT, Int.reduceAdd, Int.reduceSub, Int.reduceMul, Int.reduceEq, Int.reduceNe, Nat.reduceEqDiff, Nat.reducePow, Nat.reduceDiv, Nat.reduceMod, Nat.reduceAdd, Nat.reduceMul, Nat.reduceSub, Nat.reduceLT, Nat.reduceLeDiff, reduceIte, reduceCtorEq, appendA_U]
    exact FinV.dropO G0_ok hcl (.refl _) fz_s2 hK
  | some i =>
    obtain ⟨hi, _, _⟩ := slash_some h
    rw [h] at hK
    have c1 : (0 : Int) ≤ (i : Int) := by omega
    have c2 : (i : Int) ≤ (l.length : Int) := by omega
    have c3 : (0 : Int) ≤ (i : Int) + 1 := by omega
    have c4 : (i : Int) + 1 ≤ (l.length : Int) := by omega
    have w1 := IntWalk.i64_in ((i : Int) + 1) (by omega)
    simp (config := { maxSteps := 1000000 }) only [go_sem, Int.reduceToNat, Int.reduceLE, Int.reduceLT, Int.reduceAdd, Int.reduceSub, Int.reduceMul, Int.reduceEq, Int.reduceNe, Nat.reduceEqDiff, Nat.reducePow, Nat.reduceDiv, Nat.reduceMod, Nat.reduceAdd, Nat.reduceMul, Nat.reduceSub, Nat.reduceLT, Nat.reduceLeDiff, reduceIte, reduceCtorEq, c1, appendA_U]
    refine W.draw 10 [0, 0, 3, 0, 0, 0, 32, 112, 248, 7] Tryd.mixed (by kernel_rfl) (by kernel_rfl) ?_
    simp (config := { maxSteps := 1000000 }) only [go_sem, Int.reduceToNat, Int.reduceLE, Int.reduceLT, Int.reduceAdd, Int.reduceSub, Int.reduceMul, Int.reduceEq, Int.reduceNe, Nat.reduceEqDiff, Nat.reducePow, Nat.reduceDiv, Nat.reduceMod, Nat.reduceAdd, Nat.reduceMul, Nat.reduceSub, Nat.reduceLT, Nat.reduceLeDiff, reduceIte, reduceCtorEq, c1, c2, c3, c4, str_size, str_ext, w1, s0, s1, appendA_U]
    rw [show ((i : Int) + 1).toNat = i + 1 by omega, List.take_length]
    exact FinV.dropO G0_ok hcl (.refl _) fz_s2 hK
theorem cutV_form (l : List UInt8) : ∃ (a b : List UInt8) (f : Bool), cutV l = .tup [.lit (.string ⟨a.toArray⟩), .lit (.string ⟨b.toArray⟩), .lit (.bool f)] := by
  unfold cutV
  split
  · exact ⟨_, _, _, rfl⟩
  · exact ⟨_, _, _, rfl⟩
theorem cut2_spec (l : List UInt8) (hl : l.length < 9223372036854775807) (H : AHeap) (K : ARes → AHeap → Prop) (hK : K (.ret (cutV l)) H) : ACall Tryd.prog G0 65 [.lit (.string ⟨l.toArray⟩), .lit (.string ⟨#[47]⟩)] H K := by
  refine ACall.clo ⟨_, Tryd.func65, rfl, rfl⟩ fun hcl => ?_
  refine ACall.of_body (n := 13) (rs := [.tmp 4, .tmp 5, .tmp 6]) Tryd.func65 rfl rfl rfl (by decide) (by kernel_rfl) (by simp) ?_
  simp (config := { maxSteps := 1000000 }) only [go_sem, Int.reduceToNat, Int.reduceLE, Int.reduceLT, Int.reduceAdd, Int.reduceSub, Int.reduceMul, Int.reduceEq, Int.reduceNe, Nat.reduceEqDiff, Nat.reducePow, Nat.reduceDiv, Nat.reduceMod, Nat.reduceAdd, Nat.reduceMul, Nat.reduceSub, Nat.reduceLT, Nat.reduceLeDiff, reduceIte, reduceCtorEq, appendA_U]
  refine AApply.clo (scut_spec l hl _ _ ⟨trivial, ?_⟩)
  obtain ⟨a, b, f, e⟩ := cutV_form l
  rw [e] at hK ⊢
  simp (config := { maxSteps := 1000000 }) only [go_sem, Int.reduceToNat, Int.reduceLE, Int.reduceLT, Int.reduceAdd, Int.reduceSub, Int.reduceMul, Int.reduceEq, Int.reduceNe, Nat.reduceEqDiff, Nat.reducePow, Nat.reduceDiv, Nat.reduceMod, Nat.reduceAdd, Nat.reduceMul, Nat.reduceSub, Nat.reduceLT, Nat.reduceLeDiff, reduceIte, reduceCtorEq, appendA_U]
  exact FinV.dropO G0_ok hcl (.refl _) fz_s2 hK
/-- CutPrefix of a minus sign. -/
def negS (l : List UInt8) : Bool := decide (l.head? = some 45)
def restS (l : List UInt8) : List UInt8 := if l.head? = some 45 then l.tail else l
theorem prefix_spec (l : List UInt8) (hl : l.length < 9223372036854775807) (H : AHeap) (K : ARes → AHeap → Prop) (hK : K (.ret (.lit (.bool (negS l)))) H) : ACall Tryd.prog G0 90 [.lit (.string ⟨l.toArray⟩), .lit (.string ⟨#[45]⟩)] H K := by
  refine ACall.clo ⟨_, Tryd.func90, rfl, rfl⟩ fun hcl => ?_
  have s1 : (#[45] : Array UInt8).size = 1 := rfl
  refine ACall.of_body (n := 18) (rs := [.tmp 4]) Tryd.func90 rfl rfl rfl (by decide) (by kernel_rfl) (by simp) ?_
  match l with
  | [] =>
    have c1 : ¬ (1 : Int) ≤ 0 := by omega
    simp (config := { maxSteps := 1000000 }) only [go_sem, Int.reduceToNat, Int.reduceLE, Int.reduceLT, Int.reduceAdd, Int.reduceSub, Int.reduceMul, Int.reduceEq, Int.reduceNe, Nat.reduceEqDiff, Nat.reducePow, Nat.reduceDiv, Nat.reduceMod, Nat.reduceAdd, Nat.reduceMul, Nat.reduceSub, Nat.reduceLT, Nat.reduceLeDiff, reduceIte, reduceCtorEq, List.size_toArray, List.length_nil, guardA_undef, appendA_U]
    exact FinV.dropO G0_ok hcl (.refl _) (.lit _) hK
  | b :: l' =>
    have c1 : (1 : Int) ≤ ((l'.length + 1 : Nat) : Int) := by omega
    have c0 : (0 : Int) ≤ 1 := by omega
    have e : List.drop 0 (List.take 1 (b :: l')) = [b] := rfl
    have t1 : (1 : Int).toNat = 1 := rfl
    by_cases hb : b = 45
    · subst hb
      have d : ([45] : List UInt8) = [45] := rfl
      simp (config := { maxSteps := 1000000 }) only [go_sem, Int.reduceToNat, Int.reduceLE, Int.reduceLT, Int.reduceAdd, Int.reduceSub, Int.reduceMul, Int.reduceEq, Int.reduceNe, Nat.reduceEqDiff, Nat.reducePow, Nat.reduceDiv, Nat.reduceMod, Nat.reduceAdd, Nat.reduceMul, Nat.reduceSub, Nat.reduceLT, Nat.reduceLeDiff, reduceIte, reduceCtorEq, List.size_toArray, s1, str_size, str_ext, c0, c1, e, eql_str, guardA_undef, t1, appendA_U]
      exact FinV.dropO G0_ok hcl (.refl _) (.lit _) hK
    · have d : ¬ ([b] : List UInt8) = [45] := fun h => hb (by simpa using h)
      have hn : negS (b :: l') = false := decide_eq_false (fun h => hb (by simpa using h))
      rw [hn] at hK
      simp (config := { maxSteps := 1000000 }) only [go_sem, Int.reduceToNat, Int.reduceLE, Int.reduceLT, Int.reduceAdd, Int.reduceSub, Int.reduceMul, Int.reduceEq, Int.reduceNe, Nat.reduceEqDiff, Nat.reducePow, Nat.reduceDiv, Nat.reduceMod, Nat.reduceAdd, Nat.reduceMul, Nat.reduceSub, Nat.reduceLT, Nat.reduceLeDiff, reduceIte, reduceCtorEq, List.size_toArray, s1, str_size, str_ext, c0, c1, e, eql_str, guardA_undef, d, t1, appendA_U]
      exact FinV.dropO G0_ok hcl (.refl _) (.lit _) hK
theorem scutp_spec (l : List UInt8) (hl : l.length < 9223372036854775807) (H : AHeap) (K : ARes → AHeap → Prop) (hK : K (.ret (.tup [.lit (.string ⟨(restS l).toArray⟩), .lit (.bool (negS l))])) H) : ACall Tryd.prog G0 83 [.lit (.string ⟨l.toArray⟩), .lit (.string ⟨#[45]⟩)] H K := by
  refine ACall.clo ⟨_, Tryd.func83, rfl, rfl⟩ fun hcl => ?_
  have s1 : (#[45] : Array UInt8).size = 1 := rfl
  have s0 : (ByteArray.mk #[45]).size = 1 := rfl
  refine ACall.of_body (n := 15) (rs := [.tmp 4, .tmp 5]) Tryd.func83 rfl rfl rfl (by decide) (by kernel_rfl) (by simp) ?_
  simp (config := { maxSteps := 1000000 }) only [go_sem, Int.reduceToNat, Int.reduceLE, Int.reduceLT, Int.reduceAdd, Int.reduceSub, Int.reduceMul, Int.reduceEq, Int.reduceNe, Nat.reduceEqDiff, Nat.reducePow, Nat.reduceDiv, Nat.reduceMod, Nat.reduceAdd, Nat.reduceMul, Nat.reduceSub, Nat.reduceLT, Nat.reduceLeDiff, reduceIte, reduceCtorEq, appendA_U]
  refine AApply.clo (prefix_spec l hl _ _ ⟨trivial, ?_⟩)
  unfold negS restS at *
  by_cases h : l.head? = some 45
  · rw [decide_eq_true h] at hK ⊢
    rw [if_pos h] at hK
    match l, h with
    | b :: l', h =>
      have c1 : (1 : Int) ≤ ((l'.length + 1 : Nat) : Int) := by omega
      have c0 : (0 : Int) ≤ 1 := by omega
      have t1 : (1 : Int).toNat = 1 := rfl
      simp (config := { maxSteps := 1000000 }) only [go_sem, Int.reduceToNat, Int.reduceLE, Int.reduceLT, Int.reduceAdd, Int.reduceSub, Int.reduceMul, Int.reduceEq, Int.reduceNe, Nat.reduceEqDiff, Nat.reducePow, Nat.reduceDiv, Nat.reduceMod, Nat.reduceAdd, Nat.reduceMul, Nat.reduceSub, Nat.reduceLT, Nat.reduceLeDiff, reduceIte, reduceCtorEq, List.size_toArray, s1, s0, str_size, str_ext, c0, c1, t1, List.take_length, appendA_U]
      exact FinV.dropO G0_ok hcl (.refl _) fz_s1 hK
  · rw [decide_eq_false h] at hK ⊢
    rw [if_neg h] at hK
    simp (config := { maxSteps := 1000000 }) only [go_sem, Int.reduceToNat, Int.reduceLE, Int.reduceLT, Int.reduceAdd, Int.reduceSub, Int.reduceMul, Int.reduceEq, Int.reduceNe, Nat.reduceEqDiff, Nat.reducePow, Nat.reduceDiv, Nat.reduceMod, Nat.reduceAdd, Nat.reduceMul, Nat.reduceSub, Nat.reduceLT, Nat.reduceLeDiff, reduceIte, reduceCtorEq, appendA_U]
    exact FinV.dropO G0_ok hcl (.refl _) fz_s1 hK
theorem cutp_spec (l : List UInt8) (hl : l.length < 9223372036854775807) (H : AHeap) (K : ARes → AHeap → Prop) (hK : K (.ret (.tup [.lit (.string ⟨(restS l).toArray⟩), .lit (.bool (negS l))])) H) : ACall Tryd.prog G0 64 [.lit (.string ⟨l.toArray⟩), .lit (.string ⟨#[45]⟩)] H K := by
  refine ACall.clo ⟨_, Tryd.func64, rfl, rfl⟩ fun hcl => ?_
  refine ACall.of_body (n := 11) (rs := [.tmp 4, .tmp 5]) Tryd.func64 rfl rfl rfl (by decide) (by kernel_rfl) (by simp) ?_
  simp (config := { maxSteps := 1000000 }) only [go_sem, Int.reduceToNat, Int.reduceLE, Int.reduceLT, Int.reduceAdd, Int.reduceSub, Int.reduceMul, Int.reduceEq, Int.reduceNe, Nat.reduceEqDiff, Nat.reducePow, Nat.reduceDiv, Nat.reduceMod, Nat.reduceAdd, Nat.reduceMul, Nat.reduceSub, Nat.reduceLT, Nat.reduceLeDiff, reduceIte, reduceCtorEq, appendA_U]
  refine AApply.clo (scutp_spec l hl _ _ ⟨trivial, ?_⟩)
  simp (config := { maxSteps := 1000000 }) only [go_sem, Int.reduceToNat, Int.reduceLE, Int.reduceLT, Int.reduceAdd, Int.reduceSub, Int.reduceMul, Int.reduceEq, Int.reduceNe, Nat.reduceEqDiff, Nat.reducePow, Nat.reduceDiv, Nat.reduceMod, Nat.reduceAdd, Nat.reduceMul, Nat.reduceSub, Nat.reduceLT, Nat.reduceLeDiff, reduceIte, reduceCtorEq, appendA_U]
  exact FinV.dropO G0_ok hcl (.refl _) fz_s1 hK
end Go.Proofs
set_option linter.unusedSimpArgs false
set_option maxRecDepth 100000
namespace Go.Proofs
open Go.Hx
def digB (b : UInt8) : Bool := decide (48 ≤ b.toNat) && decide (b.toNat ≤ 57)
def decV (l : List UInt8) : Nat := l.foldl (fun n b => 10 * n + (b.toNat - 48)) 0
def okL (l : List UInt8) : Bool := !(decide (l = []) || decide (19 < l.length) || (decide (l.head? = some 48) && !decide (l = [48])))
def part (l : List UInt8) : Option Nat := if okL l = true ∧ l.all digB = true ∧ decV l ≤ 4611686018427387903 then some (decV l) else none
theorem decV_snoc (l : List UInt8) (b : UInt8) : decV (l ++ [b]) = 10 * decV l + (b.toNat - 48) := by
  unfold decV; rw [List.foldl_append]; rfl
theorem decV_take {l : List UInt8} {j : Nat} {b : UInt8} (h : l[j]? = some b) : decV (l.take (j + 1)) = 10 * decV (l.take j) + (b.toNat - 48) := by
  rw [take_succ_of h, decV_snoc]
theorem decV_lt {l : List UInt8} (h : l.all digB = true) : decV l < 10 ^ l.length := by
  have key : ∀ n, ∀ l : List UInt8, l.length = n → l.all digB = true → decV l < 10 ^ n := by
    intro n
    induction n with
    | zero => intro l hl _; rw [List.eq_nil_of_length_eq_zero hl]; decide
    | succ n ih =>
      intro l hl ha
      have hne : l ≠ [] := fun h => by rw [h] at hl; cases hl
      obtain ⟨l', b, rfl⟩ : ∃ l' b, l = l' ++ [b] := ⟨l.dropLast, l.getLast hne, (List.dropLast_concat_getLast hne).symm⟩
      rw [decV_snoc]
      simp only [List.all_append, List.all_cons, List.all_nil, Bool.and_true, Bool.and_eq_true] at ha
      have := ih l' (by simpa using hl) ha.1
      have hb := ha.2
      unfold digB at hb
      simp only [Bool.and_eq_true, decide_eq_true_eq] at hb
      rw [Nat.pow_succ]
      omega
  exact key _ l rfl h
theorem all_take_succ {l : List UInt8} {j : Nat} {b : UInt8} (h : l[j]? = some b) (ha : (l.take j).all digB = true) (hb : digB b = true) : (l.take (j + 1)).all digB = true := by
  rw [take_succ_of h, List.all_append, ha]
  simp [hb]
theorem not_all {l : List UInt8} {j : Nat} {b : UInt8} (h : l[j]? = some b) (hb : digB b = false) : l.all digB = false := by
  rw [List.all_eq_false]
  exact ⟨b, List.mem_of_getElem? h, by rw [hb]; decide⟩
theorem part_bad1 {l : List UInt8} (h : okL l = false) : part l = none := by unfold part; rw [if_neg (fun k => by rw [h] at k; exact absurd k.1 (by decide))]
theorem part_bad2 {l : List UInt8} (h : l.all digB = false) : part l = none := by unfold part; rw [if_neg (fun k => by rw [h] at k; exact absurd k.2.1 (by decide))]
theorem part_bad3 {l : List UInt8} (h : ¬ decV l ≤ 4611686018427387903) : part l = none := by unfold part; rw [if_neg (fun k => h k.2.2)]
theorem part_good {l : List UInt8} (h1 : okL l = true) (h2 : l.all digB = true) (h3 : decV l ≤ 4611686018427387903) : part l = some (decV l) := by unfold part; rw [if_pos ⟨h1, h2, h3⟩]
theorem part_le {l : List UInt8} {v : Nat} (h : part l = some v) : v ≤ 4611686018427387903 := by
  unfold part at h
  split at h
  · rename_i k; cases h; exact k.2.2
  · cases h
/-- What Parse reads. -/
def sndS (l : List UInt8) : List UInt8 := match slash l with
  | some i => l.drop (i + 1)
  | none => [49]
def fstS (l : List UInt8) : List UInt8 := match slash l with
  | some i => l.take i
  | none => l
def parseO (l : List UInt8) : Option (Int × Int) := match part (fstS (restS l)), part (sndS (restS l)) with
  | some n, some d => if ((slash (restS l)).isSome = true ∧ d = 1) ∨ (negS l = true ∧ n = 0) ∨ checkQ n d ≠ 0 then none else some (if negS l = true then -(n : Int) else n, d)
  | _, _ => none
def parseV (l : List UInt8) : AVal := match parseO l with
  | some p => .tup [qV p.1 p.2, .lit (.int .i64 0)]
  | none => .tup [qV 0 0, .lit (.int .i64 5)]
end Go.Proofs
set_option linter.unusedSimpArgs false
set_option maxRecDepth 100000
namespace Go.Proofs
open Go.Hx
set_option maxHeartbeats 4000000 in
theorem fparse_spec (l : List UInt8) (hl : l.length < 9223372036854775000) (H : AHeap) (K : ARes → AHeap → Prop) (hK : K (.ret (parseV l)) H) : ACall Tryd.prog G0 35 [.lit (.string ⟨l.toArray⟩)] H K := by
  refine ACall.clo ⟨_, Tryd.func35, rfl, rfl⟩ fun hcl => ?_
  have hr : (restS l).length < 9223372036854775000 := by
    unfold restS
    split
    · rw [List.length_tail]; omega
    · exact hl
  have cp := fun H2 K h => cutp_spec l (by omega) H2 K h
  have ct := fun H2 K h => cut2_spec (restS l) (by omega) H2 K h
  unfold parseV parseO at hK
  obtain ⟨neg, hneg⟩ : ∃ n, n = negS l := ⟨_, rfl⟩
  obtain ⟨r, hrr⟩ : ∃ r, r = restS l := ⟨_, rfl⟩
  rw [← hneg] at cp hK
  rw [← hrr] at cp ct hK hr
  clear hneg hrr
  -- what Cut gives
  obtain ⟨u, hu⟩ : ∃ u, u = fstS r := ⟨_, rfl⟩
  obtain ⟨w, hw⟩ : ∃ u, u = sndS r := ⟨_, rfl⟩
  obtain ⟨sl, hsl⟩ : ∃ s, s = (slash r).isSome := ⟨_, rfl⟩
  have lu : u.length < 9223372036854775000 := by
    rw [hu]; unfold fstS; split
    · rw [List.length_take]; omega
    · exact hr
  have lw : w.length < 9223372036854775000 := by
    rw [hw]; unfold sndS; split
    · rw [List.length_drop]; omega
    · decide
  have hcv : ∃ w2, cutV r = .tup [.lit (.string ⟨u.toArray⟩), .lit (.string ⟨(w2 : List UInt8).toArray⟩), .lit (.bool sl)] ∧ (sl = true → w2 = w) ∧ (sl = false → w = [49]) := by
    unfold cutV
    rw [hu, hw, hsl]
    unfold fstS sndS
    cases slash r with
    | none => exact ⟨[], rfl, ⟨(fun h => by cases h), fun _ => rfl⟩⟩
    | some i => exact ⟨_, rfl, ⟨fun _ => rfl, (fun h => by cases h)⟩⟩
  obtain ⟨w2, ecv, hw2, hw3⟩ := hcv
  rw [ecv] at ct
  rw [← hu, ← hw, ← hsl] at hK
  clear hu hw hsl ecv
  refine ACall.of_bodyW (n := 121) (rs := [.cell 2 23, .tmp 3]) Tryd.func35 rfl rfl rfl (by decide) (by simp) ?_
  refine W.seq (vc_sound _ _ _ (by rfl) ?_)
  simp (config := { maxSteps := 1000000 }) only [go_sem, Int.reduceToNat, Int.reduceLE, Int.reduceLT, Int.reduceAdd, Int.reduceSub, Int.reduceMul, Int.reduceEq, Int.reduceNe, Nat.reduceEqDiff, Nat.reducePow, Nat.reduceDiv, Nat.reduceMod, Nat.reduceAdd, Nat.reduceMul, Nat.reduceSub, Nat.reduceLT, Nat.reduceLeDiff, reduceIte, reduceCtorEq, appendA_U]
  refine W.scope ?_
  refine W.seq (vc_sound _ _ _ (by rfl) ?_)
  simp (config := { maxSteps := 1000000 }) only [go_sem, Int.reduceToNat, Int.reduceLE, Int.reduceLT, Int.reduceAdd, Int.reduceSub, Int.reduceMul, Int.reduceEq, Int.reduceNe, Nat.reduceEqDiff, Nat.reducePow, Nat.reduceDiv, Nat.reduceMod, Nat.reduceAdd, Nat.reduceMul, Nat.reduceSub, Nat.reduceLT, Nat.reduceLeDiff, reduceIte, reduceCtorEq, appendA_U]
  refine AApply.clo (cp _ _ ⟨trivial, ?_⟩)
  simp (config := { maxSteps := 1000000 }) only [go_sem, Int.reduceToNat, Int.reduceLE, Int.reduceLT, Int.reduceAdd, Int.reduceSub, Int.reduceMul, Int.reduceEq, Int.reduceNe, Nat.reduceEqDiff, Nat.reducePow, Nat.reduceDiv, Nat.reduceMod, Nat.reduceAdd, Nat.reduceMul, Nat.reduceSub, Nat.reduceLT, Nat.reduceLeDiff, reduceIte, reduceCtorEq, appendA_U]
  refine W.seq (vc_sound _ _ _ (by rfl) ?_)
  simp (config := { maxSteps := 1000000 }) only [go_sem, Int.reduceToNat, Int.reduceLE, Int.reduceLT, Int.reduceAdd, Int.reduceSub, Int.reduceMul, Int.reduceEq, Int.reduceNe, Nat.reduceEqDiff, Nat.reducePow, Nat.reduceDiv, Nat.reduceMod, Nat.reduceAdd, Nat.reduceMul, Nat.reduceSub, Nat.reduceLT, Nat.reduceLeDiff, reduceIte, reduceCtorEq, appendA_U]
  refine AApply.clo (ct _ _ ⟨trivial, ?_⟩)
  simp (config := { maxSteps := 1000000 }) only [go_sem, Int.reduceToNat, Int.reduceLE, Int.reduceLT, Int.reduceAdd, Int.reduceSub, Int.reduceMul, Int.reduceEq, Int.reduceNe, Nat.reduceEqDiff, Nat.reducePow, Nat.reduceDiv, Nat.reduceMod, Nat.reduceAdd, Nat.reduceMul, Nat.reduceSub, Nat.reduceLT, Nat.reduceLeDiff, reduceIte, reduceCtorEq, appendA_U]
  refine W.mid (fun s' => s'.H = ext H [.arr 0 23 [.lit (.int .i64 0), .lit (.int .i64 0)]] ∧ s'.ρ 2 = .ptr H.next 0 0 ∧ s'.ρ 5 = .lit (.bool neg) ∧ s'.ρ 6 = .lit (.string ⟨u.toArray⟩) ∧ s'.ρ 7 = .lit (.string ⟨w.toArray⟩) ∧ s'.ρ 8 = .lit (.bool sl)) ?_ ?_
  · refine vc_sound _ _ _ (by rfl) ?_
    cases sl with
    | true =>
      rw [← hw2 rfl]
      simp (config := { maxSteps := 1000000 }) only [go_sem, Int.reduceToNat, Int.reduceLE, Int.reduceLT, Int.reduceAdd, Int.reduceSub, Int.reduceMul, Int.reduceEq, Int.reduceNe, Nat.reduceEqDiff, Nat.reducePow, Nat.reduceDiv, Nat.reduceMod, Nat.reduceAdd, Nat.reduceMul, Nat.reduceSub, Nat.reduceLT, Nat.reduceLeDiff, reduceIte, reduceCtorEq, appendA_U]
    | false =>
      rw [hw3 rfl]
      simp (config := { maxSteps := 1000000 }) only [go_sem, Int.reduceToNat, Int.reduceLE, Int.reduceLT, Int.reduceAdd, Int.reduceSub, Int.reduceMul, Int.reduceEq, Int.reduceNe, Nat.reduceEqDiff, Nat.reducePow, Nat.reduceDiv, Nat.reduceMod, Nat.reduceAdd, Nat.reduceMul, Nat.reduceSub, Nat.reduceLT, Nat.reduceLeDiff, reduceIte, reduceCtorEq, appendA_U]
  rintro ⟨E, H2⟩ ⟨eH, a2, a5, a6, a7, a8⟩
  simp only at eH a2 a5 a6 a7 a8
  subst eH
  clear hw2 hw3 cp ct
  refine W.seq (vc_sound _ _ _ (by rfl) ?_)
  simp (config := { maxSteps := 1000000 }) only [go_sem, Int.reduceToNat, Int.reduceLE, Int.reduceLT, Int.reduceAdd, Int.reduceSub, Int.reduceMul, Int.reduceEq, Int.reduceNe, Nat.reduceEqDiff, Nat.reducePow, Nat.reduceDiv, Nat.reduceMod, Nat.reduceAdd, Nat.reduceMul, Nat.reduceSub, Nat.reduceLT, Nat.reduceLeDiff, reduceIte, reduceCtorEq, a2, a5, a6, a7, a8, appendA_U]
  refine W.seq (vc_sound _ _ _ (by rfl) ?_)
  simp (config := { maxSteps := 1000000 }) only [go_sem, Int.reduceToNat, Int.reduceLE, Int.reduceLT, Int.reduceAdd, Int.reduceSub, Int.reduceMul, Int.reduceEq, Int.reduceNe, Nat.reduceEqDiff, Nat.reducePow, Nat.reduceDiv, Nat.reduceMod, Nat.reduceAdd, Nat.reduceMul, Nat.reduceSub, Nat.reduceLT, Nat.reduceLeDiff, reduceIte, reduceCtorEq, a2, a5, a6, a7, a8, appendA_U]
  refine W.seq (vc_sound _ _ _ (by rfl) ?_)
  simp (config := { maxSteps := 1000000 }) only [go_sem, Int.reduceToNat, Int.reduceLE, Int.reduceLT, Int.reduceAdd, Int.reduceSub, Int.reduceMul, Int.reduceEq, Int.reduceNe, Nat.reduceEqDiff, Nat.reducePow, Nat.reduceDiv, Nat.reduceMod, Nat.reduceAdd, Nat.reduceMul, Nat.reduceSub, Nat.reduceLT, Nat.reduceLeDiff, reduceIte, reduceCtorEq, a2, a5, a6, a7, a8, ext_ext, List.cons_append, List.nil_append, appendA_U]
  refine W.env fun E2 hE => ?_
  have b2 : E2 2 = .ptr H.next 0 0 := by rw [hE]; exact a2
  have b5 : E2 5 = .lit (.bool neg) := by rw [hE]; exact a5
  have b8 : E2 8 = .lit (.bool sl) := by rw [hE]; exact a8
  have b9 : E2 9 = .ptr (H.next + 1) 0 0 := by rw [hE]; rfl
  have b10 : E2 10 = lin 0 := by rw [hE]; rfl
  have b32 : E2 32 = .agg [.lit (.string ⟨u.toArray⟩), .lit (.string ⟨w.toArray⟩)] := by rw [hE]; rfl
  have b33 : E2 33 = lin 0 := by rw [hE]; rfl
  clear hE a2 a5 a6 a7 a8
  have wk1 := IntWalk.i64_in 1 (by omega)
  have wk2 := IntWalk.i64_in 2 (by omega)
  refine W.mono (Q := fun ax s' => ax = .exit 0 ∧ ∃ (rd : Nat) (x y : Int), s'.H = ext H [.arr 0 23 [.lit (.int .i64 0), .lit (.int .i64 0)], .arr 0 92 [.lit (.int .i64 x), .lit (.int .i64 y)]] ∧ s'.ρ 2 = .ptr H.next 0 0 ∧ s'.ρ 5 = .lit (.bool neg) ∧ s'.ρ 8 = .lit (.bool sl) ∧ s'.ρ 9 = .ptr (H.next + 1) 0 0 ∧ s'.ρ 10 = lin rd ∧ ((rd = 2 ∧ ∃ n d : Nat, part u = some n ∧ part w = some d ∧ x = n ∧ y = d) ∨ (rd < 2 ∧ (part u = none ∨ part w = none)))) ?_ ?_
  · refine W.loop0 77371252455336258591292416 (by rfl) (fun ρ H' => ∃ (k : Nat) (x y : Int), ρ 33 = lin k ∧ ρ 10 = lin k ∧ k ≤ 2 ∧ H' = ext H [.arr 0 23 [.lit (.int .i64 0), .lit (.int .i64 0)], .arr 0 92 [.lit (.int .i64 x), .lit (.int .i64 y)]] ∧ (1 ≤ k → ∃ n : Nat, part u = some n ∧ x = n) ∧ (2 ≤ k → ∃ d : Nat, part w = some d ∧ y = d)) (fun ρ H => 2 - (iv (ρ 33)).toNat) ?_ ?_
    · simp (config := { maxSteps := 1000000 }) only [go_sem, Int.reduceToNat, Int.reduceLE, Int.reduceLT, Int.reduceAdd, Int.reduceSub, Int.reduceMul, Int.reduceEq, Int.reduceNe, Nat.reduceEqDiff, Nat.reducePow, Nat.reduceDiv, Nat.reduceMod, Nat.reduceAdd, Nat.reduceMul, Nat.reduceSub, Nat.reduceLT, Nat.reduceLeDiff, reduceIte, reduceCtorEq, b10, b33, appendA_U]
      exact ⟨0, 0, 0, rfl, rfl, by omega, rfl, (fun h => absurd h (by omega)), (fun h => absurd h (by omega))⟩
    rintro ρ H' ⟨k, x, y, h33, h10, hk, rfl, hx, hy⟩
    refine vc_sound _ _ _ (by rfl) ?_
    have hk3 : k = 2 ∨ k = 0 ∨ k = 1 := by omega
    rcases hk3 with rfl | rfl | rfl
    · obtain ⟨n, en, rfl⟩ := hx (by omega)
      obtain ⟨d, ed, rfl⟩ := hy (by omega)
      simp (config := { maxSteps := 1000000 }) only [go_sem, Int.reduceToNat, Int.reduceLE, Int.reduceLT, Int.reduceAdd, Int.reduceSub, Int.reduceMul, Int.reduceEq, Int.reduceNe, Nat.reduceEqDiff, Nat.reducePow, Nat.reduceDiv, Nat.reduceMod, Nat.reduceAdd, Nat.reduceMul, Nat.reduceSub, Nat.reduceLT, Nat.reduceLeDiff, reduceIte, reduceCtorEq, b2, b5, b8, b9, h10, h33, appendA_U]
      exact ⟨2, n, d, rfl, rfl, .inl ⟨rfl, n, d, en, ed, rfl, rfl⟩⟩
    · skip
      by_cases e0 : u = []
      · simp (config := { maxSteps := 1000000 }) only [go_sem, Int.reduceToNat, Int.reduceLE, Int.reduceLT, Int.reduceAdd, Int.reduceSub, Int.reduceMul, Int.reduceEq, Int.reduceNe, Nat.reduceEqDiff, Nat.reducePow, Nat.reduceDiv, Nat.reduceMod, Nat.reduceAdd, Nat.reduceMul, Nat.reduceSub, Nat.reduceLT, Nat.reduceLeDiff, reduceIte, reduceCtorEq, b2, b5, b8, b9, b32, h10, h33, List.size_toArray, eql_str, neq_str, guardA_undef, e0, appendA_U]
        exact ⟨0, x, y, rfl, rfl, .inr ⟨by omega, .inl (part_bad1 rfl)⟩⟩
      obtain ⟨b, hb⟩ : ∃ b, u[0]? = some b := ⟨u[0]'(List.length_pos_iff.2 e0), List.getElem?_eq_getElem _⟩
      have i1 := index_str (P := Tryd.prog) (t := 9) (k := .i64) hb Tryd.underlying9
      have hhd : u.head? = some b := by rw [List.head?_eq_getElem?]; exact hb
      by_cases e1 : (19 : Int) < (u.length : Int)
      · simp (config := { maxSteps := 1000000 }) only [go_sem, Int.reduceToNat, Int.reduceLE, Int.reduceLT, Int.reduceAdd, Int.reduceSub, Int.reduceMul, Int.reduceEq, Int.reduceNe, Nat.reduceEqDiff, Nat.reducePow, Nat.reduceDiv, Nat.reduceMod, Nat.reduceAdd, Nat.reduceMul, Nat.reduceSub, Nat.reduceLT, Nat.reduceLeDiff, reduceIte, reduceCtorEq, b2, b5, b8, b9, b32, h10, h33, List.size_toArray, eql_str, neq_str, guardA_undef, e0, e1, appendA_U]
        exact ⟨0, x, y, rfl, rfl, .inr ⟨by omega, .inl (part_bad1 (by unfold okL; rw [decide_eq_true (show 19 < u.length by omega)]; simp))⟩⟩
      have z0 : ((0 : Nat) : Int) = 0 := rfl
      rw [z0] at i1
      by_cases e2 : (b.toNat : Int) = 48
      · by_cases e3 : u = [48]
        · have ok : okL u = true := by rw [e3]; decide
          simp (config := { maxSteps := 1000000 }) only [go_sem, Int.reduceToNat, Int.reduceLE, Int.reduceLT, Int.reduceAdd, Int.reduceSub, Int.reduceMul, Int.reduceEq, Int.reduceNe, Nat.reduceEqDiff, Nat.reducePow, Nat.reduceDiv, Nat.reduceMod, Nat.reduceAdd, Nat.reduceMul, Nat.reduceSub, Nat.reduceLT, Nat.reduceLeDiff, reduceIte, reduceCtorEq, b2, b5, b8, b9, b32, h10, h33, List.size_toArray, eql_str, neq_str, guardA_undef, e0, e1, i1, e2, ← e3, appendA_U]
          refine W.env fun E3 hE => ?_
          have c2 : E3 2 = .ptr H.next 0 0 := by rw [hE]; exact b2
          have c5 : E3 5 = .lit (.bool neg) := by rw [hE]; exact b5
          have c8 : E3 8 = .lit (.bool sl) := by rw [hE]; exact b8
          have c9 : E3 9 = .ptr (H.next + 1) 0 0 := by rw [hE]; exact b9
          have c10 : E3 10 = lin 0 := by rw [hE]; exact h10
          have c11 : E3 11 = lin 0 := by rw [hE]; rfl
          have c12 : E3 12 = .lit (.string ⟨u.toArray⟩) := by rw [hE]; rfl
          have c13 : E3 13 = .lit (.int .u64 0) := by rw [hE]; rfl
          have c33 : E3 33 = lin 0 := by rw [hE]; exact h33
          have c54 : E3 54 = lin u.length := by rw [hE]; rfl
          have c55 : E3 55 = lin 0 := by rw [hE]; rfl
          clear hE
          refine W.loop0 151115691423031627898880 (by rfl) (fun ρ2 H2 => ∃ (j : Nat), ρ2 55 = lin j ∧ ρ2 13 = .lit (.int .u64 (decV (u.take j) : Nat)) ∧ j ≤ u.length ∧ H2 = ext H [.arr 0 23 [.lit (.int .i64 0), .lit (.int .i64 0)], .arr 0 92 [.lit (.int .i64 x), .lit (.int .i64 y)]] ∧ (u.take j).all digB = true) (fun ρ2 H => u.length - (iv (ρ2 55)).toNat) ?_ ?_
          · simp (config := { maxSteps := 1000000 }) only [go_sem, Int.reduceToNat, Int.reduceLE, Int.reduceLT, Int.reduceAdd, Int.reduceSub, Int.reduceMul, Int.reduceEq, Int.reduceNe, Nat.reduceEqDiff, Nat.reducePow, Nat.reduceDiv, Nat.reduceMod, Nat.reduceAdd, Nat.reduceMul, Nat.reduceSub, Nat.reduceLT, Nat.reduceLeDiff, reduceIte, reduceCtorEq, c13, c55, appendA_U]
            exact ⟨0, rfl, rfl, by omega, rfl⟩
          rintro ρ2 H2 ⟨j, d55, d13, hj, rfl, ha⟩
          refine vc_sound _ _ _ (by rfl) ?_
          by_cases hje : j = u.length
          · subst hje
            rw [List.take_length] at ha d13
            have q1 : ¬ (u.length : Int) < (u.length : Int) := by omega
            by_cases hM : (4611686018427387903 : Int) < (decV u : Nat)
            · simp (config := { maxSteps := 1000000 }) only [go_sem, Int.reduceToNat, Int.reduceLE, Int.reduceLT, Int.reduceAdd, Int.reduceSub, Int.reduceMul, Int.reduceEq, Int.reduceNe, Nat.reduceEqDiff, Nat.reducePow, Nat.reduceDiv, Nat.reduceMod, Nat.reduceAdd, Nat.reduceMul, Nat.reduceSub, Nat.reduceLT, Nat.reduceLeDiff, reduceIte, reduceCtorEq, c2, c5, c8, c9, c12, c10, c11, c33, c54, d13, d55, List.size_toArray, guardA_undef, q1, hM, appendA_U]
              exact ⟨0, x, y, rfl, rfl, .inr ⟨by omega, .inl (part_bad3 (by omega))⟩⟩
            · have wM := IntWalk.i64_in ((decV u : Nat) : Int) (by omega)
              simp (config := { maxSteps := 1000000 }) only [go_sem, Int.reduceToNat, Int.reduceLE, Int.reduceLT, Int.reduceAdd, Int.reduceSub, Int.reduceMul, Int.reduceEq, Int.reduceNe, Nat.reduceEqDiff, Nat.reducePow, Nat.reduceDiv, Nat.reduceMod, Nat.reduceAdd, Nat.reduceMul, Nat.reduceSub, Nat.reduceLT, Nat.reduceLeDiff, reduceIte, reduceCtorEq, c2, c5, c8, c9, c12, c10, c11, c33, c54, d13, d55, List.size_toArray, guardA_undef, q1, hM, wM, wk1, wk2, appendA_U]
              exact ⟨1, _, _, rfl, rfl, by omega, rfl, fun _ => ⟨_, part_good ok ha (by omega), rfl⟩, fun h => absurd h (by omega)⟩
          · have q1 : (j : Int) < (u.length : Int) := by omega
            obtain ⟨c, hc⟩ : ∃ c, u[j]? = some c := ⟨u[j]'(by omega), List.getElem?_eq_getElem _⟩
            have ij := index_str (P := Tryd.prog) (t := 9) (k := .i64) hc Tryd.underlying9
            have cb := c.toNat_lt
            by_cases g1 : (c.toNat : Int) < 48
            · simp (config := { maxSteps := 1000000 }) only [go_sem, Int.reduceToNat, Int.reduceLE, Int.reduceLT, Int.reduceAdd, Int.reduceSub, Int.reduceMul, Int.reduceEq, Int.reduceNe, Nat.reduceEqDiff, Nat.reducePow, Nat.reduceDiv, Nat.reduceMod, Nat.reduceAdd, Nat.reduceMul, Nat.reduceSub, Nat.reduceLT, Nat.reduceLeDiff, reduceIte, reduceCtorEq, c2, c5, c8, c9, c12, c10, c11, c33, c54, d13, d55, List.size_toArray, guardA_undef, q1, ij, g1, appendA_U]
              exact ⟨0, x, y, rfl, rfl, .inr ⟨by omega, .inl (part_bad2 (not_all hc (by unfold digB; rw [decide_eq_false (by omega)]; rfl)))⟩⟩
            · by_cases g2 : (57 : Int) < (c.toNat : Int)
              · simp (config := { maxSteps := 1000000 }) only [go_sem, Int.reduceToNat, Int.reduceLE, Int.reduceLT, Int.reduceAdd, Int.reduceSub, Int.reduceMul, Int.reduceEq, Int.reduceNe, Nat.reduceEqDiff, Nat.reducePow, Nat.reduceDiv, Nat.reduceMod, Nat.reduceAdd, Nat.reduceMul, Nat.reduceSub, Nat.reduceLT, Nat.reduceLeDiff, reduceIte, reduceCtorEq, c2, c5, c8, c9, c12, c10, c11, c33, c54, d13, d55, List.size_toArray, guardA_undef, q1, ij, g1, g2, appendA_U]
                exact ⟨0, x, y, rfl, rfl, .inr ⟨by omega, .inl (part_bad2 (not_all hc (by unfold digB; rw [decide_eq_false (show ¬ c.toNat ≤ 57 by omega)]; simp)))⟩⟩
              · have lim : decV (u.take j) < 10 ^ 18 := by
                  have h1 := decV_lt ha
                  rw [List.length_take, Nat.min_eq_left hj] at h1
                  exact Nat.lt_of_lt_of_le h1 (Nat.pow_le_pow_right (by omega) (by omega))
                have p18 : (10 : Nat) ^ 18 = 1000000000000000000 := by decide
                rw [p18] at lim
                have dt := decV_take hc
                have r1 := IntWalk.u64_in (10 * ((decV (u.take j) : Nat) : Int)) (by omega)
                have r2 : IntKind.u8.wrap ((c.toNat : Int) - 48) = (c.toNat : Int) - 48 := by simp [IntKind.wrap, IntKind.bits, IntKind.signed]; omega
                have r3 := IntWalk.u64_in ((c.toNat : Int) - 48) (by omega)
                have r4 := IntWalk.u64_in (10 * ((decV (u.take j) : Nat) : Int) + ((c.toNat : Int) - 48)) (by omega)
                have r5 := IntWalk.i64_in ((j : Int) + 1) (by omega)
                have r6 : 10 * ((decV (u.take j) : Nat) : Int) + ((c.toNat : Int) - 48) = ((decV (u.take (j + 1)) : Nat) : Int) := by omega
                rw [r6] at r4
                simp (config := { maxSteps := 1000000 }) only [go_sem, Int.reduceToNat, Int.reduceLE, Int.reduceLT, Int.reduceAdd, Int.reduceSub, Int.reduceMul, Int.reduceEq, Int.reduceNe, Nat.reduceEqDiff, Nat.reducePow, Nat.reduceDiv, Nat.reduceMod, Nat.reduceAdd, Nat.reduceMul, Nat.reduceSub, Nat.reduceLT, Nat.reduceLeDiff, reduceIte, reduceCtorEq, c2, c5, c8, c9, c12, c10, c11, c33, c54, d13, d55, List.size_toArray, guardA_undef, q1, ij, g1, g2, r1, r2, r3, r4, r5, r6, appendA_U]
                exact ⟨⟨j + 1, by simp, rfl, by omega, all_take_succ hc ha (by unfold digB; rw [decide_eq_true (by omega), decide_eq_true (by omega)]; rfl)⟩, by omega⟩
        · simp (config := { maxSteps := 1000000 }) only [go_sem, Int.reduceToNat, Int.reduceLE, Int.reduceLT, Int.reduceAdd, Int.reduceSub, Int.reduceMul, Int.reduceEq, Int.reduceNe, Nat.reduceEqDiff, Nat.reducePow, Nat.reduceDiv, Nat.reduceMod, Nat.reduceAdd, Nat.reduceMul, Nat.reduceSub, Nat.reduceLT, Nat.reduceLeDiff, reduceIte, reduceCtorEq, b2, b5, b8, b9, b32, h10, h33, List.size_toArray, eql_str, neq_str, guardA_undef, e0, e1, i1, e2, e3, appendA_U]
          exact ⟨0, x, y, rfl, rfl, .inr ⟨by omega, .inl (part_bad1 (by unfold okL; rw [hhd, show b = 48 from UInt8.toNat_inj.1 (by rw [show (48 : UInt8).toNat = 48 from rfl]; omega), decide_eq_false e3]; simp))⟩⟩
      · have ok : okL u = true := by
          unfold okL
          rw [decide_eq_false e0, decide_eq_false (show ¬ 19 < u.length by omega), hhd, decide_eq_false (fun h => e2 (by cases h; rfl))]
          rfl
        simp (config := { maxSteps := 1000000 }) only [go_sem, Int.reduceToNat, Int.reduceLE, Int.reduceLT, Int.reduceAdd, Int.reduceSub, Int.reduceMul, Int.reduceEq, Int.reduceNe, Nat.reduceEqDiff, Nat.reducePow, Nat.reduceDiv, Nat.reduceMod, Nat.reduceAdd, Nat.reduceMul, Nat.reduceSub, Nat.reduceLT, Nat.reduceLeDiff, reduceIte, reduceCtorEq, b2, b5, b8, b9, b32, h10, h33, List.size_toArray, eql_str, neq_str, guardA_undef, e0, e1, i1, e2, appendA_U]
        refine W.env fun E3 hE => ?_
        have c2 : E3 2 = .ptr H.next 0 0 := by rw [hE]; exact b2
        have c5 : E3 5 = .lit (.bool neg) := by rw [hE]; exact b5
        have c8 : E3 8 = .lit (.bool sl) := by rw [hE]; exact b8
        have c9 : E3 9 = .ptr (H.next + 1) 0 0 := by rw [hE]; exact b9
        have c10 : E3 10 = lin 0 := by rw [hE]; exact h10
        have c11 : E3 11 = lin 0 := by rw [hE]; rfl
        have c12 : E3 12 = .lit (.string ⟨u.toArray⟩) := by rw [hE]; rfl
        have c13 : E3 13 = .lit (.int .u64 0) := by rw [hE]; rfl
        have c33 : E3 33 = lin 0 := by rw [hE]; exact h33
        have c54 : E3 54 = lin u.length := by rw [hE]; rfl
        have c55 : E3 55 = lin 0 := by rw [hE]; rfl
        clear hE
        refine W.loop0 151115691423031627898880 (by rfl) (fun ρ2 H2 => ∃ (j : Nat), ρ2 55 = lin j ∧ ρ2 13 = .lit (.int .u64 (decV (u.take j) : Nat)) ∧ j ≤ u.length ∧ H2 = ext H [.arr 0 23 [.lit (.int .i64 0), .lit (.int .i64 0)], .arr 0 92 [.lit (.int .i64 x), .lit (.int .i64 y)]] ∧ (u.take j).all digB = true) (fun ρ2 H => u.length - (iv (ρ2 55)).toNat) ?_ ?_
        · simp (config := { maxSteps := 1000000 }) only [go_sem, Int.reduceToNat, Int.reduceLE, Int.reduceLT, Int.reduceAdd, Int.reduceSub, Int.reduceMul, Int.reduceEq, Int.reduceNe, Nat.reduceEqDiff, Nat.reducePow, Nat.reduceDiv, Nat.reduceMod, Nat.reduceAdd, Nat.reduceMul, Nat.reduceSub, Nat.reduceLT, Nat.reduceLeDiff, reduceIte, reduceCtorEq, c13, c55, appendA_U]
          exact ⟨0, rfl, rfl, by omega, rfl⟩
        rintro ρ2 H2 ⟨j, d55, d13, hj, rfl, ha⟩
        refine vc_sound _ _ _ (by rfl) ?_
        by_cases hje : j = u.length
        · subst hje
          rw [List.take_length] at ha d13
          have q1 : ¬ (u.length : Int) < (u.length : Int) := by omega
          by_cases hM : (4611686018427387903 : Int) < (decV u : Nat)
          · simp (config := { maxSteps := 1000000 }) only [go_sem, Int.reduceToNat, Int.reduceLE, Int.reduceLT, Int.reduceAdd, Int.reduceSub, Int.reduceMul, Int.reduceEq, Int.reduceNe, Nat.reduceEqDiff, Nat.reducePow, Nat.reduceDiv, Nat.reduceMod, Nat.reduceAdd, Nat.reduceMul, Nat.reduceSub, Nat.reduceLT, Nat.reduceLeDiff, reduceIte, reduceCtorEq, c2, c5, c8, c9, c12, c10, c11, c33, c54, d13, d55, List.size_toArray, guardA_undef, q1, hM, appendA_U]
            exact ⟨0, x, y, rfl, rfl, .inr ⟨by omega, .inl (part_bad3 (by omega))⟩⟩
          · have wM := IntWalk.i64_in ((decV u : Nat) : Int) (by omega)
            simp (config := { maxSteps := 1000000 }) only [go_sem, Int.reduceToNat, Int.reduceLE, Int.reduceLT, Int.reduceAdd, Int.reduceSub, Int.reduceMul, Int.reduceEq, Int.reduceNe, Nat.reduceEqDiff, Nat.reducePow, Nat.reduceDiv, Nat.reduceMod, Nat.reduceAdd, Nat.reduceMul, Nat.reduceSub, Nat.reduceLT, Nat.reduceLeDiff, reduceIte, reduceCtorEq, c2, c5, c8, c9, c12, c10, c11, c33, c54, d13, d55, List.size_toArray, guardA_undef, q1, hM, wM, wk1, wk2, appendA_U]
            exact ⟨1, _, _, rfl, rfl, by omega, rfl, fun _ => ⟨_, part_good ok ha (by omega), rfl⟩, fun h => absurd h (by omega)⟩
        · have q1 : (j : Int) < (u.length : Int) := by omega
          obtain ⟨c, hc⟩ : ∃ c, u[j]? = some c := ⟨u[j]'(by omega), List.getElem?_eq_getElem _⟩
          have ij := index_str (P := Tryd.prog) (t := 9) (k := .i64) hc Tryd.underlying9
          have cb := c.toNat_lt
          by_cases g1 : (c.toNat : Int) < 48
          · simp (config := { maxSteps := 1000000 }) only [go_sem, Int.reduceToNat, Int.reduceLE, Int.reduceLT, Int.reduceAdd, Int.reduceSub, Int.reduceMul, Int.reduceEq, Int.reduceNe, Nat.reduceEqDiff, Nat.reducePow, Nat.reduceDiv, Nat.reduceMod, Nat.reduceAdd, Nat.reduceMul, Nat.reduceSub, Nat.reduceLT, Nat.reduceLeDiff, reduceIte, reduceCtorEq, c2, c5, c8, c9, c12, c10, c11, c33, c54, d13, d55, List.size_toArray, guardA_undef, q1, ij, g1, appendA_U]
            exact ⟨0, x, y, rfl, rfl, .inr ⟨by omega, .inl (part_bad2 (not_all hc (by unfold digB; rw [decide_eq_false (by omega)]; rfl)))⟩⟩
          · by_cases g2 : (57 : Int) < (c.toNat : Int)
            · simp (config := { maxSteps := 1000000 }) only [go_sem, Int.reduceToNat, Int.reduceLE, Int.reduceLT, Int.reduceAdd, Int.reduceSub, Int.reduceMul, Int.reduceEq, Int.reduceNe, Nat.reduceEqDiff, Nat.reducePow, Nat.reduceDiv, Nat.reduceMod, Nat.reduceAdd, Nat.reduceMul, Nat.reduceSub, Nat.reduceLT, Nat.reduceLeDiff, reduceIte, reduceCtorEq, c2, c5, c8, c9, c12, c10, c11, c33, c54, d13, d55, List.size_toArray, guardA_undef, q1, ij, g1, g2, appendA_U]
              exact ⟨0, x, y, rfl, rfl, .inr ⟨by omega, .inl (part_bad2 (not_all hc (by unfold digB; rw [decide_eq_false (show ¬ c.toNat ≤ 57 by omega)]; simp)))⟩⟩
            · have lim : decV (u.take j) < 10 ^ 18 := by
                have h1 := decV_lt ha
                rw [List.length_take, Nat.min_eq_left hj] at h1
                exact Nat.lt_of_lt_of_le h1 (Nat.pow_le_pow_right (by omega) (by omega))
              have p18 : (10 : Nat) ^ 18 = 1000000000000000000 := by decide
              rw [p18] at lim
              have dt := decV_take hc
              have r1 := IntWalk.u64_in (10 * ((decV (u.take j) : Nat) : Int)) (by omega)
              have r2 : IntKind.u8.wrap ((c.toNat : Int) - 48) = (c.toNat : Int) - 48 := by simp [IntKind.wrap, IntKind.bits, IntKind.signed]; omega
              have r3 := IntWalk.u64_in ((c.toNat : Int) - 48) (by omega)
              have r4 := IntWalk.u64_in (10 * ((decV (u.take j) : Nat) : Int) + ((c.toNat : Int) - 48)) (by omega)
              have r5 := IntWalk.i64_in ((j : Int) + 1) (by omega)
              have r6 : 10 * ((decV (u.take j) : Nat) : Int) + ((c.toNat : Int) - 48) = ((decV (u.take (j + 1)) : Nat) : Int) := by omega
              rw [r6] at r4
              simp (config := { maxSteps := 1000000 }) only [go_sem, Int.reduceToNat, Int.reduceLE, Int.reduceLT, Int.reduceAdd, Int.reduceSub, Int.reduceMul, Int.reduceEq, Int.reduceNe, Nat.reduceEqDiff, Nat.reducePow, Nat.reduceDiv, Nat.reduceMod, Nat.reduceAdd, Nat.reduceMul, Nat.reduceSub, Nat.reduceLT, Nat.reduceLeDiff, reduceIte, reduceCtorEq, c2, c5, c8, c9, c12, c10, c11, c33, c54, d13, d55, List.size_toArray, guardA_undef, q1, ij, g1, g2, r1, r2, r3, r4, r5, r6, appendA_U]
              exact ⟨⟨j + 1, by simp, rfl, by omega, all_take_succ hc ha (by unfold digB; rw [decide_eq_true (by omega), decide_eq_true (by omega)]; rfl)⟩, by omega⟩
    · skip
      by_cases e0 : w = []
      · simp (config := { maxSteps := 1000000 }) only [go_sem, Int.reduceToNat, Int.reduceLE, Int.reduceLT, Int.reduceAdd, Int.reduceSub, Int.reduceMul, Int.reduceEq, Int.reduceNe, Nat.reduceEqDiff, Nat.reducePow, Nat.reduceDiv, Nat.reduceMod, Nat.reduceAdd, Nat.reduceMul, Nat.reduceSub, Nat.reduceLT, Nat.reduceLeDiff, reduceIte, reduceCtorEq, b2, b5, b8, b9, b32, h10, h33, List.size_toArray, eql_str, neq_str, guardA_undef, e0, appendA_U]
        exact ⟨1, x, y, rfl, rfl, .inr ⟨by omega, .inr (part_bad1 rfl)⟩⟩
      obtain ⟨b, hb⟩ : ∃ b, w[0]? = some b := ⟨w[0]'(List.length_pos_iff.2 e0), List.getElem?_eq_getElem _⟩
      have i1 := index_str (P := Tryd.prog) (t := 9) (k := .i64) hb Tryd.underlying9
      have hhd : w.head? = some b := by rw [List.head?_eq_getElem?]; exact hb
      by_cases e1 : (19 : Int) < (w.length : Int)
      · simp (config := { maxSteps := 1000000 }) only [go_sem, Int.reduceToNat, Int.reduceLE, Int.reduceLT, Int.reduceAdd, Int.reduceSub, Int.reduceMul, Int.reduceEq, Int.reduceNe, Nat.reduceEqDiff, Nat.reducePow, Nat.reduceDiv, Nat.reduceMod, Nat.reduceAdd, Nat.reduceMul, Nat.reduceSub, Nat.reduceLT, Nat.reduceLeDiff, reduceIte, reduceCtorEq, b2, b5, b8, b9, b32, h10, h33, List.size_toArray, eql_str, neq_str, guardA_undef, e0, e1, appendA_U]
        exact ⟨1, x, y, rfl, rfl, .inr ⟨by omega, .inr (part_bad1 (by unfold okL; rw [decide_eq_true (show 19 < w.length by omega)]; simp))⟩⟩
      have z0 : ((0 : Nat) : Int) = 0 := rfl
      rw [z0] at i1
      by_cases e2 : (b.toNat : Int) = 48
      · by_cases e3 : w = [48]
        · have ok : okL w = true := by rw [e3]; decide
          simp (config := { maxSteps := 1000000 }) only [go_sem, Int.reduceToNat, Int.reduceLE, Int.reduceLT, Int.reduceAdd, Int.reduceSub, Int.reduceMul, Int.reduceEq, Int.reduceNe, Nat.reduceEqDiff, Nat.reducePow, Nat.reduceDiv, Nat.reduceMod, Nat.reduceAdd, Nat.reduceMul, Nat.reduceSub, Nat.reduceLT, Nat.reduceLeDiff, reduceIte, reduceCtorEq, b2, b5, b8, b9, b32, h10, h33, List.size_toArray, eql_str, neq_str, guardA_undef, e0, e1, i1, e2, ← e3, appendA_U]
          refine W.env fun E3 hE => ?_
          have c2 : E3 2 = .ptr H.next 0 0 := by rw [hE]; exact b2
          have c5 : E3 5 = .lit (.bool neg) := by rw [hE]; exact b5
          have c8 : E3 8 = .lit (.bool sl) := by rw [hE]; exact b8
          have c9 : E3 9 = .ptr (H.next + 1) 0 0 := by rw [hE]; exact b9
          have c10 : E3 10 = lin 1 := by rw [hE]; exact h10
          have c11 : E3 11 = lin 1 := by rw [hE]; rfl
          have c12 : E3 12 = .lit (.string ⟨w.toArray⟩) := by rw [hE]; rfl
          have c13 : E3 13 = .lit (.int .u64 0) := by rw [hE]; rfl
          have c33 : E3 33 = lin 1 := by rw [hE]; exact h33
          have c54 : E3 54 = lin w.length := by rw [hE]; rfl
          have c55 : E3 55 = lin 0 := by rw [hE]; rfl
          clear hE
          refine W.loop0 151115691423031627898880 (by rfl) (fun ρ2 H2 => ∃ (j : Nat), ρ2 55 = lin j ∧ ρ2 13 = .lit (.int .u64 (decV (w.take j) : Nat)) ∧ j ≤ w.length ∧ H2 = ext H [.arr 0 23 [.lit (.int .i64 0), .lit (.int .i64 0)], .arr 0 92 [.lit (.int .i64 x), .lit (.int .i64 y)]] ∧ (w.take j).all digB = true) (fun ρ2 H => w.length - (iv (ρ2 55)).toNat) ?_ ?_
          · simp (config := { maxSteps := 1000000 }) only [go_sem, Int.reduceToNat, Int.reduceLE, Int.reduceLT, Int.reduceAdd, Int.reduceSub, Int.reduceMul, Int.reduceEq, Int.reduceNe, Nat.reduceEqDiff, Nat.reducePow, Nat.reduceDiv, Nat.reduceMod, Nat.reduceAdd, Nat.reduceMul, Nat.reduceSub, Nat.reduceLT, Nat.reduceLeDiff, reduceIte, reduceCtorEq, c13, c55, appendA_U]
            exact ⟨0, rfl, rfl, by omega, rfl⟩
          rintro ρ2 H2 ⟨j, d55, d13, hj, rfl, ha⟩
          refine vc_sound _ _ _ (by rfl) ?_
          by_cases hje : j = w.length
          · subst hje
            rw [List.take_length] at ha d13
            have q1 : ¬ (w.length : Int) < (w.length : Int) := by omega
            by_cases hM : (4611686018427387903 : Int) < (decV w : Nat)
            · simp (config := { maxSteps := 1000000 }) only [go_sem, Int.reduceToNat, Int.reduceLE, Int.reduceLT, Int.reduceAdd, Int.reduceSub, Int.reduceMul, Int.reduceEq, Int.reduceNe, Nat.reduceEqDiff, Nat.reducePow, Nat.reduceDiv, Nat.reduceMod, Nat.reduceAdd, Nat.reduceMul, Nat.reduceSub, Nat.reduceLT, Nat.reduceLeDiff, reduceIte, reduceCtorEq, c2, c5, c8, c9, c12, c10, c11, c33, c54, d13, d55, List.size_toArray, guardA_undef, q1, hM, appendA_U]
              exact ⟨1, x, y, rfl, rfl, .inr ⟨by omega, .inr (part_bad3 (by omega))⟩⟩
            · have wM := IntWalk.i64_in ((decV w : Nat) : Int) (by omega)
              simp (config := { maxSteps := 1000000 }) only [go_sem, Int.reduceToNat, Int.reduceLE, Int.reduceLT, Int.reduceAdd, Int.reduceSub, Int.reduceMul, Int.reduceEq, Int.reduceNe, Nat.reduceEqDiff, Nat.reducePow, Nat.reduceDiv, Nat.reduceMod, Nat.reduceAdd, Nat.reduceMul, Nat.reduceSub, Nat.reduceLT, Nat.reduceLeDiff, reduceIte, reduceCtorEq, c2, c5, c8, c9, c12, c10, c11, c33, c54, d13, d55, List.size_toArray, guardA_undef, q1, hM, wM, wk1, wk2, appendA_U]
              exact ⟨2, _, _, rfl, rfl, by omega, rfl, fun _ => hx (by omega), fun _ => ⟨_, part_good ok ha (by omega), rfl⟩⟩
          · have q1 : (j : Int) < (w.length : Int) := by omega
            obtain ⟨c, hc⟩ : ∃ c, w[j]? = some c := ⟨w[j]'(by omega), List.getElem?_eq_getElem _⟩
            have ij := index_str (P := Tryd.prog) (t := 9) (k := .i64) hc Tryd.underlying9
            have cb := c.toNat_lt
            by_cases g1 : (c.toNat : Int) < 48
            · simp (config := { maxSteps := 1000000 }) only [go_sem, Int.reduceToNat, Int.reduceLE, Int.reduceLT, Int.reduceAdd, Int.reduceSub, Int.reduceMul, Int.reduceEq, Int.reduceNe, Nat.reduceEqDiff, Nat.reducePow, Nat.reduceDiv, Nat.reduceMod, Nat.reduceAdd, Nat.reduceMul, Nat.reduceSub, Nat.reduceLT, Nat.reduceLeDiff, reduceIte, reduceCtorEq, c2, c5, c8, c9, c12, c10, c11, c33, c54, d13, d55, List.size_toArray, guardA_undef, q1, ij, g1, appendA_U]
              exact ⟨1, x, y, rfl, rfl, .inr ⟨by omega, .inr (part_bad2 (not_all hc (by unfold digB; rw [decide_eq_false (by omega)]; rfl)))⟩⟩
            · by_cases g2 : (57 : Int) < (c.toNat : Int)
              · simp (config := { maxSteps := 1000000 }) only [go_sem, Int.reduceToNat, Int.reduceLE, Int.reduceLT, Int.reduceAdd, Int.reduceSub, Int.reduceMul, Int.reduceEq, Int.reduceNe, Nat.reduceEqDiff, Nat.reducePow, Nat.reduceDiv, Nat.reduceMod, Nat.reduceAdd, Nat.reduceMul, Nat.reduceSub, Nat.reduceLT, Nat.reduceLeDiff, reduceIte, reduceCtorEq, c2, c5, c8, c9, c12, c10, c11, c33, c54, d13, d55, List.size_toArray, guardA_undef, q1, ij, g1, g2, appendA_U]
                exact ⟨1, x, y, rfl, rfl, .inr ⟨by omega, .inr (part_bad2 (not_all hc (by unfold digB; rw [decide_eq_false (show ¬ c.toNat ≤ 57 by omega)]; simp)))⟩⟩
              · have lim : decV (w.take j) < 10 ^ 18 := by
                  have h1 := decV_lt ha
                  rw [List.length_take, Nat.min_eq_left hj] at h1
                  exact Nat.lt_of_lt_of_le h1 (Nat.pow_le_pow_right (by omega) (by omega))
                have p18 : (10 : Nat) ^ 18 = 1000000000000000000 := by decide
                rw [p18] at lim
                have dt := decV_take hc
                have r1 := IntWalk.u64_in (10 * ((decV (w.take j) : Nat) : Int)) (by omega)
                have r2 : IntKind.u8.wrap ((c.toNat : Int) - 48) = (c.toNat : Int) - 48 := by simp [IntKind.wrap, IntKind.bits, IntKind.signed]; omega
                have r3 := IntWalk.u64_in ((c.toNat : Int) - 48) (by omega)
                have r4 := IntWalk.u64_in (10 * ((decV (w.take j) : Nat) : Int) + ((c.toNat : Int) - 48)) (by omega)
                have r5 := IntWalk.i64_in ((j : Int) + 1) (by omega)
                have r6 : 10 * ((decV (w.take j) : Nat) : Int) + ((c.toNat : Int) - 48) = ((decV (w.take (j + 1)) : Nat) : Int) := by omega
                rw [r6] at r4
                simp (config := { maxSteps := 1000000 }) only [go_sem, Int.reduceToNat, Int.reduceLE, Int.reduceLT, Int.reduceAdd, Int.reduceSub, Int.reduceMul, Int.reduceEq, Int.reduceNe, Nat.reduceEqDiff, Nat.reducePow, Nat.reduceDiv, Nat.reduceMod, Nat.reduceAdd, Nat.reduceMul, Nat.reduceSub, Nat.reduceLT, Nat.reduceLeDiff, reduceIte, reduceCtorEq, c2, c5, c8, c9, c12, c10, c11, c33, c54, d13, d55, List.size_toArray, guardA_undef, q1, ij, g1, g2, r1, r2, r3, r4, r5, r6, appendA_U]
                exact ⟨⟨j + 1, by simp, rfl, by omega, all_take_succ hc ha (by unfold digB; rw [decide_eq_true (by omega), decide_eq_true (by omega)]; rfl)⟩, by omega⟩
        · simp (config := { maxSteps := 1000000 }) only [go_sem, Int.reduceToNat, Int.reduceLE, Int.reduceLT, Int.reduceAdd, Int.reduceSub, Int.reduceMul, Int.reduceEq, Int.reduceNe, Nat.reduceEqDiff, Nat.reducePow, Nat.reduceDiv, Nat.reduceMod, Nat.reduceAdd, Nat.reduceMul, Nat.reduceSub, Nat.reduceLT, Nat.reduceLeDiff, reduceIte, reduceCtorEq, b2, b5, b8, b9, b32, h10, h33, List.size_toArray, eql_str, neq_str, guardA_undef, e0, e1, i1, e2, e3, appendA_U]
          exact ⟨1, x, y, rfl, rfl, .inr ⟨by omega, .inr (part_bad1 (by unfold okL; rw [hhd, show b = 48 from UInt8.toNat_inj.1 (by rw [show (48 : UInt8).toNat = 48 from rfl]; omega), decide_eq_false e3]; simp))⟩⟩
      · have ok : okL w = true := by
          unfold okL
          rw [decide_eq_false e0, decide_eq_false (show ¬ 19 < w.length by omega), hhd, decide_eq_false (fun h => e2 (by cases h; rfl))]
          rfl
        simp (config := { maxSteps := 1000000 }) only [go_sem, Int.reduceToNat, Int.reduceLE, Int.reduceLT, Int.reduceAdd, Int.reduceSub, Int.reduceMul, Int.reduceEq, Int.reduceNe, Nat.reduceEqDiff, Nat.reducePow, Nat.reduceDiv, Nat.reduceMod, Nat.reduceAdd, Nat.reduceMul, Nat.reduceSub, Nat.reduceLT, Nat.reduceLeDiff, reduceIte, reduceCtorEq, b2, b5, b8, b9, b32, h10, h33, List.size_toArray, eql_str, neq_str, guardA_undef, e0, e1, i1, e2, appendA_U]
        refine W.env fun E3 hE => ?_
        have c2 : E3 2 = .ptr H.next 0 0 := by rw [hE]; exact b2
        have c5 : E3 5 = .lit (.bool neg) := by rw [hE]; exact b5
        have c8 : E3 8 = .lit (.bool sl) := by rw [hE]; exact b8
        have c9 : E3 9 = .ptr (H.next + 1) 0 0 := by rw [hE]; exact b9
        have c10 : E3 10 = lin 1 := by rw [hE]; exact h10
        have c11 : E3 11 = lin 1 := by rw [hE]; rfl
        have c12 : E3 12 = .lit (.string ⟨w.toArray⟩) := by rw [hE]; rfl
        have c13 : E3 13 = .lit (.int .u64 0) := by rw [hE]; rfl
        have c33 : E3 33 = lin 1 := by rw [hE]; exact h33
        have c54 : E3 54 = lin w.length := by rw [hE]; rfl
        have c55 : E3 55 = lin 0 := by rw [hE]; rfl
        clear hE
        refine W.loop0 151115691423031627898880 (by rfl) (fun ρ2 H2 => ∃ (j : Nat), ρ2 55 = lin j ∧ ρ2 13 = .lit (.int .u64 (decV (w.take j) : Nat)) ∧ j ≤ w.length ∧ H2 = ext H [.arr 0 23 [.lit (.int .i64 0), .lit (.int .i64 0)], .arr 0 92 [.lit (.int .i64 x), .lit (.int .i64 y)]] ∧ (w.take j).all digB = true) (fun ρ2 H => w.length - (iv (ρ2 55)).toNat) ?_ ?_
        · simp (config := { maxSteps := 1000000 }) only [go_sem, Int.reduceToNat, Int.reduceLE, Int.reduceLT, Int.reduceAdd, Int.reduceSub, Int.reduceMul, Int.reduceEq, Int.reduceNe, Nat.reduceEqDiff, Nat.reducePow, Nat.reduceDiv, Nat.reduceMod, Nat.reduceAdd, Nat.reduceMul, Nat.reduceSub, Nat.reduceLT, Nat.reduceLeDiff, reduceIte, reduceCtorEq, c13, c55, appendA_U]
          exact ⟨0, rfl, rfl, by omega, rfl⟩
        rintro ρ2 H2 ⟨j, d55, d13, hj, rfl, ha⟩
        refine vc_sound _ _ _ (by rfl) ?_
        by_cases hje : j = w.length
        · subst hje
          rw [List.take_length] at ha d13
          have q1 : ¬ (w.length : Int) < (w.length : Int) := by omega
          by_cases hM : (4611686018427387903 : Int) < (decV w : Nat)
          · simp (config := { maxSteps := 1000000 }) only [go_sem, Int.reduceToNat, Int.reduceLE, Int.reduceLT, Int.reduceAdd, Int.reduceSub, Int.reduceMul, Int.reduceEq, Int.reduceNe, Nat.reduceEqDiff, Nat.reducePow, Nat.reduceDiv, Nat.reduceMod, Nat.reduceAdd, Nat.reduceMul, Nat.reduceSub, Nat.reduceLT, Nat.reduceLeDiff, reduceIte, reduceCtorEq, c2, c5, c8, c9, c12, c10, c11, c33, c54, d13, d55, List.size_toArray, guardA_undef, q1, hM, appendA_U]
            exact ⟨1, x, y, rfl, rfl, .inr ⟨by omega, .inr (part_bad3 (by omega))⟩⟩
          · have wM := IntWalk.i64_in ((decV w : Nat) : Int) (by omega)
            simp (config := { maxSteps := 1000000 }) only [go_sem, Int.reduceToNat, Int.reduceLE, Int.reduceLT, Int.reduceAdd, Int.reduceSub, Int.reduceMul, Int.reduceEq, Int.reduceNe, Nat.reduceEqDiff, Nat.reducePow, Nat.reduceDiv, Nat.reduceMod, Nat.reduceAdd, Nat.reduceMul, Nat.reduceSub, Nat.reduceLT, Nat.reduceLeDiff, reduceIte, reduceCtorEq, c2, c5, c8, c9, c12, c10, c11, c33, c54, d13, d55, List.size_toArray, guardA_undef, q1, hM, wM, wk1, wk2, appendA_U]
            exact ⟨2, _, _, rfl, rfl, by omega, rfl, fun _ => hx (by omega), fun _ => ⟨_, part_good ok ha (by omega), rfl⟩⟩
        · have q1 : (j : Int) < (w.length : Int) := by omega
          obtain ⟨c, hc⟩ : ∃ c, w[j]? = some c := ⟨w[j]'(by omega), List.getElem?_eq_getElem _⟩
          have ij := index_str (P := Tryd.prog) (t := 9) (k := .i64) hc Tryd.underlying9
          have cb := c.toNat_lt
          by_cases g1 : (c.toNat : Int) < 48
          · simp (config := { maxSteps := 1000000 }) only [go_sem, Int.reduceToNat, Int.reduceLE, Int.reduceLT, Int.reduceAdd, Int.reduceSub, Int.reduceMul, Int.reduceEq, Int.reduceNe, Nat.reduceEqDiff, Nat.reducePow, Nat.reduceDiv, Nat.reduceMod, Nat.reduceAdd, Nat.reduceMul, Nat.reduceSub, Nat.reduceLT, Nat.reduceLeDiff, reduceIte, reduceCtorEq, c2, c5, c8, c9, c12, c10, c11, c33, c54, d13, d55, List.size_toArray, guardA_undef, q1, ij, g1, appendA_U]
            exact ⟨1, x, y, rfl, rfl, .inr ⟨by omega, .inr (part_bad2 (not_all hc (by unfold digB; rw [decide_eq_false (by omega)]; rfl)))⟩⟩
          · by_cases g2 : (57 : Int) < (c.toNat : Int)
            · simp (config := { maxSteps := 1000000 }) only [go_sem, Int.reduceToNat, Int.reduceLE, Int.reduceLT, Int.reduceAdd, Int.reduceSub, Int.reduceMul, Int.reduceEq, Int.reduceNe, Nat.reduceEqDiff, Nat.reducePow, Nat.reduceDiv, Nat.reduceMod, Nat.reduceAdd, Nat.reduceMul, Nat.reduceSub, Nat.reduceLT, Nat.reduceLeDiff, reduceIte, reduceCtorEq, c2, c5, c8, c9, c12, c10, c11, c33, c54, d13, d55, List.size_toArray, guardA_undef, q1, ij, g1, g2, appendA_U]
              exact ⟨1, x, y, rfl, rfl, .inr ⟨by omega, .inr (part_bad2 (not_all hc (by unfold digB; rw [decide_eq_false (show ¬ c.toNat ≤ 57 by omega)]; simp)))⟩⟩
            · have lim : decV (w.take j) < 10 ^ 18 := by
                have h1 := decV_lt ha
                rw [List.length_take, Nat.min_eq_left hj] at h1
                exact Nat.lt_of_lt_of_le h1 (Nat.pow_le_pow_right (by omega) (by omega))
              have p18 : (10 : Nat) ^ 18 = 1000000000000000000 := by decide
              rw [p18] at lim
              have dt := decV_take hc
              have r1 := IntWalk.u64_in (10 * ((decV (w.take j) : Nat) : Int)) (by omega)
              have r2 : IntKind.u8.wrap ((c.toNat : Int) - 48) = (c.toNat : Int) - 48 := by simp [IntKind.wrap, IntKind.bits, IntKind.signed]; omega
              have r3 := IntWalk.u64_in ((c.toNat : Int) - 48) (by omega)
              have r4 := IntWalk.u64_in (10 * ((decV (w.take j) : Nat) : Int) + ((c.toNat : Int) - 48)) (by omega)
              have r5 := IntWalk.i64_in ((j : Int) + 1) (by omega)
              have r6 : 10 * ((decV (w.take j) : Nat) : Int) + ((c.toNat : Int) - 48) = ((decV (w.take (j + 1)) : Nat) : Int) := by omega
              rw [r6] at r4
              simp (config := { maxSteps := 1000000 }) only [go_sem, Int.reduceToNat, Int.reduceLE, Int.reduceLT, Int.reduceAdd, Int.reduceSub, Int.reduceMul, Int.reduceEq, Int.reduceNe, Nat.reduceEqDiff, Nat.reducePow, Nat.reduceDiv, Nat.reduceMod, Nat.reduceAdd, Nat.reduceMul, Nat.reduceSub, Nat.reduceLT, Nat.reduceLeDiff, reduceIte, reduceCtorEq, c2, c5, c8, c9, c12, c10, c11, c33, c54, d13, d55, List.size_toArray, guardA_undef, q1, ij, g1, g2, r1, r2, r3, r4, r5, r6, appendA_U]
              exact ⟨⟨j + 1, by simp, rfl, by omega, all_take_succ hc ha (by unfold digB; rw [decide_eq_true (by omega), decide_eq_true (by omega)]; rfl)⟩, by omega⟩
  · rintro ax ⟨E4, H4⟩ ⟨rfl, rd, x, y, eH, a2, a5, a8, a9, a10, hcase⟩
    simp only at eH a2 a5 a8 a9 a10
    subst eH
    show W Tryd.prog G0 121 none _ _ _
    have fq : ∀ (x y : Int), checkQ x y = 0 ∨ checkQ x y = 5 := checkQ_cases
    rcases hcase with ⟨rfl, n, d, hn, hd, rfl, rfl⟩ | ⟨hrd, hbad⟩
    · rw [hn, hd] at hK
      have bn := part_le hn
      have bd := part_le hd
      simp only at hK
      refine vc_sound _ _ _ (by rfl) ?_
      have wneg := IntWalk.i64_in (-(n : Int)) (by omega)
      have sneg : (0 : Int) - (n : Int) = -(n : Int) := by omega
      cases sl with
      | true =>
        by_cases g1 : d = 1
        · subst g1
          rw [if_pos (.inl ⟨rfl, rfl⟩)] at hK
          simp (config := { maxSteps := 1000000 }) only [go_sem, Int.reduceToNat, Int.reduceLE, Int.reduceLT, Int.reduceAdd, Int.reduceSub, Int.reduceMul, Int.reduceEq, Int.reduceNe, Nat.reduceEqDiff, Nat.reducePow, Nat.reduceDiv, Nat.reduceMod, Nat.reduceAdd, Nat.reduceMul, Nat.reduceSub, Nat.reduceLT, Nat.reduceLeDiff, reduceIte, reduceCtorEq, a2, a5, a8, a9, a10, guardA_undef, ext_ext, List.cons_append, List.nil_append, appendA_U]
          exact FinV.drop G0_ok hcl (fz_tq _ _ _) hK
        have g1' : ¬ (d : Int) = 1 := by omega
        cases neg with
        | true =>
          by_cases g2 : n = 0
          · subst g2
            rw [if_pos (.inr (.inl ⟨rfl, rfl⟩))] at hK
            have n0 : ((0 : Nat) : Int) = 0 := rfl
            simp (config := { maxSteps := 1000000 }) only [go_sem, Int.reduceToNat, Int.reduceLE, Int.reduceLT, Int.reduceAdd, Int.reduceSub, Int.reduceMul, Int.reduceEq, Int.reduceNe, Nat.reduceEqDiff, Nat.reducePow, Nat.reduceDiv, Nat.reduceMod, Nat.reduceAdd, Nat.reduceMul, Nat.reduceSub, Nat.reduceLT, Nat.reduceLeDiff, reduceIte, reduceCtorEq, a2, a5, a8, a9, a10, guardA_undef, ext_ext, List.cons_append, List.nil_append, g1', n0, appendA_U]
            exact FinV.drop G0_ok hcl (fz_tq _ _ _) hK
          have g2' : ¬ (n : Int) = 0 := by omega
          simp (config := { maxSteps := 1000000 }) only [go_sem, Int.reduceToNat, Int.reduceLE, Int.reduceLT, Int.reduceAdd, Int.reduceSub, Int.reduceMul, Int.reduceEq, Int.reduceNe, Nat.reduceEqDiff, Nat.reducePow, Nat.reduceDiv, Nat.reduceMod, Nat.reduceAdd, Nat.reduceMul, Nat.reduceSub, Nat.reduceLT, Nat.reduceLeDiff, reduceIte, reduceCtorEq, a2, a5, a8, a9, a10, guardA_undef, ext_ext, List.cons_append, List.nil_append, g1', g2', appendA_U]
          refine AApply.clo (fcheck_spec n d (by omega) (by omega) _ _ ⟨trivial, ?_⟩)
          rcases fq n d with hc | hc
          · rw [hc]
            rw [hc] at hK
            rw [if_neg (by simp [g1, g2])] at hK
            simp (config := { maxSteps := 1000000 }) only [go_sem, Int.reduceToNat, Int.reduceLE, Int.reduceLT, Int.reduceAdd, Int.reduceSub, Int.reduceMul, Int.reduceEq, Int.reduceNe, Nat.reduceEqDiff, Nat.reducePow, Nat.reduceDiv, Nat.reduceMod, Nat.reduceAdd, Nat.reduceMul, Nat.reduceSub, Nat.reduceLT, Nat.reduceLeDiff, reduceIte, reduceCtorEq, a2, a5, a8, a9, a10, guardA_undef, ext_ext, List.cons_append, List.nil_append, wneg, sneg, appendA_U]
            exact FinV.drop G0_ok hcl (fz_tq _ _ _) (by simp at hK; exact hK)
          · rw [hc]
            rw [hc, if_pos (.inr (.inr (by decide)))] at hK
            simp (config := { maxSteps := 1000000 }) only [go_sem, Int.reduceToNat, Int.reduceLE, Int.reduceLT, Int.reduceAdd, Int.reduceSub, Int.reduceMul, Int.reduceEq, Int.reduceNe, Nat.reduceEqDiff, Nat.reducePow, Nat.reduceDiv, Nat.reduceMod, Nat.reduceAdd, Nat.reduceMul, Nat.reduceSub, Nat.reduceLT, Nat.reduceLeDiff, reduceIte, reduceCtorEq, a2, a5, a8, a9, a10, guardA_undef, ext_ext, List.cons_append, List.nil_append, appendA_U]
            exact FinV.drop G0_ok hcl (fz_tq _ _ _) hK
        | false =>
          simp (config := { maxSteps := 1000000 }) only [go_sem, Int.reduceToNat, Int.reduceLE, Int.reduceLT, Int.reduceAdd, Int.reduceSub, Int.reduceMul, Int.reduceEq, Int.reduceNe, Nat.reduceEqDiff, Nat.reducePow, Nat.reduceDiv, Nat.reduceMod, Nat.reduceAdd, Nat.reduceMul, Nat.reduceSub, Nat.reduceLT, Nat.reduceLeDiff, reduceIte, reduceCtorEq, a2, a5, a8, a9, a10, guardA_undef, ext_ext, List.cons_append, List.nil_append, g1', appendA_U]
          refine AApply.clo (fcheck_spec n d (by omega) (by omega) _ _ ⟨trivial, ?_⟩)
          rcases fq n d with hc | hc
          · rw [hc]
            rw [hc] at hK
            rw [if_neg (by simp [g1])] at hK
            simp (config := { maxSteps := 1000000 }) only [go_sem, Int.reduceToNat, Int.reduceLE, Int.reduceLT, Int.reduceAdd, Int.reduceSub, Int.reduceMul, Int.reduceEq, Int.reduceNe, Nat.reduceEqDiff, Nat.reducePow, Nat.reduceDiv, Nat.reduceMod, Nat.reduceAdd, Nat.reduceMul, Nat.reduceSub, Nat.reduceLT, Nat.reduceLeDiff, reduceIte, reduceCtorEq, a2, a5, a8, a9, a10, guardA_undef, ext_ext, List.cons_append, List.nil_append, appendA_U]
            exact FinV.drop G0_ok hcl (fz_tq _ _ _) (by simp at hK; exact hK)
          · rw [hc]
            rw [hc, if_pos (.inr (.inr (by decide)))] at hK
            simp (config := { maxSteps := 1000000 }) only [go_sem, Int.reduceToNat, Int.reduceLE, Int.reduceLT, Int.reduceAdd, Int.reduceSub, Int.reduceMul, Int.reduceEq, Int.reduceNe, Nat.reduceEqDiff, Nat.reducePow, Nat.reduceDiv, Nat.reduceMod, Nat.reduceAdd, Nat.reduceMul, Nat.reduceSub, Nat.reduceLT, Nat.reduceLeDiff, reduceIte, reduceCtorEq, a2, a5, a8, a9, a10, guardA_undef, ext_ext, List.cons_append, List.nil_append, appendA_U]
            exact FinV.drop G0_ok hcl (fz_tq _ _ _) hK
      | false =>
        cases neg with
        | true =>
          by_cases g2 : n = 0
          · subst g2
            rw [if_pos (.inr (.inl ⟨rfl, rfl⟩))] at hK
            have n0 : ((0 : Nat) : Int) = 0 := rfl
            simp (config := { maxSteps := 1000000 }) only [go_sem, Int.reduceToNat, Int.reduceLE, Int.reduceLT, Int.reduceAdd, Int.reduceSub, Int.reduceMul, Int.reduceEq, Int.reduceNe, Nat.reduceEqDiff, Nat.reducePow, Nat.reduceDiv, Nat.reduceMod, Nat.reduceAdd, Nat.reduceMul, Nat.reduceSub, Nat.reduceLT, Nat.reduceLeDiff, reduceIte, reduceCtorEq, a2, a5, a8, a9, a10, guardA_undef, ext_ext, List.cons_append, List.nil_append, n0, appendA_U]
            exact FinV.drop G0_ok hcl (fz_tq _ _ _) hK
          have g2' : ¬ (n : Int) = 0 := by omega
          simp (config := { maxSteps := 1000000 }) only [go_sem, Int.reduceToNat, Int.reduceLE, Int.reduceLT, Int.reduceAdd, Int.reduceSub, Int.reduceMul, Int.reduceEq, Int.reduceNe, Nat.reduceEqDiff, Nat.reducePow, Nat.reduceDiv, Nat.reduceMod, Nat.reduceAdd, Nat.reduceMul, Nat.reduceSub, Nat.reduceLT, Nat.reduceLeDiff, reduceIte, reduceCtorEq, a2, a5, a8, a9, a10, guardA_undef, ext_ext, List.cons_append, List.nil_append, g2', appendA_U]
          refine AApply.clo (fcheck_spec n d (by omega) (by omega) _ _ ⟨trivial, ?_⟩)
          rcases fq n d with hc | hc
          · rw [hc]
            rw [hc] at hK
            rw [if_neg (by simp [g2])] at hK
            simp (config := { maxSteps := 1000000 }) only [go_sem, Int.reduceToNat, Int.reduceLE, Int.reduceLT, Int.reduceAdd, Int.reduceSub, Int.reduceMul, Int.reduceEq, Int.reduceNe, Nat.reduceEqDiff, Nat.reducePow, Nat.reduceDiv, Nat.reduceMod, Nat.reduceAdd, Nat.reduceMul, Nat.reduceSub, Nat.reduceLT, Nat.reduceLeDiff, reduceIte, reduceCtorEq, a2, a5, a8, a9, a10, guardA_undef, ext_ext, List.cons_append, List.nil_append, wneg, sneg, appendA_U]
            exact FinV.drop G0_ok hcl (fz_tq _ _ _) (by simp at hK; exact hK)
          · rw [hc]
            rw [hc, if_pos (.inr (.inr (by decide)))] at hK
            simp (config := { maxSteps := 1000000 }) only [go_sem, Int.reduceToNat, Int.reduceLE, Int.reduceLT, Int.reduceAdd, Int.reduceSub, Int.reduceMul, Int.reduceEq, Int.reduceNe, Nat.reduceEqDiff, Nat.reducePow, Nat.reduceDiv, Nat.reduceMod, Nat.reduceAdd, Nat.reduceMul, Nat.reduceSub, Nat.reduceLT, Nat.reduceLeDiff, reduceIte, reduceCtorEq, a2, a5, a8, a9, a10, guardA_undef, ext_ext, List.cons_append, List.nil_append, appendA_U]
            exact FinV.drop G0_ok hcl (fz_tq _ _ _) hK
        | false =>
          simp (config := { maxSteps := 1000000 }) only [go_sem, Int.reduceToNat, Int.reduceLE, Int.reduceLT, Int.reduceAdd, Int.reduceSub, Int.reduceMul, Int.reduceEq, Int.reduceNe, Nat.reduceEqDiff, Nat.reducePow, Nat.reduceDiv, Nat.reduceMod, Nat.reduceAdd, Nat.reduceMul, Nat.reduceSub, Nat.reduceLT, Nat.reduceLeDiff, reduceIte, reduceCtorEq, a2, a5, a8, a9, a10, guardA_undef, ext_ext, List.cons_append, List.nil_append, appendA_U]
          refine AApply.clo (fcheck_spec n d (by omega) (by omega) _ _ ⟨trivial, ?_⟩)
          rcases fq n d with hc | hc
          · rw [hc]
            rw [hc] at hK
            rw [if_neg (by simp [])] at hK
            simp (config := { maxSteps := 1000000 }) only [go_sem, Int.reduceToNat, Int.reduceLE, Int.reduceLT, Int.reduceAdd, Int.reduceSub, Int.reduceMul, Int.reduceEq, Int.reduceNe, Nat.reduceEqDiff, Nat.reducePow, Nat.reduceDiv, Nat.reduceMod, Nat.reduceAdd, Nat.reduceMul, Nat.reduceSub, Nat.reduceLT, Nat.reduceLeDiff, reduceIte, reduceCtorEq, a2, a5, a8, a9, a10, guardA_undef, ext_ext, List.cons_append, List.nil_append, appendA_U]
            exact FinV.drop G0_ok hcl (fz_tq _ _ _) (by simp at hK; exact hK)
          · rw [hc]
            rw [hc, if_pos (.inr (.inr (by decide)))] at hK
            simp (config := { maxSteps := 1000000 }) only [go_sem, Int.reduceToNat, Int.reduceLE, Int.reduceLT, Int.reduceAdd, Int.reduceSub, Int.reduceMul, Int.reduceEq, Int.reduceNe, Nat.reduceEqDiff, Nat.reducePow, Nat.reduceDiv, Nat.reduceMod, Nat.reduceAdd, Nat.reduceMul, Nat.reduceSub, Nat.reduceLT, Nat.reduceLeDiff, reduceIte, reduceCtorEq, a2, a5, a8, a9, a10, guardA_undef, ext_ext, List.cons_append, List.nil_append, appendA_U]
            exact FinV.drop G0_ok hcl (fz_tq _ _ _) hK
    · have rlt : (rd : Int) < 2 := by omega
      have e0 : K (.ret (.tup [qV 0 0, .lit (.int .i64 5)])) H := by
        rcases hbad with hb | hb
        · rw [hb] at hK; exact hK
        · rw [hb] at hK
          cases hu : part u with
          | none => rw [hu] at hK; exact hK
          | some v => rw [hu] at hK; exact hK
      refine vc_sound _ _ _ (by rfl) ?_
      simp (config := { maxSteps := 1000000 }) only [go_sem, Int.reduceToNat, Int.reduceLE, Int.reduceLT, Int.reduceAdd, Int.reduceSub, Int.reduceMul, Int.reduceEq, Int.reduceNe, Nat.reduceEqDiff, Nat.reducePow, Nat.reduceDiv, Nat.reduceMod, Nat.reduceAdd, Nat.reduceMul, Nat.reduceSub, Nat.reduceLT, Nat.reduceLeDiff, reduceIte, reduceCtorEq, a2, a5, a8, a9, a10, guardA_undef, ext_ext, List.cons_append, List.nil_append, rlt, appendA_U]
      exact FinV.drop G0_ok hcl (fz_tq _ _ _) e0
end Go.Proofs
set_option linter.unusedSimpArgs false
set_option maxRecDepth 100000
namespace Go.Proofs
open Go.Hx
/-- cut of a list of one's own: what is left of it. -/
theorem cut_own {id g : Nat} {H : AHeap} (o : List Int) (ho : Dg o) (hn : (o.length : Int) < 2 ^ 40) (hg : H.get id = some (.arr g 3 (ints o))) (hid : id < H.next) (K : ARes → AHeap → Prop)
    (hK : ∀ m, m ≤ o.length → o.take m = dig (val o) → K (.ret (.own id g 0 m 1)) H) : ACall Tryd.prog G0 78 [.own id g 0 o.length 1] H K := by
  refine ACall.of_body (n := 21) (rs := [.tmp 2]) Tryd.func78 rfl rfl rfl (by decide) (by kernel_rfl) (by simp) ?_
  simp (config := { maxSteps := 1000000 }) only [go_sem, Int.reduceToNat, Int.reduceLE, Int.reduceLT, Int.reduceAdd, Int.reduceSub, Int.reduceMul, Int.reduceEq, Int.reduceNe, Nat.reduceEqDiff, Nat.reducePow, Nat.reduceDiv, Nat.reduceMod, Nat.reduceAdd, Nat.reduceMul, Nat.reduceSub, Nat.reduceLT, Nat.reduceLeDiff, reduceIte, reduceCtorEq, appendA_U]
  refine W.loop0 1048569 (by rfl) (fun ρ H' => H = H' ∧ ∃ k : Nat, ρ 0 = .own id g 0 k 1 ∧ k ≤ o.length ∧ val (o.take k) = val o) (fun ρ H => (match ρ 0 with | .own _ _ _ n _ => n | _ => 0)) ?_ ?_
  · simp (config := { maxSteps := 1000000 }) only [go_sem, Int.reduceToNat, Int.reduceLE, Int.reduceLT, Int.reduceAdd, Int.reduceSub, Int.reduceMul, Int.reduceEq, Int.reduceNe, Nat.reduceEqDiff, Nat.reducePow, Nat.reduceDiv, Nat.reduceMod, Nat.reduceAdd, Nat.reduceMul, Nat.reduceSub, Nat.reduceLT, Nat.reduceLeDiff, reduceIte, reduceCtorEq, appendA_U]
    exact ⟨o.length, rfl, Nat.le_refl _, by rw [List.take_length]⟩
  rintro ρ H' ⟨rfl, k, h0, hk, hv⟩
  refine vc_sound _ _ _ (by rfl) ?_
  have lv : H.live id g = some (3, ints o) := by unfold AHeap.live; rw [hg]; simp
  have dt : Dg (o.take k) := fun c hc => ho c (List.mem_of_mem_take hc)
  by_cases hz : k = 0
  · subst hz
    have z1 : ¬ (0 : Int) < ((0 : Nat) : Int) := by omega
    simp (config := { maxSteps := 1000000 }) only [go_sem, Int.reduceToNat, Int.reduceLE, Int.reduceLT, Int.reduceAdd, Int.reduceSub, Int.reduceMul, Int.reduceEq, Int.reduceNe, Nat.reduceEqDiff, Nat.reducePow, Nat.reduceDiv, Nat.reduceMod, Nat.reduceAdd, Nat.reduceMul, Nat.reduceSub, Nat.reduceLT, Nat.reduceLeDiff, reduceIte, reduceCtorEq, h0, lv, guardA_undef, appendA_U]
    refine FinV.mk (Nat.le_refl _) (hK 0 (by omega) ?_)
    rw [← hv]
    simp [val, dig_zero]
  · obtain ⟨a, ha⟩ : ∃ a, o[k - 1]? = some a := ⟨_, List.getElem?_eq_getElem (by omega)⟩
    have hkk : k - 1 + 1 = k := by omega
    have hts : o.take k = o.take (k - 1) ++ [a] := by
      have := take_succ_of ha
      rw [hkk] at this
      exact this
    have z1 : (0 : Int) < (k : Int) := by omega
    have w1 : IntKind.i64.wrap ((k : Int) - 1) = ((k - 1 : Nat) : Int) := by rw [IntWalk.i64_in _ (by omega)]; omega
    have b1 : ((k - 1 : Nat) : Int) < (k : Int) := by omega
    have b2 : ((k - 1 : Nat) : Int) ≤ (k : Int) := by omega
    have on : ¬ o = [] := by rintro rfl; simp at ha
    by_cases h0a : a = 0
    · subst h0a
      simp (config := { maxSteps := 1000000 }) only [go_sem, Int.reduceToNat, Int.reduceLE, Int.reduceLT, Int.reduceAdd, Int.reduceSub, Int.reduceMul, Int.reduceEq, Int.reduceNe, Nat.reduceEqDiff, Nat.reducePow, Nat.reduceDiv, Nat.reduceMod, Nat.reduceAdd, Nat.reduceMul, Nat.reduceSub, Nat.reduceLT, Nat.reduceLeDiff, reduceIte, reduceCtorEq, h0, lv, z1, w1, b1, b2, ha, on, appendA_U]
      refine ⟨⟨k - 1, rfl, by omega, ?_⟩, by omega⟩
      rw [← hv, hts, val_append]; simp [val]
    · simp (config := { maxSteps := 1000000 }) only [go_sem, Int.reduceToNat, Int.reduceLE, Int.reduceLT, Int.reduceAdd, Int.reduceSub, Int.reduceMul, Int.reduceEq, Int.reduceNe, Nat.reduceEqDiff, Nat.reducePow, Nat.reduceDiv, Nat.reduceMod, Nat.reduceAdd, Nat.reduceMul, Nat.reduceSub, Nat.reduceLT, Nat.reduceLeDiff, reduceIte, reduceCtorEq, h0, lv, z1, w1, b1, b2, ha, on, h0a, appendA_U]
      refine FinV.mk (Nat.le_refl _) (hK k hk ?_)
      have hlast : (o.take k).getLast? = some a := by rw [hts]; simp
      have := dig_of dt fun b hb => by rw [hlast] at hb; cases hb; exact h0a
      rw [← hv, this]
set_option maxHeartbeats 1000000 in
theorem dtimes_own (p q : List Int) (hp : Dg p) (hq : ∀ c, c ∈ q → 0 ≤ c ∧ c ≤ 10000) (hqv : val q ≤ 10000 ^ q.length) (lp : p.length ≤ 200) (lq : q.length ≤ 200) (H : AHeap) : ACall Tryd.prog G0 54 [vecI p, vecI q] H (fun r H' => ∃ v, r = .ret v ∧ Fresh H' v (vecI (dig (val p * val q)))) := by
  refine ACall.clo ⟨_, Tryd.func54, rfl, rfl⟩ fun hcl => ?_
  have w0 := IntWalk.i64_in ((p.length : Int) + (q.length : Int)) (by omega)
  refine ACall.of_body (n := 65) (rs := [.tmp 4]) Tryd.func54 rfl rfl rfl (by decide) (by kernel_rfl) (by simp) ?_
  simp (config := { maxSteps := 1000000 }) only [go_sem, Int.reduceToNat, Int.reduceLE, Int.reduceLT, Int.reduceAdd, Int.reduceSub, Int.reduceMul, Int.reduceEq, Int.reduceNe, Nat.reduceEqDiff, Nat.reducePow, Nat.reduceDiv, Nat.reduceMod, Nat.reduceAdd, Nat.reduceMul, Nat.reduceSub, Nat.reduceLT, Nat.reduceLeDiff, reduceIte, reduceCtorEq, w0, appendA_U]
  obtain ⟨L, hL⟩ : ∃ L, L = p.length + q.length := ⟨_, rfl⟩
  have eL : ((p.length : Int) + (q.length : Int)).toNat = L := by omega
  have eL2 : (p.length : Int) + (q.length : Int) = (L : Int) := by omega
  rw [eL, eL2]
  have eR : List.replicate L (AVal.lit (.int .i64 0)) = ints (List.replicate L 0) := by simp [ints, lin]
  rw [eR]
  refine ⟨⟨by omega, by omega, by omega⟩, ?_⟩
  have dr : Dg (List.replicate L 0) := fun c hc => by obtain ⟨_, rfl⟩ := List.mem_replicate.1 hc; omega
  refine W.loop0 9223372036854743488 (by rfl) (fun ρ H' => ∃ (i : Nat) (o : List Int), ρ 6 = lin i ∧ i ≤ p.length ∧ H' = ext H [.arr 0 3 (ints o)] ∧ Dg o ∧ o.length = L ∧ val o = val (p.take i) * val q) (fun ρ H => p.length - (iv (ρ 6)).toNat) ?_ ?_
  · simp (config := { maxSteps := 1000000 }) only [go_sem, Int.reduceToNat, Int.reduceLE, Int.reduceLT, Int.reduceAdd, Int.reduceSub, Int.reduceMul, Int.reduceEq, Int.reduceNe, Nat.reduceEqDiff, Nat.reducePow, Nat.reduceDiv, Nat.reduceMod, Nat.reduceAdd, Nat.reduceMul, Nat.reduceSub, Nat.reduceLT, Nat.reduceLeDiff, reduceIte, reduceCtorEq, appendA_U]
    exact ⟨0, _, rfl, by omega, rfl, dr, by simp, by simp [val_zeros, val]⟩
  rintro ρ H' ⟨i, o, h6, hi, rfl, ho, hol, hv⟩
  refine vc_sound _ _ _ (by rfl) ?_
  by_cases hb : (i : Int) < p.length
  rotate_left
  · simp (config := { maxSteps := 1000000 }) only [go_sem, Int.reduceToNat, Int.reduceLE, Int.reduceLT, Int.reduceAdd, Int.reduceSub, Int.reduceMul, Int.reduceEq, Int.reduceNe, Nat.reduceEqDiff, Nat.reducePow, Nat.reduceDiv, Nat.reduceMod, Nat.reduceAdd, Nat.reduceMul, Nat.reduceSub, Nat.reduceLT, Nat.reduceLeDiff, reduceIte, reduceCtorEq, h6, hb, appendA_U]
    rw [List.take_of_length_le (by omega)] at hv
    have hgo : (ext H [.arr 0 3 (ints o)]).get H.next = some (.arr 0 3 (ints o)) := get_ext0 _ _ _
    have hLo : AVal.own H.next 0 0 L 1 = .own H.next 0 0 o.length 1 := by rw [hol]
    rw [hLo]
    refine AApply.clo (cut_own o ho (by omega) hgo (by simp [ext_next]) _ fun m hm hmt => ⟨trivial, ?_⟩)
    simp (config := { maxSteps := 1000000 }) only [go_sem, Int.reduceToNat, Int.reduceLE, Int.reduceLT, Int.reduceAdd, Int.reduceSub, Int.reduceMul, Int.reduceEq, Int.reduceNe, Nat.reduceEqDiff, Nat.reducePow, Nat.reduceDiv, Nat.reduceMod, Nat.reduceAdd, Nat.reduceMul, Nat.reduceSub, Nat.reduceLT, Nat.reduceLeDiff, reduceIte, reduceCtorEq, appendA_U]
    refine FinV.mk (by simp only [ext_next]; omega) ⟨_, rfl, ?_⟩
    rw [← hv, ← hmt]
    show Fresh _ _ (.vec (o.take m).length (ints (o.take m)))
    rw [List.length_take, Nat.min_eq_left hm]
    refine Fresh.own hgo (by rw [ints_length, List.length_take, Nat.min_eq_left hm, Nat.mul_one]) fun z hz h2 h' => ?_
    simp only [Nat.zero_add, ints, List.getElem_map, List.getElem_take]
    exact .lit _
  obtain ⟨a, ha⟩ : ∃ a, p[i]? = some a := ⟨_, List.getElem?_eq_getElem (by omega)⟩
  have ha9 := hp a (List.mem_of_getElem? ha)
  obtain ⟨A, rfl⟩ := Int.eq_ofNat_of_zero_le ha9.1
  have pn : ¬ p = [] := by rintro rfl; simp at ha
  have vt := val_take_succ ha
  rw [Int.toNat_natCast] at vt
  have w1 := IntWalk.i64_in ((i : Int) + 1) (by omega)
  simp (config := { maxSteps := 1000000 }) only [go_sem, Int.reduceToNat, Int.reduceLE, Int.reduceLT, Int.reduceAdd, Int.reduceSub, Int.reduceMul, Int.reduceEq, Int.reduceNe, Nat.reduceEqDiff, Nat.reducePow, Nat.reduceDiv, Nat.reduceMod, Nat.reduceAdd, Nat.reduceMul, Nat.reduceSub, Nat.reduceLT, Nat.reduceLeDiff, reduceIte, reduceCtorEq, h6, hb, appendA_U]
  refine W.loop0 9223372036852679040 (by rfl) (fun ρ' H' => ∃ (k c : Nat) (o2 : List Int), ρ' 8 = lin k ∧ ρ' 7 = lin c ∧ c ≤ 10000 ∧ k ≤ L ∧ H' = ext H [.arr 0 3 (ints o2)] ∧ Dg o2 ∧ o2.length = L ∧ val o2 + 10000 ^ (i + k) * c = val (p.take i) * val q + 10000 ^ i * (A * val (q.take k))) (fun ρ' H => L - (iv (ρ' 8)).toNat) ?_ ?_
  · simp (config := { maxSteps := 1000000 }) only [go_sem, Int.reduceToNat, Int.reduceLE, Int.reduceLT, Int.reduceAdd, Int.reduceSub, Int.reduceMul, Int.reduceEq, Int.reduceNe, Nat.reduceEqDiff, Nat.reducePow, Nat.reduceDiv, Nat.reduceMod, Nat.reduceAdd, Nat.reduceMul, Nat.reduceSub, Nat.reduceLT, Nat.reduceLeDiff, reduceIte, reduceCtorEq, appendA_U]
    exact ⟨0, 0, o, rfl, rfl, by omega, by omega, rfl, ho, hol, by simp [val, hv]⟩
  rintro ρ' H' ⟨k, c, o2, h8, h7, hc, hk, rfl, ho2, hol2, hv2⟩
  refine vc_sound _ _ _ (by rfl) ?_
  by_cases hend : ¬ k < q.length ∧ c = 0
  · obtain ⟨hk2, rfl⟩ := hend
    have n1 : ¬ (k : Int) < q.length := by omega
    have n2 : ¬ (0 : Int) < ((0 : Nat) : Int) := by omega
    simp (config := { maxSteps := 1000000 }) only [go_sem, Int.reduceToNat, Int.reduceLE, Int.reduceLT, Int.reduceAdd, Int.reduceSub, Int.reduceMul, Int.reduceEq, Int.reduceNe, Nat.reduceEqDiff, Nat.reducePow, Nat.reduceDiv, Nat.reduceMod, Nat.reduceAdd, Nat.reduceMul, Nat.reduceSub, Nat.reduceLT, Nat.reduceLeDiff, reduceIte, reduceCtorEq, h8, h7, n1, n2, h6, w1, appendA_U]
    refine ⟨⟨i + 1, o2, by simp, by omega, rfl, ho2, hol2, ?_⟩, by omega⟩
    rw [List.take_of_length_le (l := q) (i := k) (by omega)] at hv2
    rw [vt, Nat.add_mul]
    simp only [Nat.mul_zero, Nat.add_zero] at hv2
    rw [hv2, Nat.mul_assoc]
  have hik : i + k < L := by
    by_cases hkq : k < q.length
    · omega
    · have hc1 : 1 ≤ c := by omega
      rw [List.take_of_length_le (l := q) (i := k) (by omega)] at hv2
      have e : val (p.take i) * val q + 10000 ^ i * (A * val q) = val (p.take (i + 1)) * val q := by rw [vt, Nat.add_mul, Nat.mul_assoc]
      rw [e] at hv2
      have b1 : val (p.take (i + 1)) < 10000 ^ (i + 1) := by
        have := val_lt (l := p.take (i + 1)) fun c hc => hp c (List.mem_of_mem_take hc)
        rwa [List.length_take, Nat.min_eq_left (by omega)] at this
      have b2 : val (p.take (i + 1)) * val q < 10000 ^ (i + 1) * 10000 ^ q.length := by
        have p0 : 0 < 10000 ^ q.length := Nat.pow_pos (by decide)
        calc val (p.take (i + 1)) * val q ≤ val (p.take (i + 1)) * 10000 ^ q.length := Nat.mul_le_mul_left _ hqv
          _ < 10000 ^ (i + 1) * 10000 ^ q.length := Nat.mul_lt_mul_of_pos_right b1 p0
      rw [← Nat.pow_add] at b2
      have b3 : 10000 ^ (i + k) * 1 ≤ 10000 ^ (i + k) * c := Nat.mul_le_mul_left _ hc1
      have b4 : 10000 ^ (i + k) < 10000 ^ (i + 1 + q.length) := by omega
      have := (Nat.pow_lt_pow_iff_right (by decide : 1 < 10000)).1 b4
      omega
  obtain ⟨b, hbk⟩ : ∃ b, o2[i + k]? = some b := ⟨_, List.getElem?_eq_getElem (by omega)⟩
  have hb9 := ho2 b (List.mem_of_getElem? hbk)
  obtain ⟨B, rfl⟩ := Int.eq_ofNat_of_zero_le hb9.1
  have o2n : ¬ o2 = [] := by rintro rfl; simp at hbk
  have w2 := IntWalk.i64_in ((i : Int) + (k : Int)) (by omega)
  have w3 := IntWalk.i64_in ((k : Int) + 1) (by omega)
  have eik : (i : Int) + (k : Int) = ((i + k : Nat) : Int) := by omega
  rw [eik] at w2
  have bik : ((i + k : Nat) : Int) < (L : Int) := by omega
  have w4 := IntWalk.i64_in ((c : Int) + (B : Int)) (by omega)
  by_cases hkq : k < q.length
  · obtain ⟨d, hdk⟩ : ∃ d, q[k]? = some d := ⟨_, List.getElem?_eq_getElem (by omega)⟩
    have hd9 := hq d (List.mem_of_getElem? hdk)
    obtain ⟨D, rfl⟩ := Int.eq_ofNat_of_zero_le hd9.1
    have qn : ¬ q = [] := by rintro rfl; simp at hdk
    have n1 : (k : Int) < q.length := by omega
    have mAD : A * D ≤ 9999 * 10000 := Nat.mul_le_mul (by omega) (by omega)
    have cAD : (A : Int) * (D : Int) = ((A * D : Nat) : Int) := (Int.natCast_mul _ _).symm
    obtain ⟨t, ht⟩ : ∃ t, t = c + B + A * D := ⟨_, rfl⟩
    have et : (c : Int) + (B : Int) + ((A * D : Nat) : Int) = (t : Int) := by omega
    have w5 := IntWalk.i64_in ((A * D : Nat) : Int) (by omega)
    have w6 := IntWalk.i64_in (t : Int) (by omega)
    have tm : ((t : Int)).tmod 10000 = ((t % 10000 : Nat) : Int) := by rw [Int.tmod_eq_emod_of_nonneg (by omega)]; rfl
    have td : ((t : Int)).tdiv 10000 = ((t / 10000 : Nat) : Int) := by rw [Int.tdiv_eq_ediv_of_nonneg (by omega)]; rfl
    have w7 := IntWalk.i64_in ((t % 10000 : Nat) : Int) (by omega)
    have w8 := IntWalk.i64_in ((t / 10000 : Nat) : Int) (by omega)
    have hs := val_set ((t % 10000 : Nat) : Int) hbk
    rw [Int.toNat_natCast, Int.toNat_natCast] at hs
    have vq := val_take_succ hdk
    rw [Int.toNat_natCast] at vq
    have fin : ∃ (k' c' : Nat) (o3 : List Int), AVal.lit (.int .i64 ((k : Int) + 1)) = lin k' ∧ AVal.lit (.int .i64 ((t / 10000 : Nat) : Int)) = lin c' ∧ c' ≤ 10000 ∧ k' ≤ L ∧ ext H [.arr 0 3 (ints (o2.set (i + k) ((t % 10000 : Nat) : Int)))] = ext H [.arr 0 3 (ints o3)] ∧ Dg o3 ∧ o3.length = L ∧ val o3 + 10000 ^ (i + k') * c' = val (p.take i) * val q + 10000 ^ i * (A * val (q.take k')) := by
      refine ⟨k + 1, t / 10000, _, by simp [lin], rfl, by omega, by omega, rfl, fun z hz => ?_, by simp [hol2], ?_⟩
      · rcases List.mem_or_eq_of_mem_set hz with h | h
        · exact ho2 z h
        · omega
      · rw [vq, ← Nat.add_assoc, Nat.pow_succ]
        have e1 : t = t % 10000 + 10000 * (t / 10000) := by omega
        have e2 := congrArg (10000 ^ (i + k) * ·) (show c + B + A * D = t % 10000 + 10000 * (t / 10000) by omega)
        have e3 : 10000 ^ i * (A * (val (q.take k) + 10000 ^ k * D)) = 10000 ^ i * (A * val (q.take k)) + 10000 ^ (i + k) * (A * D) := by
          rw [Nat.mul_add, Nat.mul_add, Nat.pow_add]
          congr 1
          ac_rfl
        rw [e3]
        simp only [Nat.mul_add, Nat.mul_assoc] at e2 hv2 hs ⊢
        omega
    simp (config := { maxSteps := 1000000 }) only [go_sem, Int.reduceToNat, Int.reduceLE, Int.reduceLT, Int.reduceAdd, Int.reduceSub, Int.reduceMul, Int.reduceEq, Int.reduceNe, Nat.reduceEqDiff, Nat.reducePow, Nat.reduceDiv, Nat.reduceMod, Nat.reduceAdd, Nat.reduceMul, Nat.reduceSub, Nat.reduceLT, Nat.reduceLeDiff, reduceIte, reduceCtorEq, h8, h7, n1, h6, w2, w4, eik, bik, hbk, o2n, appendA_U]
    refine W.draw 10 [0, 0, 0, 6, 14, 0, 0, 96, 224, 510] Tryd.mixed (by kernel_rfl) (by kernel_rfl) ?_
    simp (config := { maxSteps := 1000000 }) only [go_sem, Int.reduceToNat, Int.reduceLE, Int.reduceLT, Int.reduceAdd, Int.reduceSub, Int.reduceMul, Int.reduceEq, Int.reduceNe, Nat.reduceEqDiff, Nat.reducePow, Nat.reduceDiv, Nat.reduceMod, Nat.reduceAdd, Nat.reduceMul, Nat.reduceSub, Nat.reduceLT, Nat.reduceLeDiff, reduceIte, reduceCtorEq, h8, h7, n1, h6, w2, w4, eik, bik, hbk, o2n, ha, hdk, pn, qn, hb, cAD, w5, et, w6, appendA_U]
    rw [w3, td, w8, tm, setAt_ints _ (by omega)]
    exact ⟨by omega, fin, by omega⟩
  · have n1 : ¬ (k : Int) < q.length := by omega
    have n2 : (0 : Int) < (c : Int) := by omega
    obtain ⟨t, ht⟩ : ∃ t, t = c + B := ⟨_, rfl⟩
    have et : (c : Int) + (B : Int) = (t : Int) := by omega
    have w6 := IntWalk.i64_in (t : Int) (by omega)
    have tm : ((t : Int)).tmod 10000 = ((t % 10000 : Nat) : Int) := by rw [Int.tmod_eq_emod_of_nonneg (by omega)]; rfl
    have td : ((t : Int)).tdiv 10000 = ((t / 10000 : Nat) : Int) := by rw [Int.tdiv_eq_ediv_of_nonneg (by omega)]; rfl
    have w7 := IntWalk.i64_in ((t % 10000 : Nat) : Int) (by omega)
    have w8 := IntWalk.i64_in ((t / 10000 : Nat) : Int) (by omega)
    have hs := val_set ((t % 10000 : Nat) : Int) hbk
    rw [Int.toNat_natCast, Int.toNat_natCast] at hs
    have fin : ∃ (k' c' : Nat) (o3 : List Int), AVal.lit (.int .i64 ((k : Int) + 1)) = lin k' ∧ AVal.lit (.int .i64 ((t / 10000 : Nat) : Int)) = lin c' ∧ c' ≤ 10000 ∧ k' ≤ L ∧ ext H [.arr 0 3 (ints (o2.set (i + k) ((t % 10000 : Nat) : Int)))] = ext H [.arr 0 3 (ints o3)] ∧ Dg o3 ∧ o3.length = L ∧ val o3 + 10000 ^ (i + k') * c' = val (p.take i) * val q + 10000 ^ i * (A * val (q.take k')) := by
      refine ⟨k + 1, t / 10000, _, by simp [lin], rfl, by omega, by omega, rfl, fun z hz => ?_, by simp [hol2], ?_⟩
      · rcases List.mem_or_eq_of_mem_set hz with h | h
        · exact ho2 z h
        · omega
      · rw [List.take_of_length_le (l := q) (i := k) (by omega)] at hv2
        rw [List.take_of_length_le (l := q) (i := k + 1) (by omega), ← Nat.add_assoc, Nat.pow_succ]
        have e2 := congrArg (10000 ^ (i + k) * ·) (show c + B = t % 10000 + 10000 * (t / 10000) by omega)
        simp only [Nat.mul_add, Nat.mul_assoc] at e2 hv2 hs ⊢
        omega
    simp (config := { maxSteps := 1000000 }) only [go_sem, Int.reduceToNat, Int.reduceLE, Int.reduceLT, Int.reduceAdd, Int.reduceSub, Int.reduceMul, Int.reduceEq, Int.reduceNe, Nat.reduceEqDiff, Nat.reducePow, Nat.reduceDiv, Nat.reduceMod, Nat.reduceAdd, Nat.reduceMul, Nat.reduceSub, Nat.reduceLT, Nat.reduceLeDiff, reduceIte, reduceCtorEq, h8, h7, n1, n2, h6, w2, eik, bik, hbk, o2n, et, w6, hol2, appendA_U]
    rw [w3, td, w8, tm, setAt_ints _ (by omega)]
    exact ⟨by omega, fin, by omega⟩
end Go.Proofs
set_option linter.unusedSimpArgs false
set_option maxRecDepth 100000
namespace Go.Proofs
open Go.Hx
def numO (l : List UInt8) : Option Int := if negS l = true then (match part (restS l) with | some v => if v = 0 then none else some (-(v : Int)) | none => none) else (match part (restS l) with | some v => some (v : Int) | none => none)
def numR (l : List UInt8) : AVal := match numO l with
  | some n => .tup [.lit (.int .i64 n), .lit (.bool true)]
  | none => .tup [.lit (.int .i64 0), .lit (.bool false)]
theorem fold_ge (t : List UInt8) : ∀ n, n ≤ t.foldl (fun n (b : UInt8) => 10 * n + (b.toNat - 48)) n := by
  induction t with
  | nil => intro n; exact Nat.le_refl _
  | cons b t ih => intro n; exact Nat.le_trans (show n ≤ 10 * n + (b.toNat - 48) by omega) (ih _)
theorem dec_pos {l : List UInt8} {b : UInt8} (hb : l[0]? = some b) (hd : digB b = true) (h0 : b ≠ 48) : decV l ≠ 0 := by
  cases l with
  | nil => cases hb
  | cons c t =>
    cases hb
    have h1 := fold_ge t (10 * 0 + (b.toNat - 48))
    unfold digB at hd
    simp only [Bool.and_eq_true, decide_eq_true_eq] at hd
    have h2 : b.toNat ≠ 48 := fun h => h0 (UInt8.toNat_inj.1 (by rw [h]; rfl))
    show List.foldl _ (10 * 0 + (b.toNat - 48)) t ≠ 0
    omega
/-- A list of digits, or the empty one. -/
def DigV (v : AVal) (X : Nat) : Prop := v = vecI (dig X) ∨ (v = .lit (.slice none 0 0) ∧ X = 0)
theorem DigV.fz {S : Nat → Prop} {H : AHeap} {nx : Nat} {v : AVal} {X : Nat} (h : DigV v X) : Fz S H nx v (vecI (dig X)) := by
  rcases h with rfl | ⟨rfl, rfl⟩
  · exact .keepInts _
  · rw [dig_zero]; exact .nil
theorem times_draw {H : AHeap} {v : AVal} {X : Nat} (h : DigV v X) (hX : (dig X).length ≤ 200) (H0 : AHeap) (hH : H = ext H0 [.arr 0 3 [.lit (.int .i64 10)]]) :
    PCall Tryd.prog G0 (.clo 54 [] []) [v, .own H0.next 0 0 1 1] H (vecI (dig (X * 10))) [H0.next] := by
  refine PCall.mk (fun r hr => by obtain rfl := List.mem_singleton.1 hr; rw [hH, ext_next]; simp) fun H2 hag hn => ?_
  have hg : H2.get H0.next = some (.arr 0 3 [.lit (.int .i64 10)]) := by rw [hag _ (by simp), hH]; exact get_ext0 _ _ _
  have c := dtimes_own (dig X) [10] (dg_dig X) (fun c hc => by obtain rfl := List.mem_singleton.1 hc; omega) (by decide) hX (by decide) noH
  rw [val_dig, show val [10] = 10 from rfl] at c
  exact ACall.frame (args' := [vecI (dig X), vecI [10]]) G0_ok rfl (fun i hi _ => match i, hi with
    | 0, _ => h.fz
    | 1, _ => .frz (e := 3) trivial hg rfl fun j hj _ _ => match j, hj with | 0, _ => .lit _) c
set_option maxHeartbeats 4000000 in
theorem rnum_spec (l : List UInt8) (hl : l.length < 9223372036854775000) (H : AHeap) (K : ARes → AHeap → Prop) (hK : K (.ret (numR l)) H) : ACall Tryd.prog G0 66 [.lit (.string ⟨l.toArray⟩)] H K := by
  refine ACall.clo ⟨_, Tryd.func66, rfl, rfl⟩ fun hcl => ?_
  have hr : (restS l).length < 9223372036854775000 := by
    unfold restS
    split
    · rw [List.length_tail]; omega
    · exact hl
  unfold numR numO at hK
  obtain ⟨neg, hneg⟩ : ∃ n, n = negS l := ⟨_, rfl⟩
  obtain ⟨d, hd⟩ : ∃ r, r = restS l := ⟨_, rfl⟩
  have hnd : (neg = true ∧ l = 45 :: d) ∨ (neg = false ∧ d = l) := by
    rw [hneg, hd]
    unfold negS restS
    by_cases h : l.head? = some 45
    · rw [decide_eq_true h, if_pos h]
      match l, h with
      | b :: t, h => cases h; exact .inl ⟨rfl, rfl⟩
    · rw [decide_eq_false h, if_neg h]
      exact .inr ⟨rfl, rfl⟩
  have hnh : neg = false → ∀ b, l[0]? = some b → b ≠ 45 := by
    intro h b hb hb2
    rw [hneg] at h
    unfold negS at h
    rw [List.head?_eq_getElem?, hb, hb2] at h
    simp at h
  rw [← hneg, ← hd] at hK
  rw [← hd] at hr
  clear hneg hd
  refine ACall.of_bodyW (n := 78) (rs := [.tmp 2, .tmp 3]) Tryd.func66 rfl rfl rfl (by decide) (by simp) ?_
  refine W.seq (vc_sound _ _ _ (by rfl) ?_)
  simp (config := { maxSteps := 1000000 }) only [go_sem, Int.reduceToNat, Int.reduceLE, Int.reduceLT, Int.reduceAdd, Int.reduceSub, Int.reduceMul, Int.reduceEq, Int.reduceNe, Nat.reduceEqDiff, Nat.reducePow, Nat.reduceDiv, Nat.reduceMod, Nat.reduceAdd, Nat.reduceMul, Nat.reduceSub, Nat.reduceLT, Nat.reduceLeDiff, reduceIte, reduceCtorEq, appendA_U]
  refine W.seq (vc_sound _ _ _ (by rfl) ?_)
  simp (config := { maxSteps := 1000000 }) only [go_sem, Int.reduceToNat, Int.reduceLE, Int.reduceLT, Int.reduceAdd, Int.reduceSub, Int.reduceMul, Int.reduceEq, Int.reduceNe, Nat.reduceEqDiff, Nat.reducePow, Nat.reduceDiv, Nat.reduceMod, Nat.reduceAdd, Nat.reduceMul, Nat.reduceSub, Nat.reduceLT, Nat.reduceLeDiff, reduceIte, reduceCtorEq, appendA_U]
  refine W.mid (fun s' => s'.H = H ∧ s'.ρ 0 = .lit (.string ⟨l.toArray⟩) ∧ s'.ρ 4 = .lit (.string ⟨d.toArray⟩)) ?_ ?_
  · refine vc_sound _ _ _ (by rfl) ?_
    rcases hnd with ⟨rfl, rfl⟩ | ⟨rfl, rfl⟩
    · have i1 := index_str (P := Tryd.prog) (t := 9) (l := 45 :: d) (k := .i64) (i := 0) rfl Tryd.underlying9
      have z0 : ((0 : Nat) : Int) = 0 := rfl
      have b0 : ((45 : UInt8).toNat : Int) = 45 := rfl
      have q1 : (0 : Int) < ((d.length + 1 : Nat) : Int) := by omega
      have q2 : (1 : Int) ≤ ((d.length + 1 : Nat) : Int) := by omega
      have q3 : (0 : Int) ≤ 1 := by omega
      have t1 : (1 : Int).toNat = 1 := rfl
      rw [z0, b0] at i1
      simp (config := { maxSteps := 1000000 }) only [go_sem, Int.reduceToNat, Int.reduceLE, Int.reduceLT, Int.reduceAdd, Int.reduceSub, Int.reduceMul, Int.reduceEq, Int.reduceNe, Nat.reduceEqDiff, Nat.reducePow, Nat.reduceDiv, Nat.reduceMod, Nat.reduceAdd, Nat.reduceMul, Nat.reduceSub, Nat.reduceLT, Nat.reduceLeDiff, reduceIte, reduceCtorEq, List.size_toArray, q1, q2, q3, i1, str_size, str_ext, guardA_undef, List.take_length, t1, appendA_U]
    · cases d with
      | nil => simp (config := { maxSteps := 1000000 }) only [go_sem, Int.reduceToNat, Int.reduceLE, Int.reduceLT, Int.reduceAdd, Int.reduceSub, Int.reduceMul, Int.reduceEq, Int.reduceNe, Nat.reduceEqDiff, Nat.reducePow, Nat.reduceDiv, Nat.reduceMod, Nat.reduceAdd, Nat.reduceMul, Nat.reduceSub, Nat.reduceLT, Nat.reduceLeDiff, reduceIte, reduceCtorEq, List.size_toArray, List.length_nil, guardA_undef, appendA_U]
      | cons b t =>
        have i1 := index_str (P := Tryd.prog) (t := 9) (l := b :: t) (k := .i64) (i := 0) rfl Tryd.underlying9
        have z0 : ((0 : Nat) : Int) = 0 := rfl
        have q1 : (0 : Int) < ((t.length + 1 : Nat) : Int) := by omega
        have nb : ¬ (b.toNat : Int) = 45 := fun h => hnh rfl b rfl (UInt8.toNat_inj.1 (by rw [show (45 : UInt8).toNat = 45 from rfl]; omega))
        rw [z0] at i1
        simp (config := { maxSteps := 1000000 }) only [go_sem, Int.reduceToNat, Int.reduceLE, Int.reduceLT, Int.reduceAdd, Int.reduceSub, Int.reduceMul, Int.reduceEq, Int.reduceNe, Nat.reduceEqDiff, Nat.reducePow, Nat.reduceDiv, Nat.reduceMod, Nat.reduceAdd, Nat.reduceMul, Nat.reduceSub, Nat.reduceLT, Nat.reduceLeDiff, reduceIte, reduceCtorEq, List.size_toArray, q1, i1, guardA_undef, nb, appendA_U]
  rintro ⟨E, H2⟩ ⟨eH, a0, a4⟩
  simp only at eH a0 a4
  subst eH
  have bad : part d = none → K (.ret (.tup [.lit (.int .i64 0), .lit (.bool false)])) H2 := fun h => by
    rw [h] at hK
    cases neg <;> exact hK
  have rej : d[0]? = some 48 → l ≠ [48] → K (.ret (.tup [.lit (.int .i64 0), .lit (.bool false)])) H2 := fun h h2 => by
    have hh : d.head? = some 48 := by rw [List.head?_eq_getElem?]; exact h
    by_cases h3 : d = [48]
    · have p0 : part d = some 0 := by rw [h3]; decide
      rw [p0] at hK
      rcases hnd with ⟨rfl, rfl⟩ | ⟨rfl, rfl⟩
      · exact hK
      · exact absurd h3 h2
    · exact bad (part_bad1 (by unfold okL; rw [hh, decide_eq_false h3]; simp))
  refine W.seq (vc_sound _ _ _ (by rfl) ?_)
  by_cases e0 : d = []
  · have z : ((0 : Nat) : Int) = 0 := rfl
    simp (config := { maxSteps := 1000000 }) only [go_sem, Int.reduceToNat, Int.reduceLE, Int.reduceLT, Int.reduceAdd, Int.reduceSub, Int.reduceMul, Int.reduceEq, Int.reduceNe, Nat.reduceEqDiff, Nat.reducePow, Nat.reduceDiv, Nat.reduceMod, Nat.reduceAdd, Nat.reduceMul, Nat.reduceSub, Nat.reduceLT, Nat.reduceLeDiff, reduceIte, reduceCtorEq, a0, a4, e0, List.size_toArray, List.length_nil, z, guardA_undef, appendA_U]
    exact FinV.dropO G0_ok hcl (.refl _) fz_s1 (bad (by rw [e0]; rfl))
  obtain ⟨b, hb⟩ : ∃ b, d[0]? = some b := ⟨d[0]'(List.length_pos_iff.2 e0), List.getElem?_eq_getElem _⟩
  have i1 := index_str (P := Tryd.prog) (t := 9) (k := .i64) hb Tryd.underlying9
  have hhd : d.head? = some b := by rw [List.head?_eq_getElem?]; exact hb
  have n0 : ¬ (d.length : Int) = 0 := fun h => e0 (List.eq_nil_of_length_eq_zero (by omega))
  by_cases e1 : (19 : Int) < (d.length : Int)
  · simp (config := { maxSteps := 1000000 }) only [go_sem, Int.reduceToNat, Int.reduceLE, Int.reduceLT, Int.reduceAdd, Int.reduceSub, Int.reduceMul, Int.reduceEq, Int.reduceNe, Nat.reduceEqDiff, Nat.reducePow, Nat.reduceDiv, Nat.reduceMod, Nat.reduceAdd, Nat.reduceMul, Nat.reduceSub, Nat.reduceLT, Nat.reduceLeDiff, reduceIte, reduceCtorEq, a0, a4, e0, List.size_toArray, n0, e1, guardA_undef, appendA_U]
    exact FinV.dropO G0_ok hcl (.refl _) fz_s1 (bad (part_bad1 (by unfold okL; rw [decide_eq_true (show 19 < d.length by omega)]; simp)))
  have z0 : ((0 : Nat) : Int) = 0 := rfl
  rw [z0] at i1
  by_cases e2 : (b.toNat : Int) = 48
  · have eb : b = 48 := UInt8.toNat_inj.1 (by rw [show (48 : UInt8).toNat = 48 from rfl]; omega)
    subst eb
    by_cases e3 : l = [48]
    · have hn : neg = false ∧ d = l := by
        rcases hnd with ⟨_, h⟩ | h
        · rw [e3] at h; cases h
        · exact h
      have ok : okL d = true := by rw [hn.2, e3]; decide
      have pos : neg = true → d.all digB = true → ¬ decV d = 0 := fun h => by rw [hn.1] at h; cases h
      simp (config := { maxSteps := 1000000 }) only [go_sem, Int.reduceToNat, Int.reduceLE, Int.reduceLT, Int.reduceAdd, Int.reduceSub, Int.reduceMul, Int.reduceEq, Int.reduceNe, Nat.reduceEqDiff, Nat.reducePow, Nat.reduceDiv, Nat.reduceMod, Nat.reduceAdd, Nat.reduceMul, Nat.reduceSub, Nat.reduceLT, Nat.reduceLeDiff, reduceIte, reduceCtorEq, a0, a4, e0, List.size_toArray, n0, e1, i1, e2, eql_str, neq_str, ← e3, guardA_undef, appendA_U]
      refine vc_sound _ _ _ (by rfl) ?_
      simp (config := { maxSteps := 1000000 }) only [go_sem, Int.reduceToNat, Int.reduceLE, Int.reduceLT, Int.reduceAdd, Int.reduceSub, Int.reduceMul, Int.reduceEq, Int.reduceNe, Nat.reduceEqDiff, Nat.reducePow, Nat.reduceDiv, Nat.reduceMod, Nat.reduceAdd, Nat.reduceMul, Nat.reduceSub, Nat.reduceLT, Nat.reduceLeDiff, reduceIte, reduceCtorEq, appendA_U]
      refine W.env fun E3 hE => ?_
      have c0 : E3 0 = .lit (.string ⟨l.toArray⟩) := by rw [hE]; exact a0
      have c4 : E3 4 = .lit (.string ⟨d.toArray⟩) := by rw [hE]; exact a4
      have c5 : E3 5 = .lit (.slice none 0 0) := by rw [hE]; rfl
      have c6 : E3 6 = lin 0 := by rw [hE]; rfl
      clear hE a0 a4
      refine W.loop0 18446743936270598252 (by rfl) (fun ρ2 H' => ∃ (j : Nat), ρ2 6 = lin j ∧ DigV (ρ2 5) (decV (d.take j)) ∧ (j ≠ 0 → ρ2 5 = vecI (dig (decV (d.take j)))) ∧ j ≤ d.length ∧ Over H2 H' ∧ (d.take j).all digB = true) (fun ρ2 H => d.length - (iv (ρ2 6)).toNat) ?_ ?_
      · simp (config := { maxSteps := 1000000 }) only [go_sem, Int.reduceToNat, Int.reduceLE, Int.reduceLT, Int.reduceAdd, Int.reduceSub, Int.reduceMul, Int.reduceEq, Int.reduceNe, Nat.reduceEqDiff, Nat.reducePow, Nat.reduceDiv, Nat.reduceMod, Nat.reduceAdd, Nat.reduceMul, Nat.reduceSub, Nat.reduceLT, Nat.reduceLeDiff, reduceIte, reduceCtorEq, c5, c6, appendA_U]
        exact ⟨0, rfl, .inr ⟨rfl, rfl⟩, (fun h => absurd rfl h), by omega, .refl _, rfl⟩
      rintro ρ2 H' ⟨j, d6, d5, d5', hj, ov, ha⟩
      refine vc_sound _ _ _ (by rfl) ?_
      by_cases hje : j = d.length
      · subst hje
        have q1 : ¬ (d.length : Int) < (d.length : Int) := by omega
        rw [List.take_length] at ha d5 d5'
        have d5 := d5' (by intro h; exact e0 (List.eq_nil_of_length_eq_zero h))
        have lv := decV_lt ha
        have l19 : decV d < 10 ^ 19 := Nat.lt_of_lt_of_le lv (Nat.pow_le_pow_right (by omega) (by omega))
        have p19 : (10 : Nat) ^ 19 = 10000000000000000000 := by decide
        have p5 : (10000 : Nat) ^ 5 = 100000000000000000000 := by decide
        have ld : (dig (decV d)).length ≤ 5 := dig_len (by omega)
        simp (config := { maxSteps := 1000000 }) only [go_sem, Int.reduceToNat, Int.reduceLE, Int.reduceLT, Int.reduceAdd, Int.reduceSub, Int.reduceMul, Int.reduceEq, Int.reduceNe, Nat.reduceEqDiff, Nat.reducePow, Nat.reduceDiv, Nat.reduceMod, Nat.reduceAdd, Nat.reduceMul, Nat.reduceSub, Nat.reduceLT, Nat.reduceLeDiff, reduceIte, reduceCtorEq, c0, c4, d5, d6, List.size_toArray, guardA_undef, q1, appendA_U]
        refine AApply.clo (value_spec (decV d) (by omega) _ _ ⟨trivial, ?_⟩)
        unfold valR
        by_cases hM : decV d ≤ 4611686018427387903
        · have hp := part_good ok ha hM
          rw [hp] at hK
          rw [if_pos hM]
          rcases hnd with ⟨rfl, rfl⟩ | ⟨rfl, rfl⟩
          · have q2 : (d.length : Int) < ((d.length + 1 : Nat) : Int) := by omega
            have wneg := IntWalk.i64_in (-((decV d : Nat) : Int)) (by omega)
            have sneg : (0 : Int) - ((decV d : Nat) : Int) = -((decV d : Nat) : Int) := by omega
            have nz : ¬ decV d = 0 := pos rfl ha
            simp (config := { maxSteps := 1000000 }) only [go_sem, Int.reduceToNat, Int.reduceLE, Int.reduceLT, Int.reduceAdd, Int.reduceSub, Int.reduceMul, Int.reduceEq, Int.reduceNe, Nat.reduceEqDiff, Nat.reducePow, Nat.reduceDiv, Nat.reduceMod, Nat.reduceAdd, Nat.reduceMul, Nat.reduceSub, Nat.reduceLT, Nat.reduceLeDiff, reduceIte, reduceCtorEq, c0, c4, d5, d6, List.size_toArray, guardA_undef, q2, wneg, sneg, appendA_U]
            exact FinV.dropO G0_ok hcl ov fz_s1 (by simp [nz] at hK; exact hK)
          · simp (config := { maxSteps := 1000000 }) only [go_sem, Int.reduceToNat, Int.reduceLE, Int.reduceLT, Int.reduceAdd, Int.reduceSub, Int.reduceMul, Int.reduceEq, Int.reduceNe, Nat.reduceEqDiff, Nat.reducePow, Nat.reduceDiv, Nat.reduceMod, Nat.reduceAdd, Nat.reduceMul, Nat.reduceSub, Nat.reduceLT, Nat.reduceLeDiff, reduceIte, reduceCtorEq, c0, c4, d5, d6, List.size_toArray, guardA_undef, q1, appendA_U]
            exact FinV.dropO G0_ok hcl ov fz_s1 hK
        · have hb := bad (part_bad3 hM)
          rw [if_neg hM]
          have w0 : IntKind.i64.wrap 0 = 0 := by decide
          rcases hnd with ⟨rfl, rfl⟩ | ⟨rfl, rfl⟩
          · have q2 : (d.length : Int) < ((d.length + 1 : Nat) : Int) := by omega
            simp (config := { maxSteps := 1000000 }) only [go_sem, Int.reduceToNat, Int.reduceLE, Int.reduceLT, Int.reduceAdd, Int.reduceSub, Int.reduceMul, Int.reduceEq, Int.reduceNe, Nat.reduceEqDiff, Nat.reducePow, Nat.reduceDiv, Nat.reduceMod, Nat.reduceAdd, Nat.reduceMul, Nat.reduceSub, Nat.reduceLT, Nat.reduceLeDiff, reduceIte, reduceCtorEq, c0, c4, d5, d6, List.size_toArray, guardA_undef, q2, w0, appendA_U]
            exact FinV.dropO G0_ok hcl ov fz_s1 hb
          · simp (config := { maxSteps := 1000000 }) only [go_sem, Int.reduceToNat, Int.reduceLE, Int.reduceLT, Int.reduceAdd, Int.reduceSub, Int.reduceMul, Int.reduceEq, Int.reduceNe, Nat.reduceEqDiff, Nat.reducePow, Nat.reduceDiv, Nat.reduceMod, Nat.reduceAdd, Nat.reduceMul, Nat.reduceSub, Nat.reduceLT, Nat.reduceLeDiff, reduceIte, reduceCtorEq, c0, c4, d5, d6, List.size_toArray, guardA_undef, q1, appendA_U]
            exact FinV.dropO G0_ok hcl ov fz_s1 hb
      · have q1 : (j : Int) < (d.length : Int) := by omega
        obtain ⟨c, hc⟩ : ∃ c, d[j]? = some c := ⟨d[j]'(by omega), List.getElem?_eq_getElem _⟩
        have ij := index_str (P := Tryd.prog) (t := 9) (k := .i64) hc Tryd.underlying9
        have cb := c.toNat_lt
        by_cases g1 : (c.toNat : Int) < 48
        · simp (config := { maxSteps := 1000000 }) only [go_sem, Int.reduceToNat, Int.reduceLE, Int.reduceLT, Int.reduceAdd, Int.reduceSub, Int.reduceMul, Int.reduceEq, Int.reduceNe, Nat.reduceEqDiff, Nat.reducePow, Nat.reduceDiv, Nat.reduceMod, Nat.reduceAdd, Nat.reduceMul, Nat.reduceSub, Nat.reduceLT, Nat.reduceLeDiff, reduceIte, reduceCtorEq, c0, c4, d6, List.size_toArray, guardA_undef, q1, ij, g1, appendA_U]
          exact FinV.dropO G0_ok hcl ov fz_s1 (bad (part_bad2 (not_all hc (by unfold digB; rw [decide_eq_false (by omega)]; rfl))))
        · by_cases g2 : (57 : Int) < (c.toNat : Int)
          · simp (config := { maxSteps := 1000000 }) only [go_sem, Int.reduceToNat, Int.reduceLE, Int.reduceLT, Int.reduceAdd, Int.reduceSub, Int.reduceMul, Int.reduceEq, Int.reduceNe, Nat.reduceEqDiff, Nat.reducePow, Nat.reduceDiv, Nat.reduceMod, Nat.reduceAdd, Nat.reduceMul, Nat.reduceSub, Nat.reduceLT, Nat.reduceLeDiff, reduceIte, reduceCtorEq, c0, c4, d6, List.size_toArray, guardA_undef, q1, ij, g1, g2, appendA_U]
            exact FinV.dropO G0_ok hcl ov fz_s1 (bad (part_bad2 (not_all hc (by unfold digB; rw [decide_eq_false (show ¬ c.toNat ≤ 57 by omega)]; simp))))
          · have lv := decV_lt ha
            rw [List.length_take, Nat.min_eq_left hj] at lv
            have l18 : decV (d.take j) < 10 ^ 18 := Nat.lt_of_lt_of_le lv (Nat.pow_le_pow_right (by omega) (by omega))
            have p18 : (10 : Nat) ^ 18 = 1000000000000000000 := by decide
            have p5 : (10000 : Nat) ^ 5 = 100000000000000000000 := by decide
            have ld : (dig (decV (d.take j))).length ≤ 5 := dig_len (by omega)
            have ld2 : (dig (decV (d.take j) * 10)).length ≤ 5 := dig_len (by omega)
            obtain ⟨C, hC⟩ : ∃ C : Nat, C = c.toNat - 48 := ⟨_, rfl⟩
            have ld3 : (dig C).length ≤ 5 := dig_len (by omega)
            have eC : (c.toNat : Int) - 48 = (C : Int) := by omega
            have r2 : IntKind.u8.wrap (C : Int) = (C : Int) := by simp [IntKind.wrap, IntKind.bits, IntKind.signed]; omega
            have r3 := IntWalk.i64_in (C : Int) (by omega)
            have r5 := IntWalk.i64_in ((j : Int) + 1) (by omega)
            have dt := decV_take hc
            obtain ⟨v5, hv5⟩ : ∃ v, v = ρ2 5 := ⟨_, rfl⟩
            rw [← hv5] at d5
            have hv5 := hv5.symm
            simp (config := { maxSteps := 1000000 }) only [go_sem, Int.reduceToNat, Int.reduceLE, Int.reduceLT, Int.reduceAdd, Int.reduceSub, Int.reduceMul, Int.reduceEq, Int.reduceNe, Nat.reduceEqDiff, Nat.reducePow, Nat.reduceDiv, Nat.reduceMod, Nat.reduceAdd, Nat.reduceMul, Nat.reduceSub, Nat.reduceLT, Nat.reduceLeDiff, reduceIte, reduceCtorEq, c0, c4, d6, hv5, List.size_toArray, guardA_undef, q1, ij, g1, g2, appendA_U]
            refine W.draw 9 [0, 0, 3, 0, 0, 24, 56, 120, 248] Tryd.mixed (by kernel_rfl) (by kernel_rfl) ?_
            simp (config := { maxSteps := 1000000 }) only [go_sem, Int.reduceToNat, Int.reduceLE, Int.reduceLT, Int.reduceAdd, Int.reduceSub, Int.reduceMul, Int.reduceEq, Int.reduceNe, Nat.reduceEqDiff, Nat.reducePow, Nat.reduceDiv, Nat.reduceMod, Nat.reduceAdd, Nat.reduceMul, Nat.reduceSub, Nat.reduceLT, Nat.reduceLeDiff, reduceIte, reduceCtorEq, c0, c4, d6, hv5, List.size_toArray, guardA_undef, ij, appendA_U]
            refine ⟨_, [H'.next], times_draw d5 (by omega) H' rfl, ?_⟩
            simp (config := { maxSteps := 1000000 }) only [go_sem, Int.reduceToNat, Int.reduceLE, Int.reduceLT, Int.reduceAdd, Int.reduceSub, Int.reduceMul, Int.reduceEq, Int.reduceNe, Nat.reduceEqDiff, Nat.reducePow, Nat.reduceDiv, Nat.reduceMod, Nat.reduceAdd, Nat.reduceMul, Nat.reduceSub, Nat.reduceLT, Nat.reduceLeDiff, reduceIte, reduceCtorEq, c0, c4, d6, hv5, List.size_toArray, guardA_undef, ij, eC, r2, r3, ext_ext, List.cons_append, List.nil_append, appendA_U]
            refine ⟨by repeat' (first | refine And.intro ?_ ?_ | (intro x hx; omega)), ?_⟩
            have hO : OwnG (H'.next + 1) (ext H' [.arr 0 3 [.lit (.int .i64 10)], .arr 0 3 [.lit (.int .i64 (C : Int))]]) 3 (.own (H'.next + 1) 0 0 1 1) (ints [(C : Int)]) := .inr ⟨H'.next + 1, 0, Nat.le_refl _, by simp only [ext_next, List.length_cons, List.length_nil]; omega, rfl, get_ext H' _ 1 (by simp)⟩
            have dgC : Dg [(C : Int)] := fun z hz => by obtain rfl := List.mem_singleton.1 hz; omega
            have vC : val [(C : Int)] = C := by simp [val]
            refine AApply.cutArgs H'.next (args' := [vecI [(C : Int)]]) G0_ok rfl (fun i hi _ => match i, hi with | 0, _ => hO.fzI fun i hi => Nat.le_trans (Nat.le_succ _) hi) (cut_spec _ dgC (by simp) _ _ ⟨trivial, ?_⟩)
            rw [vC]
            have ov2 : Over H' ((ext H' [.arr 0 3 [.lit (.int .i64 10)], .arr 0 3 [.lit (.int .i64 (C : Int))]]).cut H'.next) := (Over.ext _ _).cut
            obtain ⟨H5, hH5⟩ : ∃ H5, H5 = (ext H' [.arr 0 3 [.lit (.int .i64 10)], .arr 0 3 [.lit (.int .i64 (C : Int))]]).cut H'.next := ⟨_, rfl⟩
            rw [← hH5] at ov2 ⊢
            clear hH5
            simp (config := { maxSteps := 1000000 }) only [go_sem, Int.reduceToNat, Int.reduceLE, Int.reduceLT, Int.reduceAdd, Int.reduceSub, Int.reduceMul, Int.reduceEq, Int.reduceNe, Nat.reduceEqDiff, Nat.reducePow, Nat.reduceDiv, Nat.reduceMod, Nat.reduceAdd, Nat.reduceMul, Nat.reduceSub, Nat.reduceLT, Nat.reduceLeDiff, reduceIte, reduceCtorEq, appendA_U]
            refine AApply.clo (plus_spec (decV (d.take j) * 10) C (by omega) (by omega) _ _ ⟨trivial, ?_⟩)
            have eX : decV (d.take j) * 10 + C = decV (d.take (j + 1)) := by omega
            rw [eX]
            simp (config := { maxSteps := 1000000 }) only [go_sem, Int.reduceToNat, Int.reduceLE, Int.reduceLT, Int.reduceAdd, Int.reduceSub, Int.reduceMul, Int.reduceEq, Int.reduceNe, Nat.reduceEqDiff, Nat.reducePow, Nat.reduceDiv, Nat.reduceMod, Nat.reduceAdd, Nat.reduceMul, Nat.reduceSub, Nat.reduceLT, Nat.reduceLeDiff, reduceIte, reduceCtorEq, c0, c4, d6, hv5, r5, appendA_U]
            exact ⟨(ov.trans ov2).next, ⟨j + 1, by simp, .inl rfl, (fun _ => rfl), by omega, ov.trans ov2, all_take_succ hc ha (by unfold digB; rw [decide_eq_true (by omega), decide_eq_true (by omega)]; rfl)⟩, by omega⟩
    · simp (config := { maxSteps := 1000000 }) only [go_sem, Int.reduceToNat, Int.reduceLE, Int.reduceLT, Int.reduceAdd, Int.reduceSub, Int.reduceMul, Int.reduceEq, Int.reduceNe, Nat.reduceEqDiff, Nat.reducePow, Nat.reduceDiv, Nat.reduceMod, Nat.reduceAdd, Nat.reduceMul, Nat.reduceSub, Nat.reduceLT, Nat.reduceLeDiff, reduceIte, reduceCtorEq, a0, a4, e0, List.size_toArray, n0, e1, i1, e2, eql_str, neq_str, e3, guardA_undef, appendA_U]
      exact FinV.dropO G0_ok hcl (.refl _) fz_s1 (rej hb e3)
  · have ok : okL d = true := by
      unfold okL
      rw [decide_eq_false e0, decide_eq_false (show ¬ 19 < d.length by omega), hhd, decide_eq_false (fun h => e2 (by cases h; rfl))]
      rfl
    have pos : neg = true → d.all digB = true → ¬ decV d = 0 := fun _ h => dec_pos hb (by
      rw [List.all_eq_true] at h
      exact h b (List.mem_of_getElem? hb)) (fun h => e2 (by rw [h]; rfl))
    simp (config := { maxSteps := 1000000 }) only [go_sem, Int.reduceToNat, Int.reduceLE, Int.reduceLT, Int.reduceAdd, Int.reduceSub, Int.reduceMul, Int.reduceEq, Int.reduceNe, Nat.reduceEqDiff, Nat.reducePow, Nat.reduceDiv, Nat.reduceMod, Nat.reduceAdd, Nat.reduceMul, Nat.reduceSub, Nat.reduceLT, Nat.reduceLeDiff, reduceIte, reduceCtorEq, a0, a4, e0, List.size_toArray, n0, e1, i1, e2, guardA_undef, appendA_U]
    refine vc_sound _ _ _ (by rfl) ?_
    simp (config := { maxSteps := 1000000 }) only [go_sem, Int.reduceToNat, Int.reduceLE, Int.reduceLT, Int.reduceAdd, Int.reduceSub, Int.reduceMul, Int.reduceEq, Int.reduceNe, Nat.reduceEqDiff, Nat.reducePow, Nat.reduceDiv, Nat.reduceMod, Nat.reduceAdd, Nat.reduceMul, Nat.reduceSub, Nat.reduceLT, Nat.reduceLeDiff, reduceIte, reduceCtorEq, appendA_U]
    refine W.env fun E3 hE => ?_
    have c0 : E3 0 = .lit (.string ⟨l.toArray⟩) := by rw [hE]; exact a0
    have c4 : E3 4 = .lit (.string ⟨d.toArray⟩) := by rw [hE]; exact a4
    have c5 : E3 5 = .lit (.slice none 0 0) := by rw [hE]; rfl
    have c6 : E3 6 = lin 0 := by rw [hE]; rfl
    clear hE a0 a4
    refine W.loop0 18446743936270598252 (by rfl) (fun ρ2 H' => ∃ (j : Nat), ρ2 6 = lin j ∧ DigV (ρ2 5) (decV (d.take j)) ∧ (j ≠ 0 → ρ2 5 = vecI (dig (decV (d.take j)))) ∧ j ≤ d.length ∧ Over H2 H' ∧ (d.take j).all digB = true) (fun ρ2 H => d.length - (iv (ρ2 6)).toNat) ?_ ?_
    · simp (config := { maxSteps := 1000000 }) only [go_sem, Int.reduceToNat, Int.reduceLE, Int.reduceLT, Int.reduceAdd, Int.reduceSub, Int.reduceMul, Int.reduceEq, Int.reduceNe, Nat.reduceEqDiff, Nat.reducePow, Nat.reduceDiv, Nat.reduceMod, Nat.reduceAdd, Nat.reduceMul, Nat.reduceSub, Nat.reduceLT, Nat.reduceLeDiff, reduceIte, reduceCtorEq, c5, c6, appendA_U]
      exact ⟨0, rfl, .inr ⟨rfl, rfl⟩, (fun h => absurd rfl h), by omega, .refl _, rfl⟩
    rintro ρ2 H' ⟨j, d6, d5, d5', hj, ov, ha⟩
    refine vc_sound _ _ _ (by rfl) ?_
    by_cases hje : j = d.length
    · subst hje
      have q1 : ¬ (d.length : Int) < (d.length : Int) := by omega
      rw [List.take_length] at ha d5 d5'
      have d5 := d5' (by intro h; exact e0 (List.eq_nil_of_length_eq_zero h))
      have lv := decV_lt ha
      have l19 : decV d < 10 ^ 19 := Nat.lt_of_lt_of_le lv (Nat.pow_le_pow_right (by omega) (by omega))
      have p19 : (10 : Nat) ^ 19 = 10000000000000000000 := by decide
      have p5 : (10000 : Nat) ^ 5 = 100000000000000000000 := by decide
      have ld : (dig (decV d)).length ≤ 5 := dig_len (by omega)
      simp (config := { maxSteps := 1000000 }) only [go_sem, Int.reduceToNat, Int.reduceLE, Int.reduceLT, Int.reduceAdd, Int.reduceSub, Int.reduceMul, Int.reduceEq, Int.reduceNe, Nat.reduceEqDiff, Nat.reducePow, Nat.reduceDiv, Nat.reduceMod, Nat.reduceAdd, Nat.reduceMul, Nat.reduceSub, Nat.reduceLT, Nat.reduceLeDiff, reduceIte, reduceCtorEq, c0, c4, d5, d6, List.size_toArray, guardA_undef, q1, appendA_U]
      refine AApply.clo (value_spec (decV d) (by omega) _ _ ⟨trivial, ?_⟩)
      unfold valR
      by_cases hM : decV d ≤ 4611686018427387903
      · have hp := part_good ok ha hM
        rw [hp] at hK
        rw [if_pos hM]
        rcases hnd with ⟨rfl, rfl⟩ | ⟨rfl, rfl⟩
        · have q2 : (d.length : Int) < ((d.length + 1 : Nat) : Int) := by omega
          have wneg := IntWalk.i64_in (-((decV d : Nat) : Int)) (by omega)
          have sneg : (0 : Int) - ((decV d : Nat) : Int) = -((decV d : Nat) : Int) := by omega
          have nz : ¬ decV d = 0 := pos rfl ha
          simp (config := { maxSteps := 1000000 }) only [go_sem, Int.reduceToNat, Int.reduceLE, Int.reduceLT, Int.reduceAdd, Int.reduceSub, Int.reduceMul, Int.reduceEq, Int.reduceNe, Nat.reduceEqDiff, Nat.reducePow, Nat.reduceDiv, Nat.reduceMod, Nat.reduceAdd, Nat.reduceMul, Nat.reduceSub, Nat.reduceLT, Nat.reduceLeDiff, reduceIte, reduceCtorEq, c0, c4, d5, d6, List.size_toArray, guardA_undef, q2, wneg, sneg, appendA_U]
          exact FinV.dropO G0_ok hcl ov fz_s1 (by simp [nz] at hK; exact hK)
        · simp (config := { maxSteps := 1000000 }) only [go_sem, Int.reduceToNat, Int.reduceLE, Int.reduceLT, Int.reduceAdd, Int.reduceSub, Int.reduceMul, Int.reduceEq, Int.reduceNe, Nat.reduceEqDiff, Nat.reducePow, Nat.reduceDiv, Nat.reduceMod, Nat.reduceAdd, Nat.reduceMul, Nat.reduceSub, Nat.reduceLT, Nat.reduceLeDiff, reduceIte, reduceCtorEq, c0, c4, d5, d6, List.size_toArray, guardA_undef, q1, appendA_U]
          exact FinV.dropO G0_ok hcl ov fz_s1 hK
      · have hb := bad (part_bad3 hM)
        rw [if_neg hM]
        have w0 : IntKind.i64.wrap 0 = 0 := by decide
        rcases hnd with ⟨rfl, rfl⟩ | ⟨rfl, rfl⟩
        · have q2 : (d.length : Int) < ((d.length + 1 : Nat) : Int) := by omega
          simp (config := { maxSteps := 1000000 }) only [go_sem, Int.reduceToNat, Int.reduceLE, Int.reduceLT, Int.reduceAdd, Int.reduceSub, Int.reduceMul, Int.reduceEq, Int.reduceNe, Nat.reduceEqDiff, Nat.reducePow, Nat.reduceDiv, Nat.reduceMod, Nat.reduceAdd, Nat.reduceMul, Nat.reduceSub, Nat.reduceLT, Nat.reduceLeDiff, reduceIte, reduceCtorEq, c0, c4, d5, d6, List.size_toArray, guardA_undef, q2, w0, appendA_U]
          exact FinV.dropO G0_ok hcl ov fz_s1 hb
        · simp (config := { maxSteps := 1000000 }) only [go_sem, Int.reduceToNat, Int.reduceLE, Int.reduceLT, Int.reduceAdd, Int.reduceSub, Int.reduceMul, Int.reduceEq, Int.reduceNe, Nat.reduceEqDiff, Nat.reducePow, Nat.reduceDiv, Nat.reduceMod, Nat.reduceAdd, Nat.reduceMul, Nat.reduceSub, Nat.reduceLT, Nat.reduceLeDiff, reduceIte, reduceCtorEq, c0, c4, d5, d6, List.size_toArray, guardA_undef, q1, appendA_U]
          exact FinV.dropO G0_ok hcl ov fz_s1 hb
    · have q1 : (j : Int) < (d.length : Int) := by omega
      obtain ⟨c, hc⟩ : ∃ c, d[j]? = some c := ⟨d[j]'(by omega), List.getElem?_eq_getElem _⟩
      have ij := index_str (P := Tryd.prog) (t := 9) (k := .i64) hc Tryd.underlying9
      have cb := c.toNat_lt
      by_cases g1 : (c.toNat : Int) < 48
      · simp (config := { maxSteps := 1000000 }) only [go_sem, Int.reduceToNat, Int.reduceLE, Int.reduceLT, Int.reduceAdd, Int.reduceSub, Int.reduceMul, Int.reduceEq, Int.reduceNe, Nat.reduceEqDiff, Nat.reducePow, Nat.reduceDiv, Nat.reduceMod, Nat.reduceAdd, Nat.reduceMul, Nat.reduceSub, Nat.reduceLT, Nat.reduceLeDiff, reduceIte, reduceCtorEq, c0, c4, d6, List.size_toArray, guardA_undef, q1, ij, g1, appendA_U]
        exact FinV.dropO G0_ok hcl ov fz_s1 (bad (part_bad2 (not_all hc (by unfold digB; rw [decide_eq_false (by omega)]; rfl))))
      · by_cases g2 : (57 : Int) < (c.toNat : Int)
        · simp (config := { maxSteps := 1000000 }) only [go_sem, Int.reduceToNat, Int.reduceLE, Int.reduceLT, Int.reduceAdd, Int.reduceSub, Int.reduceMul, Int.reduceEq, Int.reduceNe, Nat.reduceEqDiff, Nat.reducePow, Nat.reduceDiv, Nat.reduceMod, Nat.reduceAdd, Nat.reduceMul, Nat.reduceSub, Nat.reduceLT, Nat.reduceLeDiff, reduceIte, reduceCtorEq, c0, c4, d6, List.size_toArray, guardA_undef, q1, ij, g1, g2, appendA_U]
          exact FinV.dropO G0_ok hcl ov fz_s1 (bad (part_bad2 (not_all hc (by unfold digB; rw [decide_eq_false (show ¬ c.toNat ≤ 57 by omega)]; simp))))
        · have lv := decV_lt ha
          rw [List.length_take, Nat.min_eq_left hj] at lv
          have l18 : decV (d.take j) < 10 ^ 18 := Nat.lt_of_lt_of_le lv (Nat.pow_le_pow_right (by omega) (by omega))
          have p18 : (10 : Nat) ^ 18 = 1000000000000000000 := by decide
          have p5 : (10000 : Nat) ^ 5 = 100000000000000000000 := by decide
          have ld : (dig (decV (d.take j))).length ≤ 5 := dig_len (by omega)
          have ld2 : (dig (decV (d.take j) * 10)).length ≤ 5 := dig_len (by omega)
          obtain ⟨C, hC⟩ : ∃ C : Nat, C = c.toNat - 48 := ⟨_, rfl⟩
          have ld3 : (dig C).length ≤ 5 := dig_len (by omega)
          have eC : (c.toNat : Int) - 48 = (C : Int) := by omega
          have r2 : IntKind.u8.wrap (C : Int) = (C : Int) := by simp [IntKind.wrap, IntKind.bits, IntKind.signed]; omega
          have r3 := IntWalk.i64_in (C : Int) (by omega)
          have r5 := IntWalk.i64_in ((j : Int) + 1) (by omega)
          have dt := decV_take hc
          obtain ⟨v5, hv5⟩ : ∃ v, v = ρ2 5 := ⟨_, rfl⟩
          rw [← hv5] at d5
          have hv5 := hv5.symm
          simp (config := { maxSteps := 1000000 }) only [go_sem, Int.reduceToNat, Int.reduceLE, Int.reduceLT, Int.reduceAdd, Int.reduceSub, Int.reduceMul, Int.reduceEq, Int.reduceNe, Nat.reduceEqDiff, Nat.reducePow, Nat.reduceDiv, Nat.reduceMod, Nat.reduceAdd, Nat.reduceMul, Nat.reduceSub, Nat.reduceLT, Nat.reduceLeDiff, reduceIte, reduceCtorEq, c0, c4, d6, hv5, List.size_toArray, guardA_undef, q1, ij, g1, g2, appendA_U]
          refine W.draw 9 [0, 0, 3, 0, 0, 24, 56, 120, 248] Tryd.mixed (by kernel_rfl) (by kernel_rfl) ?_
          simp (config := { maxSteps := 1000000 }) only [go_sem, Int.reduceToNat, Int.reduceLE, Int.reduceLT, Int.reduceAdd, Int.reduceSub, Int.reduceMul, Int.reduceEq, Int.reduceNe, Nat.reduceEqDiff, Nat.reducePow, Nat.reduceDiv, Nat.reduceMod, Nat.reduceAdd, Nat.reduceMul, Nat.reduceSub, Nat.reduceLT, Nat.reduceLeDiff, reduceIte, reduceCtorEq, c0, c4, d6, hv5, List.size_toArray, guardA_undef, ij, appendA_U]
          refine ⟨_, [H'.next], times_draw d5 (by omega) H' rfl, ?_⟩
          simp (config := { maxSteps := 1000000 }) only [go_sem, Int.reduceToNat, Int.reduceLE, Int.reduceLT, Int.reduceAdd, Int.reduceSub, Int.reduceMul, Int.reduceEq, Int.reduceNe, Nat.reduceEqDiff, Nat.reducePow, Nat.reduceDiv, Nat.reduceMod, Nat.reduceAdd, Nat.reduceMul, Nat.reduceSub, Nat.reduceLT, Nat.reduceLeDiff, reduceIte, reduceCtorEq, c0, c4, d6, hv5, List.size_toArray, guardA_undef, ij, eC, r2, r3, ext_ext, List.cons_append, List.nil_append, appendA_U]
          refine ⟨by repeat' (first | refine And.intro ?_ ?_ | (intro x hx; omega)), ?_⟩
          have hO : OwnG (H'.next + 1) (ext H' [.arr 0 3 [.lit (.int .i64 10)], .arr 0 3 [.lit (.int .i64 (C : Int))]]) 3 (.own (H'.next + 1) 0 0 1 1) (ints [(C : Int)]) := .inr ⟨H'.next + 1, 0, Nat.le_refl _, by simp only [ext_next, List.length_cons, List.length_nil]; omega, rfl, get_ext H' _ 1 (by simp)⟩
          have dgC : Dg [(C : Int)] := fun z hz => by obtain rfl := List.mem_singleton.1 hz; omega
          have vC : val [(C : Int)] = C := by simp [val]
          refine AApply.cutArgs H'.next (args' := [vecI [(C : Int)]]) G0_ok rfl (fun i hi _ => match i, hi with | 0, _ => hO.fzI fun i hi => Nat.le_trans (Nat.le_succ _) hi) (cut_spec _ dgC (by simp) _ _ ⟨trivial, ?_⟩)
          rw [vC]
          have ov2 : Over H' ((ext H' [.arr 0 3 [.lit (.int .i64 10)], .arr 0 3 [.lit (.int .i64 (C : Int))]]).cut H'.next) := (Over.ext _ _).cut
          obtain ⟨H5, hH5⟩ : ∃ H5, H5 = (ext H' [.arr 0 3 [.lit (.int .i64 10)], .arr 0 3 [.lit (.int .i64 (C : Int))]]).cut H'.next := ⟨_, rfl⟩
          rw [← hH5] at ov2 ⊢
          clear hH5
          simp (config := { maxSteps := 1000000 }) only [go_sem, Int.reduceToNat, Int.reduceLE, Int.reduceLT, Int.reduceAdd, Int.reduceSub, Int.reduceMul, Int.reduceEq, Int.reduceNe, Nat.reduceEqDiff, Nat.reducePow, Nat.reduceDiv, Nat.reduceMod, Nat.reduceAdd, Nat.reduceMul, Nat.reduceSub, Nat.reduceLT, Nat.reduceLeDiff, reduceIte, reduceCtorEq, appendA_U]
          refine AApply.clo (plus_spec (decV (d.take j) * 10) C (by omega) (by omega) _ _ ⟨trivial, ?_⟩)
          have eX : decV (d.take j) * 10 + C = decV (d.take (j + 1)) := by omega
          rw [eX]
          simp (config := { maxSteps := 1000000 }) only [go_sem, Int.reduceToNat, Int.reduceLE, Int.reduceLT, Int.reduceAdd, Int.reduceSub, Int.reduceMul, Int.reduceEq, Int.reduceNe, Nat.reduceEqDiff, Nat.reducePow, Nat.reduceDiv, Nat.reduceMod, Nat.reduceAdd, Nat.reduceMul, Nat.reduceSub, Nat.reduceLT, Nat.reduceLeDiff, reduceIte, reduceCtorEq, c0, c4, d6, hv5, r5, appendA_U]
          exact ⟨(ov.trans ov2).next, ⟨j + 1, by simp, .inl rfl, (fun _ => rfl), by omega, ov.trans ov2, all_take_succ hc ha (by unfold digB; rw [decide_eq_true (by omega), decide_eq_true (by omega)]; rfl)⟩, by omega⟩
end Go.Proofs
set_option linter.unusedSimpArgs false
set_option maxRecDepth 100000
namespace Go.Proofs
open Go.Hx
theorem slash_of {l : List UInt8} {i : Nat} (h : l[i]? = some 47) (h2 : ∀ j, j < i → l[j]? ≠ some 47) : slash l = some i := by
  cases hs : slash l with
  | none => exact absurd h (slash_none hs i)
  | some k =>
    obtain ⟨_, k2, k3⟩ := slash_some hs
    rcases Nat.lt_trichotomy i k with g | g | g
    · exact absurd h (k3 i g)
    · rw [g]
    · exact absurd k2 (h2 k g)
theorem slash_no {l : List UInt8} (h2 : ∀ j, j < l.length → l[j]? ≠ some 47) : slash l = none := by
  cases hs : slash l with
  | none => rfl
  | some k =>
    obtain ⟨k1, k2, _⟩ := slash_some hs
    exact absurd k2 (h2 k k1)
def numP (l : List UInt8) : Int × Bool := match numO l with
  | some n => (n, true)
  | none => (0, false)
theorem numR_P (l : List UInt8) : numR l = .tup [.lit (.int .i64 (numP l).1), .lit (.bool (numP l).2)] := by
  unfold numR numP
  cases numO l <;> rfl
def rP (l : List UInt8) : Int × Int × Bool := match slash l with
  | some i => ((numP (l.take i)).1, (numP (l.drop (i + 1))).1, (numP (l.take i)).2 && ((numP (l.drop (i + 1))).2 && (decide (1 < (numP (l.drop (i + 1))).1) && decide (checkQ (numP (l.take i)).1 (numP (l.drop (i + 1))).1 = 0))))
  | none => ((numP l).1, 1, (numP l).2)
theorem numP_range (l : List UInt8) : I64 (numP l).1 := by
  unfold numP numO
  cases h : part (restS l) with
  | none => split <;> unfold I64 <;> simp <;> split at * <;> simp_all
  | some v =>
    have := part_le h
    by_cases hn : negS l = true
    · by_cases hv : v = 0
      · simp [hn, hv, I64]
      · simp [hn, hv, I64]; omega
    · simp [hn, I64]; omega
set_option maxHeartbeats 2000000 in
theorem rparse_spec (l : List UInt8) (hl : l.length < 9223372036854775000) (H : AHeap) (K : ARes → AHeap → Prop) (hK : K (.ret (.tup [qV (rP l).1 (rP l).2.1, .lit (.bool (rP l).2.2)])) H) : ACall Tryd.prog G0 36 [.lit (.string ⟨l.toArray⟩)] H K := by
  refine ACall.clo ⟨_, Tryd.func36, rfl, rfl⟩ fun hcl => ?_
  refine ACall.of_body (n := 61) (rs := [.cell 2 23, .tmp 3]) Tryd.func36 rfl rfl rfl (by decide) (by kernel_rfl) (by simp) ?_
  simp (config := { maxSteps := 1000000 }) only [go_sem, Int.reduceToNat, Int.reduceLE, Int.reduceLT, Int.reduceAdd, Int.reduceSub, Int.reduceMul, Int.reduceEq, Int.reduceNe, Nat.reduceEqDiff, Nat.reducePow, Nat.reduceDiv, Nat.reduceMod, Nat.reduceAdd, Nat.reduceMul, Nat.reduceSub, Nat.reduceLT, Nat.reduceLeDiff, reduceIte, reduceCtorEq, appendA_U]
  refine W.loop0 9007199254737912 (by rfl) (fun ρ H' => ∃ i : Nat, ρ 4 = lin i ∧ i ≤ l.length ∧ (∀ j, j < i → l[j]? ≠ some 47) ∧ H' = ext H [.arr 0 23 [.lit (.int .i64 0), .lit (.int .i64 0)]]) (fun ρ H => l.length - (iv (ρ 4)).toNat) ?_ ?_
  · simp (config := { maxSteps := 1000000 }) only [go_sem, Int.reduceToNat, Int.reduceLE, Int.reduceLT, Int.reduceAdd, Int.reduceSub, Int.reduceMul, Int.reduceEq, Int.reduceNe, Nat.reduceEqDiff, Nat.reducePow, Nat.reduceDiv, Nat.reduceMod, Nat.reduceAdd, Nat.reduceMul, Nat.reduceSub, Nat.reduceLT, Nat.reduceLeDiff, reduceIte, reduceCtorEq, appendA_U]
    exact ⟨0, rfl, by omega, fun j hj => absurd hj (Nat.not_lt_zero _)⟩
  rintro ρ H' ⟨i, h4, hi, hs, rfl⟩
  refine vc_sound _ _ _ (by rfl) ?_
  by_cases hie : i = l.length
  · subst hie
    have q1 : ¬ (l.length : Int) < (l.length : Int) := by omega
    have sn := slash_no hs
    unfold rP at hK
    rw [sn] at hK
    simp (config := { maxSteps := 1000000 }) only [go_sem, Int.reduceToNat, Int.reduceLE, Int.reduceLT, Int.reduceAdd, Int.reduceSub, Int.reduceMul, Int.reduceEq, Int.reduceNe, Nat.reduceEqDiff, Nat.reducePow, Nat.reduceDiv, Nat.reduceMod, Nat.reduceAdd, Nat.reduceMul, Nat.reduceSub, Nat.reduceLT, Nat.reduceLeDiff, reduceIte, reduceCtorEq, h4, q1, List.size_toArray, appendA_U]
    refine AApply.clo (rnum_spec l hl _ _ ⟨trivial, ?_⟩)
    rw [numR_P]
    simp (config := { maxSteps := 1000000 }) only [go_sem, Int.reduceToNat, Int.reduceLE, Int.reduceLT, Int.reduceAdd, Int.reduceSub, Int.reduceMul, Int.reduceEq, Int.reduceNe, Nat.reduceEqDiff, Nat.reducePow, Nat.reduceDiv, Nat.reduceMod, Nat.reduceAdd, Nat.reduceMul, Nat.reduceSub, Nat.reduceLT, Nat.reduceLeDiff, reduceIte, reduceCtorEq, h4, q1, List.size_toArray, appendA_U]
    exact FinV.drop G0_ok hcl fz_qb hK
  · have q1 : (i : Int) < (l.length : Int) := by omega
    obtain ⟨c, hc⟩ : ∃ c, l[i]? = some c := ⟨l[i]'(by omega), List.getElem?_eq_getElem _⟩
    have ij := index_str (P := Tryd.prog) (t := 9) (k := .i64) hc Tryd.underlying9
    have r5 := IntWalk.i64_in ((i : Int) + 1) (by omega)
    by_cases hc47 : (c.toNat : Int) = 47
    · have e47 : c = 47 := UInt8.toNat_inj.1 (by rw [show (47 : UInt8).toNat = 47 from rfl]; omega)
      rw [e47] at hc
      have sn := slash_of hc hs
      unfold rP at hK
      rw [sn] at hK
      have c1 : (0 : Int) ≤ (i : Int) := by omega
      have c2 : (i : Int) ≤ (l.length : Int) := by omega
      have c3 : (0 : Int) ≤ (i : Int) + 1 := by omega
      have c4 : (i : Int) + 1 ≤ (l.length : Int) := by omega
      have c5 : ((i : Int) + 1).toNat = i + 1 := by omega
      have rn := numP_range (l.take i)
      have rd := numP_range (l.drop (i + 1))
      simp only at hK
      simp (config := { maxSteps := 1000000 }) only [go_sem, Int.reduceToNat, Int.reduceLE, Int.reduceLT, Int.reduceAdd, Int.reduceSub, Int.reduceMul, Int.reduceEq, Int.reduceNe, Nat.reduceEqDiff, Nat.reducePow, Nat.reduceDiv, Nat.reduceMod, Nat.reduceAdd, Nat.reduceMul, Nat.reduceSub, Nat.reduceLT, Nat.reduceLeDiff, reduceIte, reduceCtorEq, h4, q1, List.size_toArray, ij, hc47, c1, c2, str_size, str_ext, List.drop_zero, appendA_U]
      refine AApply.clo (rnum_spec (l.take i) (by rw [List.length_take]; omega) _ _ ⟨trivial, ?_⟩)
      rw [numR_P]
      simp (config := { maxSteps := 1000000 }) only [go_sem, Int.reduceToNat, Int.reduceLE, Int.reduceLT, Int.reduceAdd, Int.reduceSub, Int.reduceMul, Int.reduceEq, Int.reduceNe, Nat.reduceEqDiff, Nat.reducePow, Nat.reduceDiv, Nat.reduceMod, Nat.reduceAdd, Nat.reduceMul, Nat.reduceSub, Nat.reduceLT, Nat.reduceLeDiff, reduceIte, reduceCtorEq, h4, c2, c3, c4, c5, r5, str_size, str_ext, List.take_length, appendA_U]
      refine AApply.clo (rnum_spec (l.drop (i + 1)) (by rw [List.length_drop]; omega) _ _ ⟨trivial, ?_⟩)
      rw [numR_P]
      generalize numP (l.take i) = p1 at *
      generalize numP (l.drop (i + 1)) = p2 at *
      obtain ⟨n, f1⟩ := p1
      obtain ⟨d, f2⟩ := p2
      simp only at hK rn rd ⊢
      simp (config := { maxSteps := 1000000 }) only [go_sem, Int.reduceToNat, Int.reduceLE, Int.reduceLT, Int.reduceAdd, Int.reduceSub, Int.reduceMul, Int.reduceEq, Int.reduceNe, Nat.reduceEqDiff, Nat.reducePow, Nat.reduceDiv, Nat.reduceMod, Nat.reduceAdd, Nat.reduceMul, Nat.reduceSub, Nat.reduceLT, Nat.reduceLeDiff, reduceIte, reduceCtorEq, h4, ext_ext, List.cons_append, List.nil_append, appendA_U]
      cases f1 with
      | false =>
        refine W.draw 14 [0, 0, 2, 6, 14, 30, 62, 126, 254, 510, 1022, 2046, 4094, 4095] Tryd.mixed (by kernel_rfl) (by kernel_rfl) ?_
        simp (config := { maxSteps := 1000000 }) only [go_sem, Int.reduceToNat, Int.reduceLE, Int.reduceLT, Int.reduceAdd, Int.reduceSub, Int.reduceMul, Int.reduceEq, Int.reduceNe, Nat.reduceEqDiff, Nat.reducePow, Nat.reduceDiv, Nat.reduceMod, Nat.reduceAdd, Nat.reduceMul, Nat.reduceSub, Nat.reduceLT, Nat.reduceLeDiff, reduceIte, reduceCtorEq, h4, guardA_undef, appendA_U]
        exact FinV.drop G0_ok hcl fz_qb hK
      | true =>
        cases f2 with
        | false =>
          refine W.draw 14 [0, 0, 2, 6, 14, 30, 62, 126, 254, 510, 1022, 2046, 4094, 4095] Tryd.mixed (by kernel_rfl) (by kernel_rfl) ?_
          simp (config := { maxSteps := 1000000 }) only [go_sem, Int.reduceToNat, Int.reduceLE, Int.reduceLT, Int.reduceAdd, Int.reduceSub, Int.reduceMul, Int.reduceEq, Int.reduceNe, Nat.reduceEqDiff, Nat.reducePow, Nat.reduceDiv, Nat.reduceMod, Nat.reduceAdd, Nat.reduceMul, Nat.reduceSub, Nat.reduceLT, Nat.reduceLeDiff, reduceIte, reduceCtorEq, h4, guardA_undef, appendA_U]
          exact FinV.drop G0_ok hcl fz_qb hK
        | true =>
          by_cases hd : 1 < d
          · rw [decide_eq_true hd] at hK
            have rs := Right_spec n d rn rd
            obtain ⟨ck, hck⟩ : ∃ ck, ck = decide (checkQ n d = 0) := ⟨_, rfl⟩
            rw [← hck] at hK rs
            clear hck
            refine W.draw 14 [0, 0, 2, 6, 14, 30, 62, 126, 254, 510, 1022, 2046, 4094, 4095] Tryd.mixed (by kernel_rfl) (by kernel_rfl) ?_
            simp (config := { maxSteps := 1000000 }) only [go_sem, Int.reduceToNat, Int.reduceLE, Int.reduceLT, Int.reduceAdd, Int.reduceSub, Int.reduceMul, Int.reduceEq, Int.reduceNe, Nat.reduceEqDiff, Nat.reducePow, Nat.reduceDiv, Nat.reduceMod, Nat.reduceAdd, Nat.reduceMul, Nat.reduceSub, Nat.reduceLT, Nat.reduceLeDiff, reduceIte, reduceCtorEq, h4, guardA_undef, hd, appendA_U]
            refine ⟨_, [], PCall.pure fun H2 => rs H2 _ ⟨rfl, rfl⟩, ?_⟩
            simp (config := { maxSteps := 1000000 }) only [go_sem, Int.reduceToNat, Int.reduceLE, Int.reduceLT, Int.reduceAdd, Int.reduceSub, Int.reduceMul, Int.reduceEq, Int.reduceNe, Nat.reduceEqDiff, Nat.reducePow, Nat.reduceDiv, Nat.reduceMod, Nat.reduceAdd, Nat.reduceMul, Nat.reduceSub, Nat.reduceLT, Nat.reduceLeDiff, reduceIte, reduceCtorEq, h4, guardA_undef, appendA_U]
            exact FinV.drop G0_ok hcl fz_qb (by simpa using hK)
          · rw [decide_eq_false hd] at hK
            refine W.draw 14 [0, 0, 2, 6, 14, 30, 62, 126, 254, 510, 1022, 2046, 4094, 4095] Tryd.mixed (by kernel_rfl) (by kernel_rfl) ?_
            simp (config := { maxSteps := 1000000 }) only [go_sem, Int.reduceToNat, Int.reduceLE, Int.reduceLT, Int.reduceAdd, Int.reduceSub, Int.reduceMul, Int.reduceEq, Int.reduceNe, Nat.reduceEqDiff, Nat.reducePow, Nat.reduceDiv, Nat.reduceMod, Nat.reduceAdd, Nat.reduceMul, Nat.reduceSub, Nat.reduceLT, Nat.reduceLeDiff, reduceIte, reduceCtorEq, h4, guardA_undef, hd, appendA_U]
            exact FinV.drop G0_ok hcl fz_qb hK
    · simp (config := { maxSteps := 1000000 }) only [go_sem, Int.reduceToNat, Int.reduceLE, Int.reduceLT, Int.reduceAdd, Int.reduceSub, Int.reduceMul, Int.reduceEq, Int.reduceNe, Nat.reduceEqDiff, Nat.reducePow, Nat.reduceDiv, Nat.reduceMod, Nat.reduceAdd, Nat.reduceMul, Nat.reduceSub, Nat.reduceLT, Nat.reduceLeDiff, reduceIte, reduceCtorEq, h4, q1, List.size_toArray, ij, hc47, r5, appendA_U]
      exact ⟨⟨i + 1, by simp, by omega, fun j hj => by
        rcases Nat.lt_or_ge j i with g | g
        · exact hs j g
        · rw [show j = i by omega, hc]
          intro h
          cases h
          exact hc47 rfl⟩, by omega⟩
end Go.Proofs
set_option linter.unusedSimpArgs false
set_option maxRecDepth 100000
namespace Go.Proofs
open Go.Hx Go.Lib
theorem dd_small {u : Nat} (h : u < 10) : decDigits u = [UInt8.ofNat (48 + u)] := decDigits_one h
theorem dd_big {u : Nat} (h : ¬ u < 10) : decDigits u = decDigits (u / 10) ++ [UInt8.ofNat (48 + u % 10)] := by
  rw [decDigits, dif_neg h]
theorem dd_len (k : Nat) : ∀ u, u < 10 ^ (k + 1) → (decDigits u).length ≤ k + 1 := by
  induction k with
  | zero => intro u hu; rw [dd_small (by simpa using hu)]; simp
  | succ k ih =>
    intro u hu
    by_cases h : u < 10
    · rw [dd_small h]; simp
    · rw [dd_big h, List.length_append]
      have := ih (u / 10) (by rw [Nat.pow_succ] at hu; omega)
      simp; omega
theorem itoa_len {n : Int} (h : I64 n) : (itoa n).length ≤ 21 := by
  have := dd_len 19 n.natAbs (by have : (10 : Nat) ^ 20 = 100000000000000000000 := by decide
                                 have := h.1; have := h.2; omega)
  unfold itoa
  split
  · simp; omega
  · have e : n.toNat = n.natAbs := by omega
    rw [e]; omega
def tail2 (d : Int) : List UInt8 := if d = 1 then [] else 47 :: itoa d
def textL (n d : Int) : List UInt8 := itoa n ++ tail2 d
end Go.Proofs
set_option linter.unusedSimpArgs false
set_option maxRecDepth 100000
namespace Go.Proofs
open Go.Hx Go.Lib
theorem part45 {w : List UInt8} (h : negS w = true) : part w = none := by
  refine part_bad2 ?_
  unfold negS at h
  have h := of_decide_eq_true h
  rw [List.head?_eq_getElem?] at h
  exact not_all h (by decide)
theorem rest_of_not {w : List UInt8} (h : negS w = false) : restS w = w := by
  unfold negS at h
  unfold restS
  rw [if_neg (of_decide_eq_false h)]
theorem fst_num {a u : List UInt8} {neg : Bool} (h : (neg = true ∧ a = 45 :: u) ∨ (neg = false ∧ a = u ∧ negS u = false)) :
    (∃ v, part u = some v ∧ ¬ (neg = true ∧ v = 0) ∧ numP a = (if neg = true then -(v : Int) else v, true)) ∨ ((numP a).2 = false ∧ (part u = none ∨ (neg = true ∧ part u = some 0))) := by
  rcases h with ⟨rfl, rfl⟩ | ⟨rfl, rfl, hn⟩
  · have e1 : negS (45 :: u) = true := by unfold negS; simp
    have e2 : restS (45 :: u) = u := by unfold restS; simp
    unfold numP numO
    rw [e1, e2]
    cases hp : part u with
    | none => exact .inr ⟨by simp, .inl rfl⟩
    | some v =>
      by_cases hv : v = 0
      · subst hv; exact .inr ⟨by simp, .inr ⟨rfl, rfl⟩⟩
      · exact .inl ⟨v, rfl, fun h => hv h.2, by simp [hv]⟩
  · unfold numP numO
    rw [hn, rest_of_not hn]
    cases hp : part a with
    | none => exact .inr ⟨by simp, .inl rfl⟩
    | some v => exact .inl ⟨v, rfl, fun h => (by cases h.1), by simp⟩
theorem snd_num (w : List UInt8) : (∃ v, part w = some v ∧ numP w = ((v : Int), true)) ∨ (part w = none ∧ ((numP w).2 = false ∨ (numP w).1 ≤ 1)) := by
  cases hn : negS w with
  | true =>
    refine .inr ⟨part45 hn, ?_⟩
    unfold numP numO
    rw [hn]
    cases part (restS w) with
    | none => exact .inl (by simp)
    | some v =>
      by_cases hv : v = 0
      · exact .inl (by simp [hv])
      · exact .inr (by simp [hv])
  | false =>
    unfold numP numO
    rw [hn, rest_of_not hn]
    cases hp : part w with
    | none => exact .inr ⟨rfl, .inl (by simp)⟩
    | some v => exact .inl ⟨v, rfl, by simp⟩
theorem slash_cons (r : List UInt8) : slash (45 :: r) = (slash r).map (· + 1) := by
  unfold slash
  rw [List.findIdx?_cons]
  simp
theorem neg_take {l : List UInt8} (h : negS l = false) (i : Nat) : negS (l.take i) = false := by
  unfold negS at *
  rw [decide_eq_false_iff_not] at *
  cases i with
  | zero => simp
  | succ i => cases l with
    | nil => simp
    | cons b t => simpa using h
theorem ck_neg {n d : Int} : checkQ (-n) d = checkQ n d := checkQ_neg n d
theorem comb {a u w : List UInt8} {neg : Bool} (h : (neg = true ∧ a = 45 :: u) ∨ (neg = false ∧ a = u ∧ negS u = false)) :
    let f := ((numP a).2 && ((numP w).2 && (decide (1 < (numP w).1) && decide (checkQ (numP a).1 (numP w).1 = 0))))
    let o : Option (Int × Int) := match part u, part w with
      | some n, some d => if ((some 0 : Option Nat).isSome = true ∧ d = 1) ∨ (neg = true ∧ n = 0) ∨ checkQ n d ≠ 0 then none else some (if neg = true then -(n : Int) else n, d)
      | _, _ => none
    (f = true ∧ o = some ((numP a).1, (numP w).1)) ∨ (f = false ∧ o = none) := by
  intro f o
  rcases fst_num h with ⟨v, p1, p2, p3⟩ | ⟨p1, p2⟩
  · rcases snd_num w with ⟨e, q1, q2⟩ | ⟨q1, q2⟩
    · have ho : o = if ((some 0 : Option Nat).isSome = true ∧ e = 1) ∨ (neg = true ∧ v = 0) ∨ checkQ v e ≠ 0 then none else some (if neg = true then -(v : Int) else v, (e : Int)) := by
        show (match part u, part w with
          | some n, some d => if ((some 0 : Option Nat).isSome = true ∧ d = 1) ∨ (neg = true ∧ n = 0) ∨ checkQ n d ≠ 0 then none else some (if neg = true then -(n : Int) else n, (d : Int))
          | _, _ => none) = _
        rw [p1, q1]
      have hf : f = (decide (1 < (e : Int)) && decide (checkQ (if neg = true then -(v : Int) else v) e = 0)) := by
        show ((numP a).2 && ((numP w).2 && (decide (1 < (numP w).1) && decide (checkQ (numP a).1 (numP w).1 = 0)))) = _
        rw [p3, q2]; simp
      have ck : checkQ (if neg = true then -(v : Int) else v) e = checkQ v e := by cases neg <;> simp [ck_neg]
      rw [ho, hf, ck, p3, q2]
      by_cases e1 : 1 < (e : Int)
      · rw [decide_eq_true e1, Bool.true_and]
        by_cases c0 : checkQ (v : Int) e = 0
        · rw [decide_eq_true c0, if_neg (by
            rintro (⟨_, b⟩ | b | b)
            · omega
            · exact p2 b
            · exact b c0)]
          exact .inl ⟨rfl, rfl⟩
        · rw [decide_eq_false c0, if_pos (.inr (.inr c0))]
          exact .inr ⟨rfl, rfl⟩
      · rw [decide_eq_false e1, Bool.false_and]
        refine .inr ⟨rfl, ?_⟩
        rw [if_pos]
        by_cases e2 : e = 1
        · exact .inl ⟨rfl, e2⟩
        · refine .inr (.inr ?_)
          have : e = 0 := by omega
          subst this
          unfold checkQ
          rw [if_pos (.inl (by decide))]
          decide
    · refine .inr ⟨?_, ?_⟩
      · show ((numP a).2 && ((numP w).2 && (decide (1 < (numP w).1) && decide (checkQ (numP a).1 (numP w).1 = 0)))) = false
        rcases q2 with q2 | q2
        · rw [q2]; simp
        · rw [decide_eq_false (show ¬ 1 < (numP w).1 by omega)]; simp
      · show (match part u, part w with
          | some n, some d => if ((some 0 : Option Nat).isSome = true ∧ d = 1) ∨ (neg = true ∧ n = 0) ∨ checkQ n d ≠ 0 then none else some (if neg = true then -(n : Int) else n, (d : Int))
          | _, _ => none) = _
        rw [q1, p1]
  · refine .inr ⟨?_, ?_⟩
    · show ((numP a).2 && ((numP w).2 && (decide (1 < (numP w).1) && decide (checkQ (numP a).1 (numP w).1 = 0)))) = false
      rw [p1]; simp
    · show (match part u, part w with
        | some n, some d => if ((some 0 : Option Nat).isSome = true ∧ d = 1) ∨ (neg = true ∧ n = 0) ∨ checkQ n d ≠ 0 then none else some (if neg = true then -(n : Int) else n, (d : Int))
        | _, _ => none) = _
      rcases p2 with p2 | ⟨p2, p3⟩
      · rw [p2]
      · rw [p3]
        cases part w with
        | none => rfl
        | some d => simp [p2]
theorem comb0 {a u : List UInt8} {neg : Bool} (h : (neg = true ∧ a = 45 :: u) ∨ (neg = false ∧ a = u ∧ negS u = false)) :
    let o : Option (Int × Int) := match part u, part [49] with
      | some n, some d => if ((none : Option Nat).isSome = true ∧ d = 1) ∨ (neg = true ∧ n = 0) ∨ checkQ n d ≠ 0 then none else some (if neg = true then -(n : Int) else n, d)
      | _, _ => none
    ((numP a).2 = true ∧ o = some ((numP a).1, 1)) ∨ ((numP a).2 = false ∧ o = none) := by
  intro o
  have e1 : part [49] = some 1 := by decide
  have ho : o = match part u with
      | some n => if (neg = true ∧ n = 0) ∨ checkQ n 1 ≠ 0 then none else some (if neg = true then -(n : Int) else n, 1)
      | none => none := by
    show (match part u, part [49] with
      | some n, some d => if ((none : Option Nat).isSome = true ∧ d = 1) ∨ (neg = true ∧ n = 0) ∨ checkQ n d ≠ 0 then none else some (if neg = true then -(n : Int) else n, (d : Int))
      | _, _ => none) = _
    rw [e1]
    cases part u with
    | none => rfl
    | some n => simp
  rw [ho]
  rcases fst_num h with ⟨v, p1, p2, p3⟩ | ⟨p1, p2⟩
  · have bv := part_le p1
    have c0 : checkQ (v : Int) 1 = 0 := checkQ_ok (by omega) (by omega) (by simp)
    rw [p1, p3]
    refine .inl ⟨rfl, ?_⟩
    simp only
    rw [if_neg (by rintro (b | b); exact p2 b; exact b c0)]
  · refine .inr ⟨p1, ?_⟩
    rcases p2 with p2 | ⟨p2, p3⟩
    · rw [p2]
    · rw [p3]; simp [p2]
theorem rP_ok (l : List UInt8) : ((rP l).2.2 = true ∧ parseO l = some ((rP l).1, (rP l).2.1)) ∨ ((rP l).2.2 = false ∧ parseO l = none) := by
  cases hn : negS l with
  | true =>
    obtain ⟨r, rfl⟩ : ∃ r, l = 45 :: r := by
      unfold negS at hn
      have hn := of_decide_eq_true hn
      cases l with
      | nil => cases hn
      | cons b t => simp at hn; exact ⟨t, by rw [hn]⟩
    have hr : restS (45 :: r) = r := by unfold restS; simp
    unfold rP parseO fstS sndS
    rw [hn, hr, slash_cons]
    cases hs : slash r with
    | none => exact comb0 (a := 45 :: r) (u := r) (.inl ⟨rfl, rfl⟩)
    | some i => exact comb (a := 45 :: r.take i) (u := r.take i) (w := r.drop (i + 1)) (.inl ⟨rfl, rfl⟩)
  | false =>
    have hr := rest_of_not hn
    unfold rP parseO fstS sndS
    rw [hn, hr]
    cases hs : slash l with
    | none => exact comb0 (a := l) (u := l) (.inr ⟨rfl, rfl, hn⟩)
    | some i => exact comb (a := l.take i) (u := l.take i) (w := l.drop (i + 1)) (.inr ⟨rfl, rfl, neg_take hn i⟩)
end Go.Proofs
set_option linter.unusedSimpArgs false
set_option maxRecDepth 100000
namespace Go.Proofs
open Go.Hx Go.Lib
theorem itoa_ok (n : Int) (hn : I64 n) (H : AHeap) (K : ARes → AHeap → Prop) (hK : K (.ret (.lit (.string ⟨(itoa n).toArray⟩))) H) : ACall Tryd.prog G0 63 [.lit (.int .i64 n)] H K := itoa_spec n hn H K hK
theorem slash_lit {t : TypeId} {x y : Operand} {n : Int} (h : I64 n) : binA Tryd.prog .add t x y (.lit (.string ⟨(itoa n).toArray⟩)) (.lit (.string ⟨#[47]⟩)) = some (.lit (.string ⟨(itoa n ++ [47]).toArray⟩)) := by
  have := itoa_len h
  exact add_str (itoa n) [47] (by simp; omega)
theorem cat_lit {t : TypeId} {x y : Operand} {n d : Int} (h : I64 n) (h2 : I64 d) : binA Tryd.prog .add t x y (.lit (.string ⟨(itoa n ++ [47]).toArray⟩)) (.lit (.string ⟨(itoa d).toArray⟩)) = some (.lit (.string ⟨((itoa n ++ [47]) ++ itoa d).toArray⟩)) := by
  have := itoa_len h
  have := itoa_len h2
  exact add_str (itoa n ++ [47]) (itoa d) (by simp; omega)
theorem textL_one (n : Int) : textL n 1 = itoa n := by unfold textL tail2; rw [if_pos rfl, List.append_nil]
theorem textL_two (n d : Int) (h : d ≠ 1) : textL n d = itoa n ++ 47 :: itoa d := by unfold textL tail2; rw [if_neg h]
theorem rtext_spec (n d : Int) (hn : I64 n) (hd : I64 d) (H : AHeap) (K : ARes → AHeap → Prop) (hK : K (.ret (.lit (.string ⟨(textL n d).toArray⟩))) H) : ACall Tryd.prog G0 34 [qV n d] H K := by
  refine ACall.clo ⟨_, Tryd.func34, rfl, rfl⟩ fun hcl => ?_
  refine ACall.of_body (n := 17) (rs := [.tmp 2]) Tryd.func34 rfl rfl rfl (by decide) (by kernel_rfl) (by simp) ?_
  by_cases h1 : d = 1
  · subst h1
    rw [textL_one] at hK
    simp (config := { maxSteps := 1000000 }) only [go_sem, Int.reduceToNat, Int.reduceLE, Int.reduceLT, Int.reduceAdd, Int.reduceSub, Int.reduceMul, Int.reduceEq, Int.reduceNe, Nat.reduceEqDiff, Nat.reducePow, Nat.reduceDiv, Nat.reduceMod, Nat.reduceAdd, Nat.reduceMul, Nat.reduceSub, Nat.reduceLT, Nat.reduceLeDiff, reduceIte, reduceCtorEq, qV, appendA_U]
    refine AApply.clo (itoa_ok n hn _ _ ⟨trivial, ?_⟩)
    simp (config := { maxSteps := 1000000 }) only [go_sem, Int.reduceToNat, Int.reduceLE, Int.reduceLT, Int.reduceAdd, Int.reduceSub, Int.reduceMul, Int.reduceEq, Int.reduceNe, Nat.reduceEqDiff, Nat.reducePow, Nat.reduceDiv, Nat.reduceMod, Nat.reduceAdd, Nat.reduceMul, Nat.reduceSub, Nat.reduceLT, Nat.reduceLeDiff, reduceIte, reduceCtorEq, appendA_U]
    exact FinV.drop G0_ok hcl (.lit _) hK
  · rw [textL_two n d h1] at hK
    simp (config := { maxSteps := 1000000 }) only [go_sem, Int.reduceToNat, Int.reduceLE, Int.reduceLT, Int.reduceAdd, Int.reduceSub, Int.reduceMul, Int.reduceEq, Int.reduceNe, Nat.reduceEqDiff, Nat.reducePow, Nat.reduceDiv, Nat.reduceMod, Nat.reduceAdd, Nat.reduceMul, Nat.reduceSub, Nat.reduceLT, Nat.reduceLeDiff, reduceIte, reduceCtorEq, qV, h1, appendA_U]
    refine W.draw 7 [0, 1, 3, 7, 0, 16, 55] Tryd.mixed (by kernel_rfl) (by kernel_rfl) ?_
    simp (config := { maxSteps := 1000000 }) only [go_sem, Int.reduceToNat, Int.reduceLE, Int.reduceLT, Int.reduceAdd, Int.reduceSub, Int.reduceMul, Int.reduceEq, Int.reduceNe, Nat.reduceEqDiff, Nat.reducePow, Nat.reduceDiv, Nat.reduceMod, Nat.reduceAdd, Nat.reduceMul, Nat.reduceSub, Nat.reduceLT, Nat.reduceLeDiff, reduceIte, reduceCtorEq, qV, appendA_U]
    refine ⟨_, [], PCall.pure fun H2 => itoa_ok n hn H2 _ ⟨rfl, rfl⟩, ?_⟩
    simp (config := { maxSteps := 1000000 }) only [go_sem, Int.reduceToNat, Int.reduceLE, Int.reduceLT, Int.reduceAdd, Int.reduceSub, Int.reduceMul, Int.reduceEq, Int.reduceNe, Nat.reduceEqDiff, Nat.reducePow, Nat.reduceDiv, Nat.reduceMod, Nat.reduceAdd, Nat.reduceMul, Nat.reduceSub, Nat.reduceLT, Nat.reduceLeDiff, reduceIte, reduceCtorEq, slash_lit hn, appendA_U]
    refine ⟨_, [], PCall.pure fun H2 => itoa_ok d hd H2 _ ⟨rfl, rfl⟩, ?_⟩
    simp (config := { maxSteps := 1000000 }) only [go_sem, Int.reduceToNat, Int.reduceLE, Int.reduceLT, Int.reduceAdd, Int.reduceSub, Int.reduceMul, Int.reduceEq, Int.reduceNe, Nat.reduceEqDiff, Nat.reducePow, Nat.reduceDiv, Nat.reduceMod, Nat.reduceAdd, Nat.reduceMul, Nat.reduceSub, Nat.reduceLT, Nat.reduceLeDiff, reduceIte, reduceCtorEq, cat_lit hn hd, appendA_U]
    exact FinV.drop G0_ok hcl (.lit _) hK
theorem ftext_spec (n d : Int) (hn : I64 n) (hd : I64 d) (H : AHeap) (K : ARes → AHeap → Prop) (hK : K (.ret (.tup [.lit (.string ⟨(if checkQ n d = 0 then textL n d else []).toArray⟩), .lit (.int .i64 (checkQ n d))])) H) : ACall Tryd.prog G0 33 [qV n d] H K := by
  refine ACall.clo ⟨_, Tryd.func33, rfl, rfl⟩ fun hcl => ?_
  refine ACall.of_body (n := 21) (rs := [.tmp 2, .tmp 3]) Tryd.func33 rfl rfl rfl (by decide) (by kernel_rfl) (by simp) ?_
  simp (config := { maxSteps := 1000000 }) only [go_sem, Int.reduceToNat, Int.reduceLE, Int.reduceLT, Int.reduceAdd, Int.reduceSub, Int.reduceMul, Int.reduceEq, Int.reduceNe, Nat.reduceEqDiff, Nat.reducePow, Nat.reduceDiv, Nat.reduceMod, Nat.reduceAdd, Nat.reduceMul, Nat.reduceSub, Nat.reduceLT, Nat.reduceLeDiff, reduceIte, reduceCtorEq, qV, appendA_U]
  refine AApply.clo (fcheck_spec n d hn hd _ _ ⟨trivial, ?_⟩)
  rcases checkQ_cases n d with hc | hc
  · rw [hc] at hK ⊢
    rw [if_pos rfl] at hK
    by_cases h1 : d = 1
    · subst h1
      rw [textL_one] at hK
      simp (config := { maxSteps := 1000000 }) only [go_sem, Int.reduceToNat, Int.reduceLE, Int.reduceLT, Int.reduceAdd, Int.reduceSub, Int.reduceMul, Int.reduceEq, Int.reduceNe, Nat.reduceEqDiff, Nat.reducePow, Nat.reduceDiv, Nat.reduceMod, Nat.reduceAdd, Nat.reduceMul, Nat.reduceSub, Nat.reduceLT, Nat.reduceLeDiff, reduceIte, reduceCtorEq, qV, appendA_U]
      refine AApply.clo (itoa_ok n hn _ _ ⟨trivial, ?_⟩)
      simp (config := { maxSteps := 1000000 }) only [go_sem, Int.reduceToNat, Int.reduceLE, Int.reduceLT, Int.reduceAdd, Int.reduceSub, Int.reduceMul, Int.reduceEq, Int.reduceNe, Nat.reduceEqDiff, Nat.reducePow, Nat.reduceDiv, Nat.reduceMod, Nat.reduceAdd, Nat.reduceMul, Nat.reduceSub, Nat.reduceLT, Nat.reduceLeDiff, reduceIte, reduceCtorEq, appendA_U]
      exact FinV.drop G0_ok hcl fz_s1 hK
    · rw [textL_two n d h1] at hK
      simp (config := { maxSteps := 1000000 }) only [go_sem, Int.reduceToNat, Int.reduceLE, Int.reduceLT, Int.reduceAdd, Int.reduceSub, Int.reduceMul, Int.reduceEq, Int.reduceNe, Nat.reduceEqDiff, Nat.reducePow, Nat.reduceDiv, Nat.reduceMod, Nat.reduceAdd, Nat.reduceMul, Nat.reduceSub, Nat.reduceLT, Nat.reduceLeDiff, reduceIte, reduceCtorEq, qV, h1, appendA_U]
      refine W.draw 7 [0, 1, 3, 7, 0, 16, 55] Tryd.mixed (by kernel_rfl) (by kernel_rfl) ?_
      simp (config := { maxSteps := 1000000 }) only [go_sem, Int.reduceToNat, Int.reduceLE, Int.reduceLT, Int.reduceAdd, Int.reduceSub, Int.reduceMul, Int.reduceEq, Int.reduceNe, Nat.reduceEqDiff, Nat.reducePow, Nat.reduceDiv, Nat.reduceMod, Nat.reduceAdd, Nat.reduceMul, Nat.reduceSub, Nat.reduceLT, Nat.reduceLeDiff, reduceIte, reduceCtorEq, qV, appendA_U]
      refine ⟨_, [], PCall.pure fun H2 => itoa_ok n hn H2 _ ⟨rfl, rfl⟩, ?_⟩
      simp (config := { maxSteps := 1000000 }) only [go_sem, Int.reduceToNat, Int.reduceLE, Int.reduceLT, Int.reduceAdd, Int.reduceSub, Int.reduceMul, Int.reduceEq, Int.reduceNe, Nat.reduceEqDiff, Nat.reducePow, Nat.reduceDiv, Nat.reduceMod, Nat.reduceAdd, Nat.reduceMul, Nat.reduceSub, Nat.reduceLT, Nat.reduceLeDiff, reduceIte, reduceCtorEq, slash_lit hn, appendA_U]
      refine ⟨_, [], PCall.pure fun H2 => itoa_ok d hd H2 _ ⟨rfl, rfl⟩, ?_⟩
      simp (config := { maxSteps := 1000000 }) only [go_sem, Int.reduceToNat, Int.reduceLE, Int.reduceLT, Int.reduceAdd, Int.reduceSub, Int.reduceMul, Int.reduceEq, Int.reduceNe, Nat.reduceEqDiff, Nat.reducePow, Nat.reduceDiv, Nat.reduceMod, Nat.reduceAdd, Nat.reduceMul, Nat.reduceSub, Nat.reduceLT, Nat.reduceLeDiff, reduceIte, reduceCtorEq, cat_lit hn hd, appendA_U]
      exact FinV.drop G0_ok hcl fz_s1 hK
  · rw [hc] at hK ⊢
    rw [if_neg (by decide)] at hK
    simp (config := { maxSteps := 1000000 }) only [go_sem, Int.reduceToNat, Int.reduceLE, Int.reduceLT, Int.reduceAdd, Int.reduceSub, Int.reduceMul, Int.reduceEq, Int.reduceNe, Nat.reduceEqDiff, Nat.reducePow, Nat.reduceDiv, Nat.reduceMod, Nat.reduceAdd, Nat.reduceMul, Nat.reduceSub, Nat.reduceLT, Nat.reduceLeDiff, reduceIte, reduceCtorEq, qV, appendA_U]
    exact FinV.drop G0_ok hcl fz_s1 hK
end Go.Proofs
set_option linter.unusedSimpArgs false
set_option maxRecDepth 100000
namespace Go.Proofs
open Go.Hx Go.Lib
theorem textL_len {n d : Int} (hn : I64 n) (hd : I64 d) : (textL n d).length ≤ 43 := by
  have := itoa_len hn
  have := itoa_len hd
  unfold textL tail2
  split <;> simp <;> omega
end Go.Proofs
set_option linter.unusedSimpArgs false
set_option maxRecDepth 100000
namespace Go.Proofs
open Go.Hx Go.Lib
theorem parse_pair (s : List UInt8) : (∃ x y, parseV s = .tup [.agg [.lit (.int .i64 x), .lit (.int .i64 y)], .lit (.int .i64 0)] ∧ rP s = (x, y, true)) ∨ (parseV s = .tup [.agg [.lit (.int .i64 0), .lit (.int .i64 0)], .lit (.int .i64 5)] ∧ ∃ x y, rP s = (x, y, false)) := by
  unfold parseV
  rcases rP_ok s with ⟨h1, h2⟩ | ⟨h1, h2⟩
  · rw [h2]
    exact .inl ⟨(rP s).1, (rP s).2.1, rfl, by rw [← h1]⟩
  · rw [h2]
    exact .inr ⟨rfl, (rP s).1, (rP s).2.1, by rw [← h1]⟩
theorem two_q (a b x y : Int) (ha : I64 a) (hb : I64 b) (hx : I64 x) (hy : I64 y) (k : Nat) (hk : k < 2) : ∃ p q, I64 p ∧ I64 q ∧ ((ints [a, b, x, y]).drop (k * 2)).take 2 = [.lit (.int .i64 p), .lit (.int .i64 q)] := by
  match k, hk with
  | 0, _ => exact ⟨a, b, ha, hb, rfl⟩
  | 1, _ => exact ⟨x, y, hx, hy, rfl⟩
def strs (l : List (List UInt8)) : List AVal := l.map fun s => .lit (.string ⟨s.toArray⟩)
theorem strs_get {l : List (List UInt8)} {k : Nat} (h : k < l.length) : (strs l)[k]? = some (.lit (.string ⟨(l[k]).toArray⟩)) := by
  unfold strs
  rw [List.getElem?_map, List.getElem?_eq_getElem h]
  rfl
theorem neqQ23 {o1 o2 : Operand} (a b c d : Int) : binA Tryd.prog .neq 23 o1 o2 (.agg [.lit (.int .i64 a), .lit (.int .i64 b)]) (.agg [.lit (.int .i64 c), .lit (.int .i64 d)]) = some (.lit (.bool (!(a == c && b == d)))) := neqQ a b c d
theorem arg_str {H : Type} {enc : TypeId × Value → H} {P : Program} {W : World} {spare : Nat → Bool} {held : Bool} {r : Reach} {b : Nat} {t : TypeId} {v : Value} {d : DataW H} {ps : List MemPlace} (ht : P.underlying t = some .string) (hval : Value.okWide P W r b t v) (hd : DataW.Trod enc P W 0 spare held t v d ps) :
    ∃ l : List UInt8, RelV P noG noH W (.lit (.string ⟨l.toArray⟩)) v ∧ True := by
  obtain ⟨a, h1, h2⟩ := arg_one (ψ := fun a => ∃ l : List UInt8, a = .lit (.string ⟨l.toArray⟩)) (opens_string ht) (fun d bs ⟨s, _, h2, _⟩ => ⟨_, h2, s.data.toList, by simp⟩) (noAgg_string ht) hval hd
  obtain ⟨l, rfl⟩ := h2
  exact ⟨l, h1, trivial⟩
set_option maxHeartbeats 4000000 in
theorem texts_spec (a b : Int) (l : List UInt8) (n0 n1 n2 n3 : Int) (ha : I64 a) (hb : I64 b) (h0 : I64 n0) (h1 : I64 n1) (h2 : I64 n2) (h3 : I64 n3) (H : AHeap) (K : ARes → AHeap → Prop)
    (hK : K (.ret (.lit (.bool true))) H) : ACall Tryd.prog G0 7 [qV a b, .lit (.string ⟨l.toArray⟩), .agg (ints [n0, n1, n2, n3])] H K := by
  refine ACall.clo ⟨_, Tryd.func7, rfl, rfl⟩ fun hcl => ?_
  refine ACall.of_body (n := 128) (rs := [.tmp 6]) Tryd.func7 rfl rfl rfl (by decide) (by kernel_rfl) (by simp) ?_
  simp (config := { maxSteps := 1000000 }) only [go_sem, Int.reduceToNat, Int.reduceLE, Int.reduceLT, Int.reduceAdd, Int.reduceSub, Int.reduceMul, Int.reduceEq, Int.reduceNe, Nat.reduceEqDiff, Nat.reducePow, Nat.reduceDiv, Nat.reduceMod, Nat.reduceAdd, Nat.reduceMul, Nat.reduceSub, Nat.reduceLT, Nat.reduceLeDiff, reduceIte, reduceCtorEq, qV, ints, lin, appendA_U]
  refine AApply.clo (works_ok _ _ ⟨trivial, ?_⟩)
  simp (config := { maxSteps := 1000000 }) only [go_sem, Int.reduceToNat, Int.reduceLE, Int.reduceLT, Int.reduceAdd, Int.reduceSub, Int.reduceMul, Int.reduceEq, Int.reduceNe, Nat.reduceEqDiff, Nat.reducePow, Nat.reduceDiv, Nat.reduceMod, Nat.reduceAdd, Nat.reduceMul, Nat.reduceSub, Nat.reduceLT, Nat.reduceLeDiff, reduceIte, reduceCtorEq, List.size_toArray, appendA_U]
  obtain ⟨m, hm⟩ : ∃ m : Int, m = if 60 < (l.length : Int) then 60 else (l.length : Int) := ⟨_, rfl⟩
  rw [← hm]
  have m1 : 0 ≤ m := by rw [hm]; split <;> omega
  have m2 : m ≤ (l.length : Int) := by rw [hm]; split <;> omega
  have m3 : m ≤ 60 := by rw [hm]; split <;> omega
  refine ⟨⟨m1, m2⟩, ?_⟩
  rw [str_ext, List.drop_zero]
  obtain ⟨t, ht⟩ : ∃ t, t = l.take m.toNat := ⟨_, rfl⟩
  have tl : t.length ≤ 60 := by rw [ht, List.length_take]; omega
  rw [← ht]
  clear ht hm
  have z1 : I64 (if n1 = 0 then 1 else n1) := by unfold I64 at *; split <;> omega
  have z1' : (if n1 = 0 then 1 else n1) ≠ 0 := by split <;> omega
  have q1 := nonzero_spec n1
  generalize (if n1 = 0 then 1 else n1) = m1 at *
  obtain ⟨x, y, f, e1, rx, ry⟩ := madeR_form2 (sgnB n0 m1) n0.natAbs m1.natAbs
  refine W.env fun E hE => ?_
  have a1 : E 1 = .lit (.string ⟨t.toArray⟩) := by rw [hE]; rfl
  have a3 : E 3 = .ptr H.next 0 0 := by rw [hE]; rfl
  have a5 : E 5 = .ptr (H.next + 1) 0 0 := by rw [hE]; rfl
  clear hE
  refine W.draw 11 [0, 1, 0, 4, 12, 31, 63, 127, 127, 0, 767] Tryd.mixed (by kernel_rfl) (by kernel_rfl) ?_
  simp (config := { maxSteps := 1000000 }) only [go_sem, Int.reduceToNat, Int.reduceLE, Int.reduceLT, Int.reduceAdd, Int.reduceSub, Int.reduceMul, Int.reduceEq, Int.reduceNe, Nat.reduceEqDiff, Nat.reducePow, Nat.reduceDiv, Nat.reduceMod, Nat.reduceAdd, Nat.reduceMul, Nat.reduceSub, Nat.reduceLT, Nat.reduceLeDiff, reduceIte, reduceCtorEq, a1, a3, a5, appendA_U]
  refine ⟨_, [], PCall.pure fun H2 => q1 H2 _ ⟨rfl, rfl⟩, ?_⟩
  simp (config := { maxSteps := 1000000 }) only [go_sem, Int.reduceToNat, Int.reduceLE, Int.reduceLT, Int.reduceAdd, Int.reduceSub, Int.reduceMul, Int.reduceEq, Int.reduceNe, Nat.reduceEqDiff, Nat.reducePow, Nat.reduceDiv, Nat.reduceMod, Nat.reduceAdd, Nat.reduceMul, Nat.reduceSub, Nat.reduceLT, Nat.reduceLeDiff, reduceIte, reduceCtorEq, a1, a3, a5, appendA_U]
  refine ⟨_, [], PCall.pure fun H2 => rMake_spec n0 m1 h0 z1 z1' H2 _ ⟨rfl, rfl⟩, ?_⟩
  rw [e1]
  simp (config := { maxSteps := 1000000 }) only [go_sem, Int.reduceToNat, Int.reduceLE, Int.reduceLT, Int.reduceAdd, Int.reduceSub, Int.reduceMul, Int.reduceEq, Int.reduceNe, Nat.reduceEqDiff, Nat.reducePow, Nat.reduceDiv, Nat.reduceMod, Nat.reduceAdd, Nat.reduceMul, Nat.reduceSub, Nat.reduceLT, Nat.reduceLeDiff, reduceIte, reduceCtorEq, a1, a3, a5, qV, appendA_U]
  refine ⟨by repeat' (first | refine And.intro ?_ ?_ | (intro x hx; omega)), ?_⟩
  simp (config := { maxSteps := 1000000 }) only [go_sem, Int.reduceToNat, Int.reduceLE, Int.reduceLT, Int.reduceAdd, Int.reduceSub, Int.reduceMul, Int.reduceEq, Int.reduceNe, Nat.reduceEqDiff, Nat.reducePow, Nat.reduceDiv, Nat.reduceMod, Nat.reduceAdd, Nat.reduceMul, Nat.reduceSub, Nat.reduceLT, Nat.reduceLeDiff, reduceIte, reduceCtorEq, a1, a3, a5, qV, ext_ext, List.cons_append, List.nil_append, appendA_U]
  have hp := two_q a b x y ha hb rx ry
  obtain ⟨S, hS⟩ : ∃ S, S = ints [a, b, x, y] := ⟨_, rfl⟩
  have Sl : S.length = 4 := by rw [hS]; rfl
  rw [← hS] at hp
  have hS' : [AVal.lit (.int .i64 a), .lit (.int .i64 b), .lit (.int .i64 x), .lit (.int .i64 y)] = S := hS.symm
  rw [hS']
  clear hS hS'
  obtain ⟨H1, hH1⟩ : ∃ H1, H1 = ext H [.arr 0 23 [.lit (.int .i64 a), .lit (.int .i64 b)], .arr 0 35 [.lit (.int .i64 n0), .lit (.int .i64 n1), .lit (.int .i64 n2), .lit (.int .i64 n3)], .arr 0 23 [.lit (.int .i64 x), .lit (.int .i64 y)]] := ⟨_, rfl⟩
  have ov1 : Over H H1 := by rw [hH1]; exact .ext _ _
  have nx1 : H1.next = H.next + 3 := by rw [hH1]; rfl
  have g5 : H1.get (H.next + 1) = some (.arr 0 35 [.lit (.int .i64 n0), .lit (.int .i64 n1), .lit (.int .i64 n2), .lit (.int .i64 n3)]) := by rw [hH1]; exact get_ext H _ 1 (by simp)
  have g7 : H1.get (H.next + 2) = some (.arr 0 23 [.lit (.int .i64 x), .lit (.int .i64 y)]) := by rw [hH1]; exact get_ext H _ 2 (by simp)
  rw [← hH1]
  refine W.env fun E2 hE => ?_
  have b1 : E2 1 = .lit (.string ⟨t.toArray⟩) := by rw [hE]; exact a1
  have b5 : E2 5 = .ptr (H.next + 1) 0 0 := by rw [hE]; exact a5
  have b7 : E2 7 = .ptr (H.next + 2) 0 0 := by rw [hE]; rfl
  have b40 : E2 40 = .agg S := by rw [hE]; rfl
  have b41 : E2 41 = lin 0 := by rw [hE]; rfl
  clear hE hH1 a1 a3 a5
  refine W.loop0 37778931860758138469440 (by rfl) (fun ρ H' => ∃ k : Nat, ρ 41 = lin k ∧ k ≤ 2 ∧ Over H1 H') (fun ρ H => 2 - (iv (ρ 41)).toNat) ?_ ?_
  · simp (config := { maxSteps := 1000000 }) only [go_sem, Int.reduceToNat, Int.reduceLE, Int.reduceLT, Int.reduceAdd, Int.reduceSub, Int.reduceMul, Int.reduceEq, Int.reduceNe, Nat.reduceEqDiff, Nat.reducePow, Nat.reduceDiv, Nat.reduceMod, Nat.reduceAdd, Nat.reduceMul, Nat.reduceSub, Nat.reduceLT, Nat.reduceLeDiff, reduceIte, reduceCtorEq, b41, appendA_U]
    exact ⟨0, rfl, by omega, .refl _⟩
  rintro ρ H' ⟨k, h41, hk, ov⟩
  refine vc_sound _ _ _ (by rfl) ?_
  by_cases hk2 : k = 2
  rotate_left
  · have z1 : (k : Int) < 2 := by omega
    obtain ⟨p, q, ip, iq, hpair⟩ := hp k (by omega)
    have w1 := IntWalk.i64_in ((k : Int) + 1) (by omega)
    have ov2 : Over H1 (ext H' [.arr 0 23 [.lit (.int .i64 p), .lit (.int .i64 q)]]) := ov.trans (.ext _ _)
    simp (config := { maxSteps := 1000000 }) only [go_sem, Int.reduceToNat, Int.reduceLE, Int.reduceLT, Int.reduceAdd, Int.reduceSub, Int.reduceMul, Int.reduceEq, Int.reduceNe, Nat.reduceEqDiff, Nat.reducePow, Nat.reduceDiv, Nat.reduceMod, Nat.reduceAdd, Nat.reduceMul, Nat.reduceSub, Nat.reduceLT, Nat.reduceLeDiff, reduceIte, reduceCtorEq, h41, z1, b40, Sl, hpair, appendA_U]
    refine ⟨by omega, ?_⟩
    refine AApply.clo (ftext_spec p q ip iq _ _ ⟨trivial, ?_⟩)
    rcases checkQ_cases p q with c0 | c0
    · rw [c0, if_pos rfl]
      simp (config := { maxSteps := 1000000 }) only [go_sem, Int.reduceToNat, Int.reduceLE, Int.reduceLT, Int.reduceAdd, Int.reduceSub, Int.reduceMul, Int.reduceEq, Int.reduceNe, Nat.reduceEqDiff, Nat.reducePow, Nat.reduceDiv, Nat.reduceMod, Nat.reduceAdd, Nat.reduceMul, Nat.reduceSub, Nat.reduceLT, Nat.reduceLeDiff, reduceIte, reduceCtorEq, h41, appendA_U]
      have rs := Right_spec p q ip iq
      rw [c0] at rs
      refine AApply.clo (rs _ _ ⟨trivial, ?_⟩)
      simp (config := { maxSteps := 1000000 }) only [go_sem, Int.reduceToNat, Int.reduceLE, Int.reduceLT, Int.reduceAdd, Int.reduceSub, Int.reduceMul, Int.reduceEq, Int.reduceNe, Nat.reduceEqDiff, Nat.reducePow, Nat.reduceDiv, Nat.reduceMod, Nat.reduceAdd, Nat.reduceMul, Nat.reduceSub, Nat.reduceLT, Nat.reduceLeDiff, reduceIte, reduceCtorEq, h41, guardA_undef, appendA_U]
      refine AApply.clo (rtext_spec p q ip iq _ _ ⟨trivial, ?_⟩)
      simp (config := { maxSteps := 1000000 }) only [go_sem, Int.reduceToNat, Int.reduceLE, Int.reduceLT, Int.reduceAdd, Int.reduceSub, Int.reduceMul, Int.reduceEq, Int.reduceNe, Nat.reduceEqDiff, Nat.reducePow, Nat.reduceDiv, Nat.reduceMod, Nat.reduceAdd, Nat.reduceMul, Nat.reduceSub, Nat.reduceLT, Nat.reduceLeDiff, reduceIte, reduceCtorEq, h41, guardA_undef, neq_str, w1, appendA_U]
      exact ⟨ov2.next, ⟨k + 1, by simp, by omega, ov2⟩, by omega⟩
    · rw [c0, if_neg (by decide)]
      simp (config := { maxSteps := 1000000 }) only [go_sem, Int.reduceToNat, Int.reduceLE, Int.reduceLT, Int.reduceAdd, Int.reduceSub, Int.reduceMul, Int.reduceEq, Int.reduceNe, Nat.reduceEqDiff, Nat.reducePow, Nat.reduceDiv, Nat.reduceMod, Nat.reduceAdd, Nat.reduceMul, Nat.reduceSub, Nat.reduceLT, Nat.reduceLeDiff, reduceIte, reduceCtorEq, h41, appendA_U]
      have rs := Right_spec p q ip iq
      rw [c0] at rs
      refine AApply.clo (rs _ _ ⟨trivial, ?_⟩)
      simp (config := { maxSteps := 1000000 }) only [go_sem, Int.reduceToNat, Int.reduceLE, Int.reduceLT, Int.reduceAdd, Int.reduceSub, Int.reduceMul, Int.reduceEq, Int.reduceNe, Nat.reduceEqDiff, Nat.reducePow, Nat.reduceDiv, Nat.reduceMod, Nat.reduceAdd, Nat.reduceMul, Nat.reduceSub, Nat.reduceLT, Nat.reduceLeDiff, reduceIte, reduceCtorEq, h41, guardA_undef, neq_str, w1, appendA_U]
      exact ⟨ov2.next, ⟨k + 1, by simp, by omega, ov2⟩, by omega⟩
  subst hk2
  have z1 : ¬ ((2 : Nat) : Int) < 2 := by omega
  have l5 : H'.live (H.next + 1) 0 = some (35, [.lit (.int .i64 n0), .lit (.int .i64 n1), .lit (.int .i64 n2), .lit (.int .i64 n3)]) := by unfold AHeap.live; rw [ov.old _ (by omega), g5]; rfl
  have l7 : H'.live (H.next + 2) 0 = some (23, [.lit (.int .i64 x), .lit (.int .i64 y)]) := by unfold AHeap.live; rw [ov.old _ (by omega), g7]; rfl
  simp (config := { maxSteps := 1000000 }) only [go_sem, Int.reduceToNat, Int.reduceLE, Int.reduceLT, Int.reduceAdd, Int.reduceSub, Int.reduceMul, Int.reduceEq, Int.reduceNe, Nat.reduceEqDiff, Nat.reducePow, Nat.reduceDiv, Nat.reduceMod, Nat.reduceAdd, Nat.reduceMul, Nat.reduceSub, Nat.reduceLT, Nat.reduceLeDiff, reduceIte, reduceCtorEq, h41, appendA_U]
  refine W.draw 7 [0, 1, 3, 7, 0, 16, 48] Tryd.mixed (by kernel_rfl) (by kernel_rfl) ?_
  simp (config := { maxSteps := 1000000 }) only [go_sem, Int.reduceToNat, Int.reduceLE, Int.reduceLT, Int.reduceAdd, Int.reduceSub, Int.reduceMul, Int.reduceEq, Int.reduceNe, Nat.reduceEqDiff, Nat.reducePow, Nat.reduceDiv, Nat.reduceMod, Nat.reduceAdd, Nat.reduceMul, Nat.reduceSub, Nat.reduceLT, Nat.reduceLeDiff, reduceIte, reduceCtorEq, b1, b5, b7, l5, l7, appendA_U]
  have t2 := rtext_spec n2 1 h2 (by unfold I64; omega)
  have t3 := rtext_spec n3 1 h3 (by unfold I64; omega)
  have tx := rtext_spec x y rx ry
  rw [textL_one] at t2 t3
  have cells1 : ∀ n : Int, setAt ((AVal.lit (.int .i64 n)).cells ++ List.drop (AVal.lit (.int .i64 n)).cells.length [AVal.lit (.int .i64 0), .lit (.int .i64 0)]) 1 [.lit (.int .i64 1)] = [.lit (.int .i64 n), .lit (.int .i64 1)] := fun n => rfl
  refine ⟨_, [], PCall.pure fun H2 => t2 H2 _ ⟨rfl, rfl⟩, ?_⟩
  simp (config := { maxSteps := 1000000 }) only [go_sem, Int.reduceToNat, Int.reduceLE, Int.reduceLT, Int.reduceAdd, Int.reduceSub, Int.reduceMul, Int.reduceEq, Int.reduceNe, Nat.reduceEqDiff, Nat.reducePow, Nat.reduceDiv, Nat.reduceMod, Nat.reduceAdd, Nat.reduceMul, Nat.reduceSub, Nat.reduceLT, Nat.reduceLeDiff, reduceIte, reduceCtorEq, b1, b5, b7, l5, l7, appendA_U]
  refine AApply.clo (t3 _ _ ⟨trivial, ?_⟩)
  simp (config := { maxSteps := 1000000 }) only [go_sem, Int.reduceToNat, Int.reduceLE, Int.reduceLT, Int.reduceAdd, Int.reduceSub, Int.reduceMul, Int.reduceEq, Int.reduceNe, Nat.reduceEqDiff, Nat.reducePow, Nat.reduceDiv, Nat.reduceMod, Nat.reduceAdd, Nat.reduceMul, Nat.reduceSub, Nat.reduceLT, Nat.reduceLeDiff, reduceIte, reduceCtorEq, b1, b5, b7, l5, l7, slash_lit h2, cat_lit h2 h3, appendA_U]
  refine AApply.clo (tx _ _ ⟨trivial, ?_⟩)
  simp (config := { maxSteps := 1000000 }) only [go_sem, Int.reduceToNat, Int.reduceLE, Int.reduceLT, Int.reduceAdd, Int.reduceSub, Int.reduceMul, Int.reduceEq, Int.reduceNe, Nat.reduceEqDiff, Nat.reducePow, Nat.reduceDiv, Nat.reduceMod, Nat.reduceAdd, Nat.reduceMul, Nat.reduceSub, Nat.reduceLT, Nat.reduceLeDiff, reduceIte, reduceCtorEq, b1, b5, b7, l5, l7, slash_lit h2, appendA_U]
  obtain ⟨SL, hSL⟩ : ∃ SL, SL = [t, itoa n2, itoa n2 ++ 47 :: itoa n3, textL x y, itoa n2 ++ [47]] := ⟨_, rfl⟩
  have ll : SL.length = 5 := by rw [hSL]; rfl
  have lmax : ∀ s, s ∈ SL → s.length ≤ 100 := by
    have i2 := itoa_len h2
    have i3 := itoa_len h3
    have i4 := textL_len rx ry
    rw [hSL]
    intro s hs
    simp only [List.mem_cons, List.not_mem_nil, or_false] at hs
    rcases hs with rfl | rfl | rfl | rfl | rfl
    · omega
    · omega
    · simp; omega
    · omega
    · simp; omega
  have hS2 : [AVal.lit (.string ⟨t.toArray⟩), .lit (.string ⟨(itoa n2).toArray⟩), .lit (.string ⟨(itoa n2 ++ 47 :: itoa n3).toArray⟩), .lit (.string ⟨(textL x y).toArray⟩), .lit (.string ⟨(itoa n2 ++ [47]).toArray⟩)] = strs SL := by rw [hSL]; rfl
  refine W.env fun E4 hE => ?_
  have c93 : E4 93 = .agg (strs SL) := by rw [hE]; exact congrArg AVal.agg hS2
  have c94 : E4 94 = lin 0 := by rw [hE]; rfl
  clear hE hS2 hSL
  refine W.loop0 340282366901131422834808523033386287168 (by rfl) (fun ρ H2 => ∃ k : Nat, ρ 94 = lin k ∧ k ≤ 5 ∧ Over H' H2) (fun ρ H => 5 - (iv (ρ 94)).toNat) ?_ ?_
  · simp (config := { maxSteps := 1000000 }) only [go_sem, Int.reduceToNat, Int.reduceLE, Int.reduceLT, Int.reduceAdd, Int.reduceSub, Int.reduceMul, Int.reduceEq, Int.reduceNe, Nat.reduceEqDiff, Nat.reducePow, Nat.reduceDiv, Nat.reduceMod, Nat.reduceAdd, Nat.reduceMul, Nat.reduceSub, Nat.reduceLT, Nat.reduceLeDiff, reduceIte, reduceCtorEq, c94, appendA_U]
    exact ⟨0, rfl, by omega, .refl _⟩
  rintro ρ2 H2 ⟨k, h94, hk, ovk⟩
  refine vc_sound _ _ _ (by rfl) ?_
  by_cases hk5 : k = 5
  · have z1 : ¬ (k : Int) < 5 := by omega
    simp (config := { maxSteps := 1000000 }) only [go_sem, Int.reduceToNat, Int.reduceLE, Int.reduceLT, Int.reduceAdd, Int.reduceSub, Int.reduceMul, Int.reduceEq, Int.reduceNe, Nat.reduceEqDiff, Nat.reducePow, Nat.reduceDiv, Nat.reduceMod, Nat.reduceAdd, Nat.reduceMul, Nat.reduceSub, Nat.reduceLT, Nat.reduceLeDiff, reduceIte, reduceCtorEq, h94, z1, appendA_U]
    exact FinV.dropO G0_ok hcl (ov1.trans (ov.trans ovk)) (.lit _) hK
  have z1 : (k : Int) < 5 := by omega
  have w1 := IntWalk.i64_in ((k : Int) + 1) (by omega)
  have sg := strs_get (l := SL) (k := k) (by omega)
  have sm := lmax _ (List.getElem_mem (show k < SL.length by omega))
  generalize SL[k] = s at *
  have fp := fparse_spec s (by omega)
  have rp := rparse_spec s (by omega)
  simp (config := { maxSteps := 1000000 }) only [go_sem, Int.reduceToNat, Int.reduceLE, Int.reduceLT, Int.reduceAdd, Int.reduceSub, Int.reduceMul, Int.reduceEq, Int.reduceNe, Nat.reduceEqDiff, Nat.reducePow, Nat.reduceDiv, Nat.reduceMod, Nat.reduceAdd, Nat.reduceMul, Nat.reduceSub, Nat.reduceLT, Nat.reduceLeDiff, reduceIte, reduceCtorEq, h94, z1, c93, sg, appendA_U]
  have ov3 : ∀ L, Over H' (ext H2 L) := fun L => ovk.trans (.ext _ _)
  rcases parse_pair s with ⟨u, v, e1, e2⟩ | ⟨e1, u, v, e2⟩
  · rw [e1] at fp
    rw [e2] at rp
    have e3 : (u == u && v == v) = true := by simp
    refine AApply.clo (fp _ _ ⟨trivial, ?_⟩)
    simp (config := { maxSteps := 1000000 }) only [go_sem, Int.reduceToNat, Int.reduceLE, Int.reduceLT, Int.reduceAdd, Int.reduceSub, Int.reduceMul, Int.reduceEq, Int.reduceNe, Nat.reduceEqDiff, Nat.reducePow, Nat.reduceDiv, Nat.reduceMod, Nat.reduceAdd, Nat.reduceMul, Nat.reduceSub, Nat.reduceLT, Nat.reduceLeDiff, reduceIte, reduceCtorEq, h94, guardA_undef, appendA_U]
    refine AApply.clo (rp _ _ ⟨trivial, ?_⟩)
    simp (config := { maxSteps := 1000000 }) only [go_sem, Int.reduceToNat, Int.reduceLE, Int.reduceLT, Int.reduceAdd, Int.reduceSub, Int.reduceMul, Int.reduceEq, Int.reduceNe, Nat.reduceEqDiff, Nat.reducePow, Nat.reduceDiv, Nat.reduceMod, Nat.reduceAdd, Nat.reduceMul, Nat.reduceSub, Nat.reduceLT, Nat.reduceLeDiff, reduceIte, reduceCtorEq, h94, guardA_undef, qV, neqQ23, e3, w1, appendA_U]
    exact ⟨Nat.le_trans ovk.next (by omega), ⟨k + 1, by simp, by omega, ov3 _⟩, by omega⟩
  · rw [e1] at fp
    rw [e2] at rp
    refine AApply.clo (fp _ _ ⟨trivial, ?_⟩)
    simp (config := { maxSteps := 1000000 }) only [go_sem, Int.reduceToNat, Int.reduceLE, Int.reduceLT, Int.reduceAdd, Int.reduceSub, Int.reduceMul, Int.reduceEq, Int.reduceNe, Nat.reduceEqDiff, Nat.reducePow, Nat.reduceDiv, Nat.reduceMod, Nat.reduceAdd, Nat.reduceMul, Nat.reduceSub, Nat.reduceLT, Nat.reduceLeDiff, reduceIte, reduceCtorEq, h94, guardA_undef, appendA_U]
    refine AApply.clo (rp _ _ ⟨trivial, ?_⟩)
    simp (config := { maxSteps := 1000000 }) only [go_sem, Int.reduceToNat, Int.reduceLE, Int.reduceLT, Int.reduceAdd, Int.reduceSub, Int.reduceMul, Int.reduceEq, Int.reduceNe, Nat.reduceEqDiff, Nat.reducePow, Nat.reduceDiv, Nat.reduceMod, Nat.reduceAdd, Nat.reduceMul, Nat.reduceSub, Nat.reduceLT, Nat.reduceLeDiff, reduceIte, reduceCtorEq, h94, guardA_undef, qV, appendA_U]
    refine AApply.clo (failed_spec 0 0 5 5 _ _ ⟨trivial, ?_⟩)
    simp (config := { maxSteps := 1000000 }) only [go_sem, Int.reduceToNat, Int.reduceLE, Int.reduceLT, Int.reduceAdd, Int.reduceSub, Int.reduceMul, Int.reduceEq, Int.reduceNe, Nat.reduceEqDiff, Nat.reducePow, Nat.reduceDiv, Nat.reduceMod, Nat.reduceAdd, Nat.reduceMul, Nat.reduceSub, Nat.reduceLT, Nat.reduceLeDiff, reduceIte, reduceCtorEq, h94, guardA_undef, w1, appendA_U]
    exact ⟨Nat.le_trans ovk.next (by omega), ⟨k + 1, by simp, by omega, ov3 _⟩, by omega⟩
end Go.Proofs
