/-
  The parameters of this chapter's laws: drafted and bent networks and data. No conditions.
-/
import Derived.Test.YtikgmgmphkalkaaDoorConC
import Derived.Test.YtikgmgmphkalkaaDoorConE
import Derived.Test.YtikgmgmphkalkaaDoorConH
set_option linter.all false
set_option maxRecDepth 100000
namespace Go.Proofs
open Go.Hx
structure D05 where
  g : Int
  ps : List DrP
  ord : List Int
def D05.val (d : D05) : AVal := draft05V d.g d.ps d.ord
structure D05.Ok (d : D05) : Prop where
  g : U8 d.g
  ps : ∀ x ∈ d.ps, x.Ok
  pl : (d.ps.length : Int) < 2 ^ 63
  ol : (d.ord.length : Int) < 2 ^ 63
  o8 : ∀ x ∈ d.ord, U8 x
end Go.Proofs
namespace Go.Proofs.YtikgmgmphkalkaaDoor
open Go.ChangeShapes Go.WideShapes Go.ChangeAt Go.RowKit Go.Hx
section
variable {W : World} {H : Type} {enc : TypeId × Value → H} {spare : Nat → Bool} {held : Bool}
theorem max63 {n : Nat} (h : n ≤ maxLen) : (n : Int) < 2 ^ 63 := by
  have : maxLen = 9223372036854775807 := by decide
  omega
theorem wfU {n : Int} (h : (Lit.int .u8 n).wf = true) : U8 n := by
  have := wf_u8 h
  unfold U8; omega
theorem wfU16 {n : Int} (h : (Lit.int .u16 n).wf = true) : 0 ≤ n ∧ n < 65536 := by
  have : 0 ≤ n ∧ n ≤ 65535 := by simpa [Lit.wf, IntKind.min, IntKind.max, IntKind.signed, IntKind.bits] using h
  omega
theorem opens_of {α : Type} {t e : TypeId} {f : α → List AVal} {q : α → Prop} (ht : Tryd.prog.underlying t = some (.slice e)) (hz : 0 < Tryd.prog.cellsOf e) (he : Opens enc Tryd.prog W spare held e fun _ zs => ∃ x : α, zs = f x ∧ q x) :
    Opens enc Tryd.prog W spare held t fun _ zs => ∃ l : List α, zs = [.vec l.length (l.map f).flatten] ∧ l.length ≤ maxLen ∧ ∀ x ∈ l, q x :=
  (opens_slice ht hz he).mono fun d zs h => by
    rcases h with ⟨_, rfl⟩ | ⟨ds, rest, rows, _, rfl, hr, _, hl⟩
    · exact ⟨[], rfl, Nat.zero_le _, fun c h => by cases h⟩
    · obtain ⟨l, rfl, hq⟩ := rows_each (f := f) (q := q) (fun d zs h => h) hr
      exact ⟨l, by rw [List.length_map], by simpa using hl, hq⟩
theorem opens_B25 : Opens enc Tryd.prog W spare held 39 fun _ zs => ∃ w a n : Int, zs = bend25C w a n ∧ U8 w ∧ U8 a := by
  have hu := Tryd.underlying39
  have c1 := Tryd.cells5
  have c2 := Tryd.cells3
  refine (opens_struct (φ := fun i _ xs => if i = 2 then ∃ n, xs = [.lit (.int .i64 n)] else ∃ n, xs = [.lit (.int .u8 n)] ∧ (Lit.int .u8 n).wf = true) hu
    (fun cs hcs => by
      have hc : Tryd.prog.cellsOf 39 = 3 := by kernel_rfl
      rw [hc] at hcs
      match cs, hcs with
      | [a, b, c], _ => simp [c1, c2])
    (fun i hi => match i, hi with
      | 0, _ => (opens_int Tryd.underlying5).mono fun _ _ ⟨n, _, h, w⟩ => ⟨n, h, w⟩
      | 1, _ => (opens_int Tryd.underlying5).mono fun _ _ ⟨n, _, h, w⟩ => ⟨n, h, w⟩
      | 2, _ => (opens_int Tryd.underlying3).mono fun _ _ ⟨n, _, h, _⟩ => ⟨n, h⟩)).mono fun d zs ⟨ds, rows, _, e, hl1, hl2, hall⟩ => ?_
  match rows, ds, hl2, hl1, hall with
  | [x, y, z], [d0, d1, d2], _, _, hall =>
    obtain ⟨n0, e0, w0⟩ := hall 0 (by simp) (by simp)
    obtain ⟨n1, e1, w1⟩ := hall 1 (by simp) (by simp)
    obtain ⟨n2, e2⟩ := hall 2 (by simp) (by simp)
    simp only [List.getElem_cons_zero, List.getElem_cons_succ] at e0 e1 e2
    subst e0; subst e1; subst e2
    exact ⟨n0, n1, n2, by rw [e]; rfl, wfU w0, wfU w1⟩
theorem opens_five : Opens enc Tryd.prog W spare held 112 fun _ zs => ∃ l : List Int, zs = bytesL l ∧ l.length = 5 ∧ ∀ x ∈ l, U8 x :=
  (opens_intArr Tryd.underlying112 Tryd.underlying5 Tryd.cells5 (by kernel_rfl)).mono fun _ _ ⟨l, h1, h2, h3⟩ => ⟨l, h1, h2, fun c hc => wfU (h3 c hc)⟩
theorem opens_D25 : Opens enc Tryd.prog W spare held 37 fun _ zs => ∃ d : D25, zs = d.cells ∧ d.Ok := by
  have hu := Tryd.underlying37
  have c1 := Tryd.cells5
  have c2 := Tryd.cells23
  have c3 := Tryd.cells35
  have c4 : Tryd.prog.cellsOf 112 = 5 := by kernel_rfl
  refine (opens_struct (φ := fun i _ xs => if i = 1 then ∃ l : List (List Int), xs = [.vec l.length (l.map bytesL).flatten] ∧ l.length ≤ maxLen ∧ ∀ r ∈ l, r.length = 5 ∧ ∀ x ∈ r, U8 x else if i = 2 then ∃ n, xs = [.lit (.int .u8 n)] ∧ (Lit.int .u8 n).wf = true else ∃ l : List Int, xs = [.vec l.length (intL .u8 l)] ∧ l.length ≤ maxLen ∧ ∀ c, c ∈ l → (Lit.int .u8 c).wf = true) hu
    (fun cs hcs => by
      have hc : Tryd.prog.cellsOf 37 = 4 := by kernel_rfl
      rw [hc] at hcs
      match cs, hcs with
      | [a, b, c, d], _ => simp [c1, c2, c3])
    (fun i hi => match i, hi with
      | 0, _ => (opens_ints Tryd.underlying23 Tryd.underlying5 c1).mono fun _ _ h => h
      | 1, _ => (opens_of Tryd.underlying35 (by rw [c4]; decide) opens_five).mono fun _ _ h => h
      | 2, _ => (opens_int Tryd.underlying5).mono fun _ _ ⟨n, _, h, w⟩ => ⟨n, h, w⟩
      | 3, _ => (opens_ints Tryd.underlying23 Tryd.underlying5 c1).mono fun _ _ h => h)).mono fun d zs ⟨ds, rows, _, e, hl1, hl2, hall⟩ => ?_
  match rows, ds, hl2, hl1, hall with
  | [x, y, z, u], [d0, d1, d2, d3], _, _, hall =>
    obtain ⟨l0, e0, w0, v0⟩ := hall 0 (by simp) (by simp)
    obtain ⟨l1, e1, w1, v1⟩ := hall 1 (by simp) (by simp)
    obtain ⟨n2, e2, w2⟩ := hall 2 (by simp) (by simp)
    obtain ⟨l3, e3, w3, v3⟩ := hall 3 (by simp) (by simp)
    simp only [List.getElem_cons_zero, List.getElem_cons_succ] at e0 e1 e2 e3
    subst e0; subst e1; subst e2; subst e3
    exact ⟨⟨l0, l1, n2, l3⟩, by rw [e]; rfl, ⟨max63 w0, fun c hc => wfU (v0 c hc), max63 w1, v1, wfU w2, max63 w3, fun c hc => wfU (v3 c hc)⟩⟩
theorem arg_b25 {r : Reach} {b : Nat} {v : Value} {d : DataW H} {ps : List MemPlace} (hval : Value.okWide Tryd.prog W r b 39 v) (hd : DataW.Trod enc Tryd.prog W 0 spare held 39 v d ps) :
    ∃ w a n : Int, RelV Tryd.prog noG noH W (.agg (bend25C w a n)) v ∧ U8 w ∧ U8 a := by
  obtain ⟨xs, h1, w, a, n, rfl, h2, h3⟩ := arg_agg opens_B25 (.inl ⟨_, Tryd.underlying39⟩) hval hd
  exact ⟨w, a, n, h1, h2, h3⟩
theorem arg_d25 {r : Reach} {b : Nat} {v : Value} {d : DataW H} {ps : List MemPlace} (hval : Value.okWide Tryd.prog W r b 37 v) (hd : DataW.Trod enc Tryd.prog W 0 spare held 37 v d ps) :
    ∃ x : D25, RelV Tryd.prog noG noH W (.agg x.cells) v ∧ x.Ok := by
  obtain ⟨xs, h1, x, rfl, h2⟩ := arg_agg opens_D25 (.inl ⟨_, Tryd.underlying37⟩) hval hd
  exact ⟨x, h1, h2⟩
end
end Go.Proofs.YtikgmgmphkalkaaDoor
namespace Go.Proofs.YtikgmgmphkalkaaDoor
open Go.ChangeShapes Go.WideShapes Go.ChangeAt Go.RowKit Go.Hx
section
variable {W : World} {H : Type} {enc : TypeId × Value → H} {spare : Nat → Bool} {held : Bool}
theorem wfU64 {n : Int} (h : (Lit.int .u64 n).wf = true) : ∃ m : Nat, n = m ∧ m < 2 ^ 64 := by
  have : 0 ≤ n ∧ n ≤ 18446744073709551615 := by simpa [Lit.wf, IntKind.min, IntKind.max, IntKind.signed, IntKind.bits] using h
  exact ⟨n.toNat, by omega, by omega⟩
theorem nat_u8 {n : Int} (h : (Lit.int .u8 n).wf = true) : ∃ m : Nat, n = m ∧ m < 256 := by
  have := wfU h
  unfold U8 at this
  exact ⟨n.toNat, by omega, by omega⟩
theorem opens_Plan : Opens enc Tryd.prog W spare held 43 fun _ zs => ∃ (n : Nat) (ord : List Int) (e : Nat), zs = planC n ord e ∧ n < 256 ∧ ord.length = 6 ∧ (∀ x ∈ ord, U8 x) ∧ e < 65536 := by
  have hu := Tryd.underlying43
  have c1 := Tryd.cells5
  have c2 : Tryd.prog.cellsOf 40 = 6 := by kernel_rfl
  have c3 := Tryd.cells41
  refine (opens_struct (φ := fun i _ xs => if i = 1 then ∃ l : List Int, xs = bytesL l ∧ l.length = 6 ∧ ∀ x ∈ l, U8 x else if i = 0 then ∃ n, xs = [.lit (.int .u8 n)] ∧ (Lit.int .u8 n).wf = true else ∃ n, xs = [.lit (.int .u16 n)] ∧ (Lit.int .u16 n).wf = true) hu
    (fun cs hcs => by
      have hc : Tryd.prog.cellsOf 43 = 8 := by kernel_rfl
      rw [hc] at hcs
      match cs, hcs with
      | [a, b, c, d, e, f, g, h], _ => simp [c1, c2, c3])
    (fun i hi => match i, hi with
      | 0, _ => (opens_int Tryd.underlying5).mono fun _ _ ⟨n, _, h, w⟩ => ⟨n, h, w⟩
      | 1, _ => (opens_intArr Tryd.underlying40 Tryd.underlying5 c1 c2).mono fun _ _ ⟨l, h1, h2, h3⟩ => ⟨l, h1, h2, fun c hc => wfU (h3 c hc)⟩
      | 2, _ => (opens_int Tryd.underlying41).mono fun _ _ ⟨n, _, h, w⟩ => ⟨n, h, w⟩)).mono fun d zs ⟨ds, rows, _, e, hl1, hl2, hall⟩ => ?_
  match rows, ds, hl2, hl1, hall with
  | [x, y, z], [d0, d1, d2], _, _, hall =>
    obtain ⟨n0, e0, w0⟩ := hall 0 (by simp) (by simp)
    obtain ⟨l, e1, w1, w1'⟩ := hall 1 (by simp) (by simp)
    obtain ⟨n2, e2, w2⟩ := hall 2 (by simp) (by simp)
    simp only [List.getElem_cons_zero, List.getElem_cons_succ] at e0 e1 e2
    subst e0; subst e1; subst e2
    obtain ⟨m, rfl, hm⟩ := nat_u8 w0
    have w3 := wfU16 w2
    obtain ⟨q, rfl⟩ := Int.eq_ofNat_of_zero_le w3.1
    refine ⟨m, l, q, ?_, hm, w1, w1', by omega⟩
    rw [e]
    simp [planC]
theorem opens_Ask : Opens enc Tryd.prog W spare held 47 fun _ zs => ∃ (a b c : Int) (s0 s1 s2 : Nat), zs = askC a b c s0 s1 s2 ∧ s0 < 256 ∧ s1 < 256 ∧ s2 < 256 := by
  have hu := Tryd.underlying47
  have c1 := Tryd.cells5
  have c2 : Tryd.prog.cellsOf 45 = 3 := by kernel_rfl
  have c3 := Tryd.cells3
  refine (opens_struct (φ := fun i _ xs => if i = 3 then ∃ l : List Int, xs = bytesL l ∧ l.length = 3 ∧ ∀ x ∈ l, (Lit.int .u8 x).wf = true else ∃ n, xs = [.lit (.int .i64 n)]) hu
    (fun cs hcs => by
      have hc : Tryd.prog.cellsOf 47 = 6 := by kernel_rfl
      rw [hc] at hcs
      match cs, hcs with
      | [a, b, c, d, e, f], _ => simp [c1, c2, c3])
    (fun i hi => match i, hi with
      | 0, _ => (opens_int Tryd.underlying3).mono fun _ _ ⟨n, _, h, _⟩ => ⟨n, h⟩
      | 1, _ => (opens_int Tryd.underlying3).mono fun _ _ ⟨n, _, h, _⟩ => ⟨n, h⟩
      | 2, _ => (opens_int Tryd.underlying3).mono fun _ _ ⟨n, _, h, _⟩ => ⟨n, h⟩
      | 3, _ => (opens_intArr Tryd.underlying45 Tryd.underlying5 c1 c2).mono fun _ _ ⟨l, h1, h2, h3⟩ => ⟨l, h1, h2, h3⟩)).mono fun d zs ⟨ds, rows, _, e, hl1, hl2, hall⟩ => ?_
  match rows, ds, hl2, hl1, hall with
  | [x, y, z, u], [d0, d1, d2, d3], _, _, hall =>
    obtain ⟨n0, e0⟩ := hall 0 (by simp) (by simp)
    obtain ⟨n1, e1⟩ := hall 1 (by simp) (by simp)
    obtain ⟨n2, e2⟩ := hall 2 (by simp) (by simp)
    obtain ⟨l, e3, w3, w3'⟩ := hall 3 (by simp) (by simp)
    simp only [List.getElem_cons_zero, List.getElem_cons_succ] at e0 e1 e2 e3
    subst e0; subst e1; subst e2; subst e3
    match l, w3, w3' with
    | [x0, x1, x2], _, w =>
      obtain ⟨s0, rfl, h0⟩ := nat_u8 (w x0 (by simp))
      obtain ⟨s1, rfl, h1⟩ := nat_u8 (w x1 (by simp))
      obtain ⟨s2, rfl, h2⟩ := nat_u8 (w x2 (by simp))
      exact ⟨n0, n1, n2, s0, s1, s2, by rw [e]; rfl, h0, h1, h2⟩
theorem arg_plan {r : Reach} {b : Nat} {v : Value} {d : DataW H} {ps : List MemPlace} (hval : Value.okWide Tryd.prog W r b 43 v) (hd : DataW.Trod enc Tryd.prog W 0 spare held 43 v d ps) :
    ∃ (n : Nat) (ord : List Int) (e : Nat), RelV Tryd.prog noG noH W (.agg (planC n ord e)) v ∧ ord.length = 6 ∧ (∀ x ∈ ord, U8 x) ∧ e < 65536 := by
  obtain ⟨xs, h1, n, ord, e, rfl, _, h3, h4, h5⟩ := arg_agg opens_Plan (.inl ⟨_, Tryd.underlying43⟩) hval hd
  exact ⟨n, ord, e, h1, h3, h4, h5⟩
theorem arg_ask {r : Reach} {b : Nat} {v : Value} {d : DataW H} {ps : List MemPlace} (hval : Value.okWide Tryd.prog W r b 47 v) (hd : DataW.Trod enc Tryd.prog W 0 spare held 47 v d ps) :
    ∃ (a b c : Int) (s0 s1 s2 : Nat), RelV Tryd.prog noG noH W (.agg (askC a b c s0 s1 s2)) v ∧ s0 < 256 ∧ s1 < 256 ∧ s2 < 256 := by
  obtain ⟨xs, h1, a, b, c, s0, s1, s2, rfl, h2⟩ := arg_agg opens_Ask (.inl ⟨_, Tryd.underlying47⟩) hval hd
  exact ⟨a, b, c, s0, s1, s2, h1, h2⟩
theorem arg_n8 {r : Reach} {b : Nat} {v : Value} {d : DataW H} {ps : List MemPlace} (hval : Value.okWide Tryd.prog W r b 5 v) (hd : DataW.Trod enc Tryd.prog W 0 spare held 5 v d ps) :
    ∃ k : Nat, RelV Tryd.prog noG noH W (.lit (.int .u8 (k : Int))) v ∧ k < 256 := by
  obtain ⟨n, h1, h2⟩ := arg_int Tryd.underlying5 hval hd
  obtain ⟨m, rfl, hm⟩ := nat_u8 h2
  exact ⟨m, h1, hm⟩
theorem arg_uints {r : Reach} {b : Nat} {v : Value} {d : DataW H} {ps : List MemPlace} (hval : Value.okWide Tryd.prog W r b 44 v) (hd : DataW.Trod enc Tryd.prog W 0 spare held 44 v d ps) :
    ∃ l : List Nat, RelV Tryd.prog noG noH W (vecB l) v ∧ (l.length : Int) < 2 ^ 63 ∧ ∀ x ∈ l, x < 2 ^ 64 := by
  obtain ⟨l, h1, h2, h3⟩ := arg_ints Tryd.underlying44 Tryd.underlying100 Tryd.cells100 hval hd
  have key : ∃ m : List Nat, l = m.map (fun (x : Nat) => (x : Int)) ∧ ∀ x ∈ m, x < 2 ^ 64 := by
    clear h1 h2
    induction l with
    | nil => exact ⟨[], rfl, fun x h => by cases h⟩
    | cons a l ih =>
      obtain ⟨m, rfl, hm⟩ := ih fun c hc => h3 c (by simp [hc])
      obtain ⟨x, rfl, hx⟩ := wfU64 (h3 a (by simp))
      exact ⟨x :: m, rfl, fun y hy => by rcases List.mem_cons.1 hy with rfl | h; exact hx; exact hm y h⟩
  obtain ⟨m, rfl, hm⟩ := key
  refine ⟨m, ?_, by rw [List.length_map] at h2; exact max63 h2, hm⟩
  have e : intL .u64 (m.map fun (x : Nat) => (x : Int)) = m.map bitV := by simp [intL, bitV]
  rw [e, List.length_map] at h1
  exact h1
end
end Go.Proofs.YtikgmgmphkalkaaDoor
