/-
  Slices of a call's own, by what lies in the heap; blocks let go at a call. Own work: no program stands in this text.
-/
import Derived.Test.YtikgmgmphkalkaaDoorLibC
set_option linter.all false
namespace Go.Hx
variable {P:Program} {G:Nat -> Option (List AVal)} {H H':AHeap}
def AHeap.cut (H:AHeap)(n:Nat):AHeap := ⟨fun j => if j < n then H.get j else none, H.next⟩
theorem kO {n id:Nat}(h:id < n):(H.cut n).get id = H.get id := by simp [AHeap.cut, h]
theorem Jl {n id:Nat}(h:n <= id):(H.cut n).get id = none := by simp [AHeap.cut, Nat.not_lt.2 h]
theorem Over.cut {B:AHeap}(h:Over B H):Over B (H.cut B.next) := ⟨h.next, fun id hi => (kO hi).trans (h.old id hi)⟩
open Classical in
theorem Fz.dead {S:Nat -> Prop}{H:AHeap}{nx:Nat}{v:AVal}(h:Below nx v):Fz S H nx v v := by
  induction h with
  | lit v => exact .lit v
  | vec _ ih => exact .vec rfl fun i h _ => ih i h
  | vptr _ ih => exact .vptr rfl fun i h _ => ih i h
  | agg _ ih => exact .agg rfl fun i h _ => ih i h
  | tup _ ih => exact .tup rfl fun i h _ => ih i h
  | clo _ _ ih1 ih2 => exact .clo rfl rfl (fun i h _ => ih1 i h) fun i h _ => ih2 i h
  | @own id _ _ _ _ h => by_cases hs:S id; exact .deadOwn h hs; exact .own h hs
  | @ptr id _ _ h => by_cases hs:S id; exact .deadPtr h hs; exact .ptr h hs
  | @yld id h => by_cases hs:S id; exact .deadYld h hs; exact .yld h hs
theorem vd (hc:Clo H)(n:Nat):FzH (fun id => n <= id) H (H.cut n) where
  gone id hs := Jl hs
  kept id b hs hb := by
    have hlt:id < n := SJ hs
    have hbb := hc.below id b hb
    refine⟨hc.lt id b hb, b, by rw[kO hlt]; exact hb, ?_⟩
    cases b with
    | rsv => trivial
    | mp => rfl
    | arr g e cells => exact⟨rfl, rfl, rfl, fun i h _ => .dead (hbb i h)⟩
    | loop st pend n env ps asg body => exact⟨rfl, rfl, rfl, rfl, rfl, rfl, rfl, fun t ht => .dead (hbb t ht)⟩
  none id hs hb := by rw[kO (SJ hs)]; exact hb
theorem ah.Jm {f : FuncId} {args args' : List AVal} {K : ARes → AHeap → Prop} (n : Nat) (hG : el G) (hl : args'.length = args.length) (hv : ∀ i (h : i < args.length) (h' : i < args'.length), Fz (fun id => n ≤ id) H H.next args[i] args'[i])
    (h:ah P G f args' (H.cut n) K):ah P G f args H K := by
  refine⟨h.1, fun Γ w cargs R hr => ?_⟩
  have F := vd R.clo n
  have R0 := F.rel hG R
  have E0:Evo Γ H w (eh (fun id => n <= id) Γ) (H.cut n) w := F.aT
  refine(h.2 _ w cargs R0 ⟨by have := hr.1; omega, fun i h1 h2 => (hv i (by omega) h1).sound R F (hr.2 i (by omega) h2)⟩).mono ?_
  rintro e w' ⟨r, H', Γ', h1, h2, h3, h4, h5⟩
  exact⟨r, H', Γ', h1, h2, h3, E0.trans (Nat.le_refl _) h4, h5⟩
def aF (lo:Nat)(H:AHeap)(e:TypeId)(v:AVal)(cs:List AVal):Prop :=
  (v = .lit (.slice none 0 0) /\ cs = []) \/ ∃ id g, lo <= id /\ id < H.next /\ v = .own id g 0 cs.length 1 /\ H.get id = some (.arr g e cs)
theorem aF.nil {lo:Nat}{e:TypeId}:aF lo H e (.lit (.slice none 0 0)) [] := .inl ⟨rfl, rfl⟩
theorem aF.keep {lo lo':Nat}{e:TypeId}{v:AVal}{cs:List AVal}(h:aF lo H e v cs)(hl:lo' <= lo)(hn:H.next <= H'.next)(hk:∀ id g, lo <= id -> id < H.next -> H.get id = some (.arr g e cs) -> v = .own id g 0 cs.length 1 -> H'.get id = H.get id):aF lo' H' e v cs := by
  rcases h with h | ⟨id, g, h1, h2, h3, h4⟩
  · exact .inl h
  · exact .inr ⟨id, g, by omega, by omega, h3, by rw[hk id g h1 h2 h4 h3]; exact h4⟩
theorem aF.over {lo:Nat}{e:TypeId}{v:AVal}{cs:List AVal}(h:aF lo H e v cs)(ho:Over H H'):aF lo H' e v cs := h.keep (Nat.le_refl _) ho.next fun id _ _ h2 _ _ => ho.old id h2
theorem aF.one {lo:Nat}{e:TypeId}{v:AVal}{cs:List AVal}(h:aF lo H e v cs):v.one = true := by
  rcases h with ⟨rfl, _⟩ | ⟨_, _, _, _, rfl, _⟩ <;> rfl
theorem aF.cells {lo:Nat}{e:TypeId}{v:AVal}{cs:List AVal}(h:aF lo H e v cs):v.cells = [v] := by
  rcases h with ⟨rfl, _⟩ | ⟨_, _, _, _, rfl, _⟩ <;> rfl
theorem aF.fz {S : Nat → Prop} {lo nx : Nat} {e : TypeId} {v : AVal} {cs cs' : List AVal} (h : aF lo H e v cs) (hS : ∀ i, lo ≤ i → S i) (hl : cs'.length = cs.length)
    (hc:∀ i (h:i < cs.length) (h':i < cs'.length), Fz S H nx cs[i] cs'[i]):Fz S H nx v (.vec cs'.length cs') := by
  rcases h with ⟨rfl, rfl⟩ | ⟨id, g, h1, _, rfl, h4⟩
  · obtain rfl := QT hl
    exact .nil
  · rw[hl]
    refine .frz (hS id h1) h4 (by omega) fun j hj h2 h' => ?_
    simp only[Nat.zero_add]at h2 ⊢
    exact hc j h2 h'
theorem aF.jP {S:Nat -> Prop}{lo nx:Nat}{e:TypeId}{v:AVal}{l:List Int}(h:aF lo H e v (ints l))(hS:∀ i, lo <= i -> S i):Fz S H nx v (ag l) := by
  have := h.fz (S := S) (nx := nx) (cs' := ints l) hS rfl fun i hi _ => by simp only[ints, QY]; exact .lit _
  rw[aX]at this
  exact this
theorem aF.new {e:TypeId}{cs:List AVal}:aF H.next (ext H [.arr 0 e cs]) e (.own H.next 0 0 cs.length 1) cs :=
  .inr ⟨H.next, 0, Nat.le_refl _, by simp [dk], rfl, by simpa using bP H [.arr 0 e cs] 0 (by simp)⟩
theorem im {b:Blk}{id:Nat}(h:id < H.next):(ext H [b]).get id = H.get id := jN H [b] id h
theorem cQ {b:Blk}:(ext H [b]).get H.next = some b := by simpa using bP H [b] 0 (by simp)
theorem rF {n:Nat}{b:Blk}(h:n = H.next):H.lay n b = some (ext H [b]) := by subst h; exact rj H b
theorem Jn {t e : TypeId} {lo n : Nat} {v : AVal} {cs src : List AVal} {z : List AVal} (ht : P.underlying t = some (.slice e)) (hz : P.cellsOf e = 1) (hzero : bH P e = some z) (hx : src.all AVal.one = true)
    (hb:(cs.length + src.length) * P.bytesOf e <= 2 ^ 46 /\ cs.length + src.length <= 2 ^ 46) (ho:aF lo H e v cs) (hlo:lo <= H.next) (hn:n = H.next):
    ∃ v' H', bC P H n t t v (.vec src.length src) = some (v', H') /\ aF lo H' e v' (cs ++ src) /\ H.next <= H'.next /\ (∀ k, k < H.next -> (∀ g n, v ≠ .own k g 0 n 1) -> H'.get k = H.get k) := by
  have hsrc:cr H 1 (.vec src.length src) = some (src.length, src) := by
    unfold cr; simp
  by_cases h0:src.length = 0
  · have e0:src = [] := QT h0
    subst e0
    refine⟨v, H, ?_, ?_, Nat.le_refl _, fun _ _ _ => rfl⟩
    · rcases ho with ⟨rfl, rfl⟩ | ⟨i, g, h1, h2, rfl, h4⟩
      · unfold bC; rw[ht]
        simp only[hzero, hz, Option.bind_some]
        rw[hsrc]
        rfl
      · unfold bC; rw[ht]
        have hl := aq h4
        simp only[hzero, hz, Option.bind_some, hsrc, hl]
        rw[QN ⟨trivial, trivial, by omega, hb.1, hb.2, rfl⟩]
        simp
    · rw[List.append_nil]
      exact ho
  rcases ho with ⟨rfl, rfl⟩ | ⟨i, g, h1, h2, rfl, h4⟩
  · refine⟨.own H.next 0 0 src.length 1, ext H [.arr 0 e src], ?_, .inr ⟨H.next, 0, hlo, by simp [dk], by simp, by simpa using cQ⟩, by simp [dk], fun k hk _ => im hk⟩
    unfold bC; rw[ht]
    simp only[hzero, hz, Option.bind_some, hsrc]
    rw[QQ h0, QN (by simpa using hb), rF hn, hn]
    rfl
  · refine⟨.own i (g + 1) 0 (cs.length + src.length) 1, H.upd i (.arr (g + 1) e (cs ++ src)), ?_, .inr ⟨i, g + 1, h1, h2, by simp, by rw[ao, QN rfl]⟩, Nat.le_refl _, fun k hk hne => ?_⟩
    · unfold bC; rw[ht]
      have hl := aq h4
      simp only[hzero, hz, Option.bind_some, hsrc, hl]
      rw[QN ⟨trivial, trivial, by omega, hb.1, hb.2, hx⟩, QQ h0]
      simp
    · rw[ao, QQ]
      rintro rfl; exact hne _ _ rfl
theorem jQ {t e : TypeId} {lo n : Nat} {v x : AVal} {cs : List AVal} {z : List AVal} (ht : P.underlying t = some (.slice e)) (hz : P.cellsOf e = 1) (hzero : bH P e = some z) (hx : x.one = true)
    (hb:(cs.length + 1) * P.bytesOf e <= 2 ^ 46 /\ cs.length + 1 <= 2 ^ 46) (ho:aF lo H e v cs) (hlo:lo <= H.next) (hn:n = H.next + 1):
    ∃ v' H', bC P (ext H [.arr 0 e [x]]) n t t v (.own H.next 0 0 1 1) = some (v', H') /\ aF lo H' e v' (cs ++ [x]) /\ H.next <= H'.next /\ (∀ k, k < H.next -> (∀ g n, v ≠ .own k g 0 n 1) -> H'.get k = H.get k) := by
  have hsrc:cr (ext H [.arr 0 e [x]]) 1 (.own H.next 0 0 1 1) = some (1, [x]) := by
    unfold cr
    have := aq (H := ext H [.arr 0 e [x]]) (g := 0) (cQ (b := .arr 0 e [x]))
    simp [this]
  have hne:(ext H [Blk.arr 0 e [x]]).next = H.next + 1 := rfl
  rcases ho with ⟨rfl, rfl⟩ | ⟨i, g, h1, h2, rfl, h4⟩
  · refine⟨.own (H.next + 1) 0 0 1 1, ext (ext H [.arr 0 e [x]]) [.arr 0 e [x]], ?_, .inr ⟨H.next + 1, 0, by omega, by simp [dk], by simp, ?_⟩, by simp [dk]; omega, fun k hk _ => ?_⟩
    · unfold bC; rw[ht]
      simp only[hzero, hz, Option.bind_some, hsrc]
      rw[QQ (by decide), QN (by simpa using hb), rF (by rw[hn, hne]), hn]
      rfl
    · rw[<- hne]; exact cQ
    · rw[im (by rw[hne]; omega), im hk]
  · have h4':(ext H [.arr 0 e [x]]).get i = some (.arr g e cs) := by rw[im h2]; exact h4
    refine⟨.own i (g + 1) 0 (cs.length + 1) 1, (ext H [.arr 0 e [x]]).upd i (.arr (g + 1) e (cs ++ [x])), ?_, .inr ⟨i, g + 1, h1, by rw[aV, hne]; omega, by simp, by rw[ao, QN rfl]⟩, by rw[aV, hne]; omega, fun k hk hne => ?_⟩
    · unfold bC; rw[ht]
      have hl := aq h4'
      simp only[hzero, hz, Option.bind_some, hsrc, hl]
      rw[QN ⟨trivial, trivial, by omega, hb.1, hb.2, by simp [hx]⟩]
      simp
    · rw[ao, QQ, im hk]
      rintro rfl; exact hne _ _ rfl
def iq (lo:Nat)(H:AHeap)(e1 e0:TypeId)(v:AVal)(rows:List (List AVal)):Prop :=
  ∃ cs:List AVal, aF lo H e1 v cs /\ cs.length = rows.length /\ ∀ (j:Nat) (r:List AVal) (c:AVal), rows[j]? = some r -> cs[j]? = some c -> aF lo H e0 c r
theorem iq.nil {lo:Nat}{e1 e0:TypeId}:iq lo H e1 e0 (.lit (.slice none 0 0)) [] := ⟨[], .nil, rfl, fun j r c h => by simp at h⟩
theorem iq.over {lo:Nat}{e1 e0:TypeId}{v:AVal}{rows:List (List AVal)}(h:iq lo H e1 e0 v rows)(ho:Over H H'):iq lo H' e1 e0 v rows := by
  obtain⟨cs, c1, c2, c3⟩ := h
  exact⟨cs, c1.over ho, c2, fun j r c hr hc => (c3 j r c hr hc).over ho⟩
theorem iq.fz {S : Nat → Prop} {lo nx : Nat} {e1 e0 : TypeId} {v : AVal} {rows rows' : List (List AVal)} (h : iq lo H e1 e0 v rows) (hS : ∀ i, lo ≤ i → S i) (hl : rows'.length = rows.length)
    (hr:∀ (j:Nat) (r r':List AVal), rows[j]? = some r -> rows'[j]? = some r' -> r'.length = r.length /\ ∀ i (h:i < r.length) (h':i < r'.length), Fz S H nx r[i] r'[i]):
    Fz S H nx v (.vec rows'.length (rows'.map fun r => .vec r.length r)) := by
  obtain⟨cs, h1, h2, h3⟩ := h
  have := h1.fz (S := S) (nx := nx) (cs' := rows'.map fun r => .vec r.length r) hS (by simp [h2, hl]) fun i hi hi' => by
    simp only[QY]
    have hi2:i < rows.length := by omega
    have hi3:i < rows'.length := by omega
    obtain⟨a1, a2⟩ := hr i rows[i] rows'[i] (QK hi2) (QK hi3)
    exact(h3 i rows[i] cs[i] (QK hi2) (QK hi)).fz (S := S) (nx := nx) (cs' := rows'[i]) hS a1 a2
  rw[QX]at this
  exact this
theorem aF.uZ {lo lo' : Nat} {e e' : TypeId} {v u : AVal} {cs cs' : List AVal} (hv : aF lo H e v cs) (hu : aF lo' H e' u cs') (hne : e ≠ e') (hn : H.next ≤ H'.next)
    (hp:∀ k, k < H.next -> (∀ g n, v ≠ .own k g 0 n 1) -> H'.get k = H.get k):aF lo' H' e' u cs' := by
  refine hu.keep (Nat.le_refl _) hn fun i g h1 h2 h3 _ => hp i h2 fun g' n he => ?_
  rcases hv with ⟨rfl, _⟩ | ⟨j, g2, _, _, rfl, h4⟩
  · cases he
  · have := AVal.own.inj he
    obtain rfl:j = i := this.1
    rw[h3]at h4
    cases h4
    exact hne rfl
attribute [go_sem] Int.reduceToNat Int.reduceLE Int.reduceLT Int.reduceAdd Int.reduceSub Int.reduceMul Int.reduceEq Int.reduceNe Nat.reduceEqDiff Nat.reducePow Nat.reduceDiv Nat.reduceMod Nat.reduceAdd Nat.reduceMul Nat.reduceSub Nat.reduceLT Nat.reduceLeDiff reduceIte reduceCtorEq
end Go.Hx
