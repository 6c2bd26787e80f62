/-
  Numbers as lists of digits, and what exponents of primes come to. Plain: no program stands in this text. No conditions.
-/
import Derived.Test.YtikgmgmphkalkaaDoorConC
import Derived.Test.YtikgmgmphkalkaaDoorConD
import Derived.Test.YtikgmgmphkalkaaDoorConE
import Derived.Test.YtikgmgmphkalkaaDoorConA
import Derived.Test.YtikgmgmphkalkaaDoorLibC
import Derived.Test.YtikgmgmphkalkaaDoorLibD
import Derived.Test.YtikgmgmphkalkaaDoorConB
set_option linter.all false
set_option maxRecDepth 100000
namespace Go.Proofs
open Go.Hx
def cb (n:Nat):Nat -> List Nat -> List Nat
  | c, [] => if 0 < c then [c] else []
  | c, d :: l => (d * n + c) % 10000 :: cb n ((d * n + c) / 10000) l
def bO:List Nat -> Nat
  | [] => 0
  | d :: l => d + 10000 * bO l
structure DigL (l:List Nat):Prop where
  rng:∀ d ∈ l, d < 10000
  ne:l ≠ []
  last:0 < l.getD (l.length - 1) 0
theorem BP (n:Nat):∀ (l:List Nat) (c:Nat), bO (cb n c l) = bO l * n + c := by
  intro l
  induction l with
  | nil =>
    intro c
    unfold cb
    split
    · simp [bO]
    · simp [bO]; omega
  | cons d l ih =>
    intro c
    simp only[cb, bO]
    rw[ih, RI, TN, Rx]
    have := Nat.mod_add_div (d * n + c) 10000
    omega
theorem NQ {n:Nat}(hn:n < 10000):∀ (l:List Nat) (c:Nat), (∀ d ∈ l, d < 10000) -> c < 10000 -> (∀ d ∈ cb n c l, d < 10000) := by
  intro l
  induction l with
  | nil =>
    intro c _ hc d hd
    unfold cb at hd
    split at hd
    · rw[List.mem_singleton.1 hd]; exact hc
    · cases hd
  | cons d l ih =>
    intro c hl hc x hx
    simp only[cb, List.mem_cons]at hx
    have hd := hl d (by simp)
    rcases hx with rfl | hx
    · exact Nat.mod_lt _ (by decide)
    · refine ih _ (fun y hy => hl y (by simp [hy])) ?_ x hx
      have:d * n <= 9999 * n := Ri _ (by omega)
      rw[T5 (by decide)]
      omega
theorem NR {n d c:Nat}(hn:n < 10000)(hd:d < 10000)(hc:c < n):(d * n + c) / 10000 < n := by
  rw[T5 (by decide)]
  have:d * n <= 9999 * n := Ri _ (by omega)
  omega
theorem NS {n:Nat}(hn:1 <= n):∀ (l:List Nat) (c:Nat), l ≠ [] -> 0 < l.getD (l.length - 1) 0 -> cb n c l ≠ [] /\ 0 < (cb n c l).getD ((cb n c l).length - 1) 0 := by
  intro l
  induction l with
  | nil => intro c h; exact absurd rfl h
  | cons d l ih =>
    intro c _ h
    refine⟨by simp [cb], ?_⟩
    simp only[cb]
    by_cases hl:l = []
    · subst hl
      have h:0 < d := by simpa using h
      have hp:0 < d * n + c := by have := Tj h (show 0 < n by omega); omega
      unfold cb
      split
      · rename_i h2
        exact h2
      · rename_i h2
        have := Nat.mod_add_div (d * n + c) 10000
        simp
        omega
    · have h' : 0 < l.getD (l.length - 1) 0 := by
        have hl' := SL.2 hl
        rw[List.length_cons, Td, show l.length = (l.length - 1) + 1 by omega, RP]at h
        exact h
      obtain⟨a, b⟩ := ih ((d * n + c) / 10000) hl h'
      have := SL.2 a
      rw[List.length_cons, Td, show (cb n ((d * n + c) / 10000) l).length = ((cb n ((d * n + c) / 10000) l).length - 1) + 1 by omega, RP]
      exact b
theorem DigL.by {n:Nat}{l:List Nat}(h:DigL l)(h1:1 <= n)(hn:n < 10000):DigL (cb n 0 l) := by
  obtain⟨a, b⟩ := NS h1 l 0 h.ne h.last
  exact⟨NQ hn l 0 h.rng (by decide), a, b⟩
theorem DigL.one:DigL [1] := ⟨fun d h => by rw[List.mem_singleton.1 h]; decide, by simp, by decide⟩
theorem BQ (n:Nat):∀ (l:List Nat) (c:Nat), (cb n c l).length <= l.length + 1 := by
  intro l
  induction l with
  | nil => intro c; unfold cb; split <;> simp
  | cons d l ih => intro c; simp only[cb, List.length_cons]; have := ih ((d * n + c) / 10000); omega
theorem NU:∀ {l:List Nat}, (∀ d ∈ l, d < 10000) -> bO l < 10000 ^ l.length := by
  intro l
  induction l with
  | nil => intro _; simp [bO]
  | cons d l ih =>
    intro h
    have h1 := h d (by simp)
    have h2 := ih fun x hx => h x (by simp [hx])
    simp only[bO, List.length_cons, Ta]
    omega
theorem NV:∀ {l:List Nat}, l ≠ [] -> 0 < l.getD (l.length - 1) 0 -> 10000 ^ (l.length - 1) <= bO l := by
  intro l
  induction l with
  | nil => intro h; exact absurd rfl h
  | cons d l ih =>
    intro _ h
    by_cases hl:l = []
    · subst hl
      have h:0 < d := by simpa using h
      simp [bO]; omega
    · have hl' := SL.2 hl
      have h':0 < l.getD (l.length - 1) 0 := by
        rw[List.length_cons, Td, show l.length = (l.length - 1) + 1 by omega, RP]at h
        exact h
      have := ih hl h'
      simp only[bO, List.length_cons, Td]
      rw[show l.length = (l.length - 1) + 1 by omega, Ta]
      omega
theorem BR {x y:List Nat}(hx:DigL x)(hy:DigL y)(h:x.length < y.length):bO x < bO y := by
  have h1 := NU hx.rng
  have h2 := NV hy.ne hy.last
  have h3:10000 ^ x.length <= 10000 ^ (y.length - 1) := Rb (by decide) (by omega)
  omega
theorem BS:∀ {x y:List Nat}, x.length = y.length -> (∀ d ∈ x, d < 10000) -> (∀ d ∈ y, d < 10000) -> ∀ i, i < x.length -> (∀ j, i < j -> j < x.length -> x.getD j 0 = y.getD j 0) -> x.getD i 0 < y.getD i 0 -> bO x < bO y := by
  intro x
  induction x with
  | nil => intro y _ _ _ i hi; exact absurd hi (Q5 _)
  | cons a x ih =>
    intro y hl hx hy i hi he hlt
    cases y with
    | nil => simp at hl
    | cons b y =>
      simp only[List.length_cons]at hl hi
      have ha := hx a (by simp)
      have hb := hy b (by simp)
      simp only[bO]
      cases i with
      | zero =>
        have hxy:x = y := by
          apply Q9
          intro j
          rcases Q3 j x.length with h | h
          · have := he (j + 1) (by omega) (by simp; omega)
            rw[RP, RP]at this
            rw[QM, QM]at this
            rw[QK h, QK (by omega)]at this ⊢
            exact congrArg some this
          · rw[QR h, QR (by omega)]
        rw[Uh, Uh]at hlt
        rw[hxy]
        omega
      | succ i =>
        rw[RP, RP]at hlt
        have := ih (y := y) (by omega) (fun d h => hx d (by simp [h])) (fun d h => hy d (by simp [h])) i (by omega) (fun j h1 h2 => by
          have := he (j + 1) (by omega) (by simp; omega)
          rw[RP, RP]at this
          exact this) hlt
        omega
def fI (i:Nat):Nat := (iu i).toNat
def bj (e:Nat -> Nat):Nat -> Nat
  | 0 => 1
  | k + 1 => bj e k * fI k ^ e k
theorem wY (e f:Nat -> Nat):∀ k, bj (fun i => e i + f i) k = bj e k * bj f k := by
  intro k
  induction k with
  | zero => rfl
  | succ k ih => simp only[bj]; rw[ih, Nat.pow_add]; simp only[Rx, Sp]
theorem wZ {e f:Nat -> Nat}:∀ k, (∀ i, i < k -> e i = f i) -> bj e k = bj f k := by
  intro k
  induction k with
  | zero => intro _; rfl
  | succ k ih => intro h; simp only[bj]; rw[ih fun i hi => h i (by omega), h k (by omega)]
theorem NW (i:Nat):0 < fI i := by unfold fI; have := s7 i; omega
theorem NX (e:Nat -> Nat):∀ k, 0 < bj e k := by
  intro k
  induction k with
  | zero => exact Nat.one_pos
  | succ k ih => exact Tj ih (TM (NW k))
theorem NY:∀ k, bj (fun _ => 0) k = 1 := by
  intro k
  induction k with
  | zero => rfl
  | succ k ih => simp [bj, ih]
theorem NZ:∀ w:Nat, 1 <= w -> w <= 60 -> bj (fH (w:Int)) 18 = w := by
  have:(List.range 61).all (fun w => w == 0 || bj (fH (w:Int)) 18 == w) = true := by kernel_rfl
  intro w h1 h2
  have := Rd.1 this w (QW.2 (by omega))
  simp only[RE, beq_iff_eq]at this
  omega
def gf (ws:List Nat)(i:Nat):Nat := (ws.map fun (w:Nat) => fH (w:Int) i).sum
def ba (ws:List Nat):Nat := ws.foldr (· * ·) 1
theorem BU:∀ {ws:List Nat}, (∀ w ∈ ws, 1 <= w /\ w <= 60) -> bj (gf ws) 18 = ba ws := by
  intro ws
  induction ws with
  | nil => intro _; exact NY 18
  | cons w ws ih =>
    intro h
    have h1 := h w (by simp)
    have e:gf (w :: ws) = fun i => fH (w:Int) i + gf ws i := by funext i; simp [gf]
    rw[e, wY, NZ w h1.1 h1.2, ih fun x hx => h x (by simp [hx])]
    rfl
theorem N0 {e f:Nat -> Nat}(h:bj e 18 <= bj f 18):bj (fun i => e i - f i) 18 <= bj (fun i => f i - e i) 18 := by
  have k:bj e 18 * bj (fun i => f i - e i) 18 = bj f 18 * bj (fun i => e i - f i) 18 := by
    rw[<- wY, <- wY]
    exact wZ 18 fun i _ => by omega
  refine Tn fun hlt => ?_
  have p := NX f 18
  have h1 := Nat.mul_lt_mul_of_pos_left hlt p
  have h2:bj e 18 * bj (fun i => f i - e i) 18 <= bj f 18 * bj (fun i => f i - e i) 18 := Ri _ h
  omega
end Go.Proofs
namespace Go.Hx
variable {P:Program} {G:Nat -> Option (List AVal)}
theorem cH.N1 (hG:el G){s:St}{n t0 t1:Nat}{v0 v1:AVal}(h0:Fz (fun id => n <= id) s.H s.H.next (s.ρ t0) v0)(h1:Fz (fun id => n <= id) s.H s.H.next (s.ρ t1) v1):cH P G s ⟨fun t => if t = t0 then v0 else if t = t1 then v1 else s.ρ t, s.H.cut n⟩ := by
  intro m wb Γ a w hs
  refine cH.freeze (s := s) (s' := ⟨fun t => if t = t0 then v0 else if t = t1 then v1 else s.ρ t, s.H.cut n⟩) hG (vd hs.heap.clo n) (fun t => ?_) m wb Γ a w hs
  by_cases h:t = t0
  · subst h
    simp only[if_true]
    exact h0
  · by_cases h':t = t1
    · subst h'
      simp only[h, if_false, if_true]
      exact h1
    · simp only[h, h', if_false]
      exact .dead (hs.env t).nG
theorem aF.BV {lo:Nat}{H:AHeap}{e:TypeId}{v:AVal}{cs:List AVal}(h:aF lo H e v cs){k:Nat}(hk:k < lo):∀ g n, v ≠ .own k g 0 n 1 := fun g n he => by
  rcases h with ⟨h, _⟩ | ⟨id, g', a, _, h, _⟩
  · rw[h]at he; cases he
  · rw[h]at he; have := (AVal.own.inj he).1; omega
end Go.Hx
namespace Go.Proofs
open Go.Hx
theorem BW (a b:List Nat):aE (a ++ b) = aE a ++ aE b := by simp [aE]
theorem BX (l:List Nat)(n:Nat)(hd:∀ d ∈ l, d < 10000)(h1:1 <= n)(hn:n <= 61)(hl:l.length < 2 ^ 30)(H:AHeap)(K:ARes -> AHeap -> Prop)(hK:K (.ret (ag (aE (cb n 0 l)))) H):ah Tryd.prog G0 77 [ag (aE l), ab n] H K := by
  refine ah.clo ⟨_, Tryd.func77, rfl, rfl⟩ fun hcl => ?_
  have jl := gS l
  unfold ag
  rw[jl]
  have il:(ints (aE l)).length = l.length := by rw[aX, jl]
  refine ah.dP (n := 37) (rs := [.tmp 4]) Tryd.func77 rfl rfl rfl (by decide) (by simp) ?_
  refine W.sq ?_
  simp (config := { maxSteps := 1000000 }) only[go_sem, aa]
  refine W.sq ?_
  simp (config := { maxSteps := 1000000 }) only[go_sem, aa]
  refine W.sq ?_
  simp (config := { maxSteps := 1000000 }) only[go_sem, aa]
  refine W.sq ?_
  simp (config := { maxSteps := 1000000 }) only[go_sem, aa]
  refine W.env fun E hE => ?_
  have e0:E 0 = .vec l.length (ints (aE l)) := by rw[hE]; simp (config := { maxSteps := 1000000 }) only[go_sem, aa]
  have e1:E 1 = ab n := by rw[hE]; simp (config := { maxSteps := 1000000 }) only[go_sem, aa]
  have e5:E 5 = .lit (.slice none 0 0) := by rw[hE]; simp (config := { maxSteps := 1000000 }) only[go_sem, aa]
  have e6:E 6 = ab 0 := by rw[hE]; simp (config := { maxSteps := 1000000 }) only[go_sem, aa]
  have e7:E 7 = ab 0 := by rw[hE]; simp (config := { maxSteps := 1000000 }) only[go_sem, aa]
  clear hE
  refine W.aR 1073741792 (by kernel_rfl) (fun ρ Hx => ∃ (i c:Nat) (p:List Nat), ρ 7 = ab i /\ ρ 6 = ab c /\ i <= l.length /\ c < n /\ p.length = i /\ cb n 0 l = p ++ cb n c (l.drop i) /\ Over H Hx /\ aF H.next Hx 3 (ρ 5) (ints (aE p))) (fun ρ Hx => l.length - (iv (ρ 7)).toNat) ?_ ?_
  · exact⟨0, 0, [], e7, e6, by omega, by omega, rfl, rfl, .refl _, by simp (config := { maxSteps := 1000000 }) only[go_sem, e5, aa]; exact .nil⟩
  rintro ρ Hx ⟨i, c, p, h7, h6, hi, hc, hp, hby, ov, hO⟩
  obtain⟨v, hv⟩:∃ v, v = ρ 5 := ⟨_, rfl⟩
  rw[<- hv]at hO
  have ovn := ov.next
  refine W.env fun E1 hE1 => ?_
  have f0:E1 0 = .vec l.length (ints (aE l)) := by rw[hE1]; simp (config := { maxSteps := 1000000 }) only[go_sem, e0, aa]
  have f1:E1 1 = ab n := by rw[hE1]; simp (config := { maxSteps := 1000000 }) only[go_sem, e1, aa]
  have f5:E1 5 = v := by rw[hE1]; simp (config := { maxSteps := 1000000 }) only[go_sem, hv, aa]
  have f6:E1 6 = ab c := by rw[hE1]; simp (config := { maxSteps := 1000000 }) only[go_sem, h6, aa]
  have f7:E1 7 = ab i := by rw[hE1]; simp (config := { maxSteps := 1000000 }) only[go_sem, h7, aa]
  clear hE1
  by_cases hb:(i:Int) < l.length
  · obtain⟨d, hdx⟩ := get_of_lt (l := l) (i := i) (by omega)
    have hd1 := hd d (an hdx)
    have hdg:(ints (aE l))[i]? = some (.lit (.int .i64 (d:Int))) := by rw[fC, nZ hdx]; rfl
    have hdn := aM hdg
    have hm:d * n <= 9999 * 61 := Tu (by omega) hn
    have wm:IntKind.i64.wrap ((d:Int) * (n:Int)) = ((d * n:Nat):Int) := by rw[QL _ (by rw[<- Int.natCast_mul]; omega)]; push_cast; rfl
    have wa:IntKind.i64.wrap (((d * n:Nat):Int) + (c:Int)) = ((d * n + c:Nat):Int) := by rw[QL _ (by omega)]; omega
    obtain⟨x, hx⟩:∃ x, x = d * n + c := ⟨_, rfl⟩
    rw[<- hx]at wa
    have t1:((x:Int)).tmod 10000 = ((x % 10000:Nat):Int) := by rw[Ra (by omega)]; push_cast; rfl
    have t2:((x:Int)).tdiv 10000 = ((x / 10000:Nat):Int) := by rw[RS (by omega)]; push_cast; rfl
    have w1 := QL ((x % 10000:Nat):Int) (by omega)
    have w2 := QL ((x / 10000:Nat):Int) (by omega)
    have w3 := QL ((i:Int) + 1) (by omega)
    obtain⟨v', H2, hA, hO2, hn2, hp2⟩ := jQ (P := Tryd.prog) (H := Hx) (t := 22) (x := ab ((x % 10000:Nat):Int)) (n := Hx.next + 1) Tryd.underlying22 Tryd.lj Tryd.ll rfl (by rw[Tryd.lk, aX, gS]; omega) hO (by omega) rfl
    simp only[ab]at hA
    have hvc := hO2.cells
    have hvo := hO2.one
    refine W.vs ?_
    simp (config := { maxSteps := 1000000 }) only[go_sem, f0, f1, f5, f6, f7, hb, hdg, hdn, il, wm, wa, t1, t2, w1, w2, w3, hA, hvc, hvo]
    refine⟨by omega, ⟨i + 1, x / 10000, p ++ [x % 10000], rfl, rfl, by omega, by rw[hx]; exact NR (by omega) hd1 hc, by simp [hp], ?_, ⟨by omega, fun j h => (hp2 j (by omega) (hO.BV h)).trans (ov.old j h)⟩, ?_⟩, by rw[h7]; simp only[ab, cL]; omega⟩
    · rw[hby]
      have:l.drop i = d :: l.drop (i + 1) := by
        rw[Rv (by omega)]
        rw[QK (by omega)]at hdx
        rw[Option.some.inj hdx]
      rw[this]
      simp only[cb]
      rw[<- hx]
      simp
    · rw[BW]
      simpa [ints, ab, aE] using hO2
  have hin:i = l.length := by omega
  rw[hin, List.drop_length]at hby
  by_cases hc0:(c:Int) > 0
  · have hby2:cb n 0 l = p ++ [c] := by rw[hby]; unfold cb; rw[QN (by omega)]
    obtain⟨v', H2, hA, hO2, hn2, hp2⟩ := jQ (P := Tryd.prog) (H := Hx) (t := 22) (x := ab (c:Int)) (n := Hx.next + 1) Tryd.underlying22 Tryd.lj Tryd.ll rfl (by rw[Tryd.lk, aX, gS]; omega) hO (by omega) rfl
    simp only[ab]at hA
    have hvc := hO2.cells
    have hvo := hO2.one
    refine W.vs ?_
    simp (config := { maxSteps := 1000000 }) only[go_sem, f0, f5, f6, f7, hb, il, aa]
    refine W.vs ?_
    simp (config := { maxSteps := 1000000 }) only[go_sem, f5, f6, hc0, hA, hvc, hvo]
    refine az.cC bz hcl (H2 := H2) ⟨by omega, fun j h => (hp2 j (by omega) (hO.BV h)).trans (ov.old j h)⟩ (v' := ag (aE (cb n 0 l))) ?_ hK
    rw[hby2, BW]
    have:ints (aE p) ++ [ab (c:Int)] = ints (aE p ++ aE [c]) := by simp [ints, aE, ab]
    rw[this]at hO2
    exact hO2.jP fun i h => h
  · have hby2:cb n 0 l = p := by rw[hby]; unfold cb; rw[QQ (by omega)]; simp
    refine W.vs ?_
    simp (config := { maxSteps := 1000000 }) only[go_sem, f0, f5, f6, f7, hb, il, aa]
    refine W.vs ?_
    simp (config := { maxSteps := 1000000 }) only[go_sem, f5, f6, hc0, aa]
    refine az.cC bz hcl (H2 := Hx) ov (v' := ag (aE (cb n 0 l))) ?_ hK
    rw[hby2]
    exact hO.jP fun i h => h
def ju (x y:Nat):Int := if x < y then -1 else if x = y then 0 else 1
def bQ (a b:List Int)(i:Nat):Nat := (a.getD i 0 - b.getD i 0).toNat
set_option maxHeartbeats 8000000 in
theorem N2 (a b:List Int)(hal:a.length = 18)(hbl:b.length = 18)(ha:eI a 9000)(hb:eI b 9000)(H:AHeap)(K:ARes -> AHeap -> Prop)(hK:K (.ret (ab (ju (bj (bQ a b) 18) (bj (bQ b a) 18)))) H):ah Tryd.prog G0 35 [.agg (ints a), .agg (ints b)] H K := by
  refine ah.clo ⟨_, Tryd.func35, rfl, rfl⟩ fun hcl => ?_
  obtain⟨CA, hCA⟩:∃ CA, CA = ints a := ⟨_, rfl⟩
  obtain⟨CB, hCB⟩:∃ CB, CB = ints b := ⟨_, rfl⟩
  have cal:CA.length = 18 := by rw[hCA, aX, hal]
  have cbl:CB.length = 18 := by rw[hCB, aX, hbl]
  have cag:∀ i, i < 18 -> CA[i]? = some (.lit (.int .i64 (a.getD i 0))) := fun i h => by
    obtain⟨x, hx⟩ := get_of_lt (l := a) (i := i) (by omega)
    rw[hCA, fC, hx, aH hx]; rfl
  have cbg:∀ i, i < 18 -> CB[i]? = some (.lit (.int .i64 (b.getD i 0))) := fun i h => by
    obtain⟨x, hx⟩ := get_of_lt (l := b) (i := i) (by omega)
    rw[hCB, fC, hx, aH hx]; rfl
  have car:∀ i, -9000 <= a.getD i 0 /\ a.getD i 0 <= 9000 := fun i => by
    rw[QM]
    cases h:a[i]? with
    | none => simp
    | some x => exact ha x (an h)
  have cbr:∀ i, -9000 <= b.getD i 0 /\ b.getD i 0 <= 9000 := fun i => by
    rw[QM]
    cases h:b[i]? with
    | none => simp
    | some x => exact hb x (an h)
  have cne := aM (cag 0 (by omega))
  have cne2 := aM (cbg 0 (by omega))
  rw[<- hCA, <- hCB]
  clear hCA hCB
  have pp:∀ i, iu i = ((fI i:Nat):Int) /\ 1 <= fI i /\ fI i <= 61 := fun i => by
    have := s7 i
    unfold fI
    omega
  refine ah.dP (n := 82) (rs := [.tmp 4]) Tryd.func35 rfl rfl rfl (by decide) (by simp) ?_
  refine W.sq ?_
  simp (config := { maxSteps := 1000000 }) only[go_sem, aa]
  refine W.sq ?_
  simp (config := { maxSteps := 1000000 }) only[go_sem, aa]
  obtain⟨H1, hH1⟩:∃ H1, H1 = ext H [.arr 0 84 CA, .arr 0 84 CB, .arr 0 3 [.lit (.int .i64 1)], .arr 0 3 [.lit (.int .i64 1)]] := ⟨_, rfl⟩
  have n1:H1.next = H.next + 4 := by rw[hH1]; rfl
  have o1:Over H H1 := by rw[hH1]; exact .ext _ _
  have g0:H1.get H.next = some (.arr 0 84 CA) := by rw[hH1]; exact ez ..
  have g1:H1.get (H.next + 1) = some (.arr 0 84 CB) := by rw[hH1]; exact bP H _ 1 (by simp)
  have g2:H1.get (H.next + 2) = some (.arr 0 3 [.lit (.int .i64 1)]) := by rw[hH1]; exact bP H _ 2 (by simp)
  have g3:H1.get (H.next + 3) = some (.arr 0 3 [.lit (.int .i64 1)]) := by rw[hH1]; exact bP H _ 3 (by simp)
  refine W.env fun E hE => ?_
  have e2:E 2 = .ptr H.next 0 0 := by rw[hE]; simp (config := { maxSteps := 1000000 }) only[go_sem, aa]
  have e3:E 3 = .ptr (H.next + 1) 0 0 := by rw[hE]; simp (config := { maxSteps := 1000000 }) only[go_sem, aa]
  have e5:E 5 = .own (H.next + 2) 0 0 1 1 := by rw[hE]; simp (config := { maxSteps := 1000000 }) only[go_sem, aa]
  have e6:E 6 = .own (H.next + 3) 0 0 1 1 := by rw[hE]; simp (config := { maxSteps := 1000000 }) only[go_sem, aa]
  clear hE
  rw[<- hH1]
  clear hH1
  have O2:aF (H.next + 2) H1 3 (E 5) (ints (aE [1])) := by rw[e5]; exact .inr ⟨H.next + 2, 0, Nat.le_refl _, by omega, rfl, g2⟩
  have O3:aF (H.next + 2) H1 3 (E 6) (ints (aE [1])) := by rw[e6]; exact .inr ⟨H.next + 3, 0, by omega, by omega, rfl, g3⟩
  refine W.yT (cH.N1 bz (s := ⟨E, H1⟩) (n := H.next + 2) (t0 := 5) (t1 := 6) (v0 := ag (aE [1])) (v1 := ag (aE [1])) (O2.jP fun i h => h) (O3.jP fun i h => h)) (Nat.le_refl _) trivial ?_
  obtain⟨H2, hH2⟩:∃ H2, H2 = H1.cut (H.next + 2) := ⟨_, rfl⟩
  have ov2:Over H H2 := by rw[hH2]; exact⟨by show H.next <= H1.next; omega, fun j h => by rw[kO (by omega)]; exact o1.old j h⟩
  have k0:H2.get H.next = some (.arr 0 84 CA) := by rw[hH2, kO (by omega)]; exact g0
  have k1:H2.get (H.next + 1) = some (.arr 0 84 CB) := by rw[hH2, kO (by omega)]; exact g1
  have l0 := aq k0
  have l1 := aq k1
  show W _ _ _ _ _ _ ⟨fun t => if t = 5 then ag (aE [1]) else if t = 6 then ag (aE [1]) else E t, H1.cut (H.next + 2)⟩
  rw[<- hH2]
  refine W.env fun E1 hE1 => ?_
  have f2:E1 2 = .ptr H.next 0 0 := by rw[hE1]; exact e2
  have f3:E1 3 = .ptr (H.next + 1) 0 0 := by rw[hE1]; exact e3
  have f5:E1 5 = ag (aE [1]) := by rw[hE1]; exact QN rfl
  have f6:E1 6 = ag (aE [1]) := by rw[hE1]; rfl
  clear hE1 hH2 O2 O3 e5 e6 g2 g3
  refine W.eH (fun s' => s'.H = H2 /\ ∃ x y:List Nat, s'.ρ 5 = ag (aE x) /\ s'.ρ 6 = ag (aE y) /\ DigL x /\ DigL y /\ bO x = bj (bQ a b) 18 /\ bO y = bj (bQ b a) 18 /\ x.length <= 400000 /\ y.length <= 400000) ?_ ?_
  · refine W.sq ?_
    simp (config := { maxSteps := 1000000 }) only[go_sem, aa]
    refine W.env fun E2 hE2 => ?_
    have a2:E2 2 = .ptr H.next 0 0 := by rw[hE2]; simp (config := { maxSteps := 1000000 }) only[go_sem, f2, aa]
    have a3:E2 3 = .ptr (H.next + 1) 0 0 := by rw[hE2]; simp (config := { maxSteps := 1000000 }) only[go_sem, f3, aa]
    have a5:E2 5 = ag (aE [1]) := by rw[hE2]; simp (config := { maxSteps := 1000000 }) only[go_sem, f5, aa]
    have a6:E2 6 = ag (aE [1]) := by rw[hE2]; simp (config := { maxSteps := 1000000 }) only[go_sem, f6, aa]
    have a7:E2 7 = ab 0 := by rw[hE2]; simp (config := { maxSteps := 1000000 }) only[go_sem, aa]
    clear hE2
    refine W.block ?_
    refine W.aR 140737488348128 (by kernel_rfl) (fun ρ Hx => Hx = H2 /\ ∃ (i:Nat) (x y:List Nat), ρ 7 = ab i /\ i <= 18 /\ ρ 5 = ag (aE x) /\ ρ 6 = ag (aE y) /\ DigL x /\ DigL y /\ bO x = bj (bQ a b) i /\ bO y = bj (bQ b a) i /\ x.length <= 1 + 18000 * i /\ y.length <= 1 + 18000 * i) (fun ρ Hx => 18 - (iv (ρ 7)).toNat) ?_ ?_
    · exact⟨rfl, 0, [1], [1], a7, by omega, a5, a6, .one, .one, rfl, rfl, by decide, by decide⟩
    rintro ρ Hx ⟨hHx, i, x, y, h7, hi, h5, h6, dx, dy, vx, vy, lx, ly⟩
    rw[hHx]
    refine W.env fun E3 hE3 => ?_
    have b2:E3 2 = .ptr H.next 0 0 := by rw[hE3]; simp (config := { maxSteps := 1000000 }) only[go_sem, a2, aa]
    have b3:E3 3 = .ptr (H.next + 1) 0 0 := by rw[hE3]; simp (config := { maxSteps := 1000000 }) only[go_sem, a3, aa]
    have b5:E3 5 = ag (aE x) := by rw[hE3]; simp (config := { maxSteps := 1000000 }) only[go_sem, h5, aa]
    have b6:E3 6 = ag (aE y) := by rw[hE3]; simp (config := { maxSteps := 1000000 }) only[go_sem, h6, aa]
    have b7:E3 7 = ab i := by rw[hE3]; simp (config := { maxSteps := 1000000 }) only[go_sem, h7, aa]
    clear hE3
    by_cases h18:(i:Int) < 18
    rotate_left
    · refine W.vs ?_
      simp (config := { maxSteps := 1000000 }) only[go_sem, b7, h18, aa]
      have:i = 18 := by omega
      subst this
      exact⟨x, y, b5, b6, dx, dy, vx, vy, by omega, by omega⟩
    have i18:i < 18 := by omega
    have ar := car i
    have br := cbr i
    have wab := QL (a.getD i 0 - b.getD i 0) (by omega)
    have wba := QL (b.getD i 0 - a.getD i 0) (by omega)
    have wi := QL ((i:Int) + 1) (by omega)
    obtain⟨p1, p2, p3⟩ := pp i
    have pab:bQ a b i = (a.getD i 0 - b.getD i 0).toNat := rfl
    have pba:bQ b a i = (b.getD i 0 - a.getD i 0).toNat := rfl
    refine W.sq ?_
    simp (config := { maxSteps := 1000000 }) only[go_sem, b7, h18, aa]
    refine W.seq (W.block ?_)
    refine W.eH (fun s' => s'.H = H2 /\ s'.ρ 2 = .ptr H.next 0 0 /\ s'.ρ 3 = .ptr (H.next + 1) 0 0 /\ s'.ρ 7 = ab i /\ s'.ρ 6 = ag (aE y) /\ ∃ x2:List Nat, s'.ρ 5 = ag (aE x2) /\ DigL x2 /\ bO x2 = bj (bQ a b) (i + 1) /\ x2.length <= 1 + 18000 * (i + 1)) ?_ ?_
    · refine W.sq ?_
      simp (config := { maxSteps := 1000000 }) only[go_sem, aa]
      refine W.env fun F hF => ?_
      have c2:F 2 = .ptr H.next 0 0 := by rw[hF]; simp (config := { maxSteps := 1000000 }) only[go_sem, b2, aa]
      have c3:F 3 = .ptr (H.next + 1) 0 0 := by rw[hF]; simp (config := { maxSteps := 1000000 }) only[go_sem, b3, aa]
      have cO:F 6 = ag (aE y) := by rw[hF]; simp (config := { maxSteps := 1000000 }) only[go_sem, b6, aa]
      have cV:F 5 = ag (aE x) := by rw[hF]; simp (config := { maxSteps := 1000000 }) only[go_sem, b5, aa]
      have c7:F 7 = ab i := by rw[hF]; simp (config := { maxSteps := 1000000 }) only[go_sem, b7, aa]
      have cT:F 8 = ab 0 := by rw[hF]; simp (config := { maxSteps := 1000000 }) only[go_sem, aa]
      clear hF
      refine W.block ?_
      refine W.aR 4294836512 (by kernel_rfl) (fun ρ Hx => Hx = H2 /\ ∃ (k:Nat) (x2:List Nat), ρ 8 = ab k /\ k <= bQ a b i /\ ρ 5 = ag (aE x2) /\ DigL x2 /\ bO x2 = bj (bQ a b) i * fI i ^ k /\ x2.length <= 1 + 18000 * i + k) (fun ρ Hx => bQ a b i - (iv (ρ 8)).toNat) ?_ ?_
      · exact⟨rfl, 0, x, cT, by omega, cV, dx, by rw[vx]; simp, by omega⟩
      rintro ρk Hk ⟨hHk, k, x2, hkT, hk, hkV, d2, v2, l2⟩
      rw[hHk]
      refine W.env fun J hJ => ?_
      have j2:J 2 = .ptr H.next 0 0 := by rw[hJ]; simp (config := { maxSteps := 1000000 }) only[go_sem, c2, aa]
      have j3:J 3 = .ptr (H.next + 1) 0 0 := by rw[hJ]; simp (config := { maxSteps := 1000000 }) only[go_sem, c3, aa]
      have jO:J 6 = ag (aE y) := by rw[hJ]; simp (config := { maxSteps := 1000000 }) only[go_sem, cO, aa]
      have jV:J 5 = ag (aE x2) := by rw[hJ]; simp (config := { maxSteps := 1000000 }) only[go_sem, hkV, aa]
      have j7:J 7 = ab i := by rw[hJ]; simp (config := { maxSteps := 1000000 }) only[go_sem, c7, aa]
      have jT:J 8 = ab k := by rw[hJ]; simp (config := { maxSteps := 1000000 }) only[go_sem, hkT, aa]
      clear hJ
      refine W.seq (W.eH (fun s' => s'.H = H2 /\ s'.ρ 2 = .ptr H.next 0 0 /\ s'.ρ 3 = .ptr (H.next + 1) 0 0 /\ s'.ρ 6 = ag (aE y) /\ s'.ρ 5 = ag (aE x2) /\ s'.ρ 7 = ab i /\ s'.ρ 8 = ab k /\ s'.ρ 25 = .lit (.bool (decide (k < bQ a b i)))) ?_ ?_)
      · refine W.draw 8 [0, 0, 2, 6, 0, 16, 48, 126] Tryd.mixed (by kernel_rfl) (by kernel_rfl) ?_
        by_cases hlt:(k:Int) < a.getD i 0 - b.getD i 0
        · rw[Rk (show k < bQ a b i by rw[pab]; omega)]
          simp (config := { maxSteps := 1000000 }) only[go_sem, j2, j3, jO, jV, j7, jT, l0, l1, cal, cbl, cag i i18, cbg i i18, cne, cne2, h18, wab, hlt, aa]
        · rw[RJ (show ¬ k < bQ a b i by rw[pab]; omega)]
          simp (config := { maxSteps := 1000000 }) only[go_sem, j2, j3, jO, jV, j7, jT, l0, l1, cal, cbl, cag i i18, cbg i i18, cne, cne2, h18, wab, hlt, aa]
      rintro⟨ρc, Hc⟩ ⟨hHc, z2, z3, zO, zV, z7, zT, zc⟩
      simp only at hHc z2 z3 zO zV z7 zT zc
      rw[hHc]
      clear hHc Hc
      by_cases hlt:k < bQ a b i
      rotate_left
      · rw[RJ hlt]at zc
        refine W.cond (t := false) zc ?_
        refine W.vs ?_
        simp (config := { maxSteps := 1000000 }) only[go_sem, aa]
        have hke:k = bQ a b i := by omega
        subst hke
        exact⟨z2, z3, z7, zO, x2, zV, d2, v2, by omega⟩
      rw[Rk hlt]at zc
      have wk := QL ((k:Int) + 1) (by omega)
      refine W.cond (t := true) zc ?_
      refine W.vs ?_
      simp (config := { maxSteps := 1000000 }) only[go_sem, aa]
      refine W.seq (W.block ?_)
      refine W.vs ?_
      simp (config := { maxSteps := 1000000 }) only[go_sem, z7, zV, aa]
      refine aG.clo (Bf i i18 H2 _ ⟨trivial, ?_⟩)
      rw[p1]
      simp (config := { maxSteps := 1000000 }) only[go_sem, zV, aa]
      refine aG.clo (BX x2 (fI i) d2.rng p2 p3 (by omega) H2 _ ⟨trivial, ?_⟩)
      simp (config := { maxSteps := 1000000 }) only[go_sem, aa]
      refine W.vs ?_
      simp (config := { maxSteps := 1000000 }) only[go_sem, zT, wk, aa]
      exact⟨⟨k + 1, cb (fI i) 0 x2, rfl, by omega, rfl, d2.by p2 (by omega), by rw[BP, v2, Ta, Nat.add_zero, Rx], by have := BQ (fI i) x2 0; omega⟩, by rw[hkT]; simp only[ab, cL]; omega⟩
    rintro⟨ρx, Hx2⟩ ⟨hHx2, u2, u3, u7, u6, x', u5, dx', vx', lx'⟩
    simp only at hHx2 u2 u3 u7 u6 u5
    rw[hHx2]
    clear hHx2 Hx2
    refine W.mono (Q := fun ax s' => ax = .normal /\ s'.H = H2 /\ s'.ρ 2 = .ptr H.next 0 0 /\ s'.ρ 3 = .ptr (H.next + 1) 0 0 /\ s'.ρ 7 = ab i /\ s'.ρ 5 = ag (aE x') /\ ∃ x2:List Nat, s'.ρ 6 = ag (aE x2) /\ DigL x2 /\ bO x2 = bj (bQ b a) (i + 1) /\ x2.length <= 1 + 18000 * (i + 1)) ?_ ?_
    · refine W.sq ?_
      simp (config := { maxSteps := 1000000 }) only[go_sem, aa]
      refine W.env fun F hF => ?_
      have c2:F 2 = .ptr H.next 0 0 := by rw[hF]; simp (config := { maxSteps := 1000000 }) only[go_sem, u2, aa]
      have c3:F 3 = .ptr (H.next + 1) 0 0 := by rw[hF]; simp (config := { maxSteps := 1000000 }) only[go_sem, u3, aa]
      have cO:F 5 = ag (aE x') := by rw[hF]; simp (config := { maxSteps := 1000000 }) only[go_sem, u5, aa]
      have cV:F 6 = ag (aE y) := by rw[hF]; simp (config := { maxSteps := 1000000 }) only[go_sem, u6, aa]
      have c7:F 7 = ab i := by rw[hF]; simp (config := { maxSteps := 1000000 }) only[go_sem, u7, aa]
      have cT:F 9 = ab 0 := by rw[hF]; simp (config := { maxSteps := 1000000 }) only[go_sem, aa]
      clear hF
      refine W.block ?_
      refine W.aR 140733193388608 (by kernel_rfl) (fun ρ Hx => Hx = H2 /\ ∃ (k:Nat) (x2:List Nat), ρ 9 = ab k /\ k <= bQ b a i /\ ρ 6 = ag (aE x2) /\ DigL x2 /\ bO x2 = bj (bQ b a) i * fI i ^ k /\ x2.length <= 1 + 18000 * i + k) (fun ρ Hx => bQ b a i - (iv (ρ 9)).toNat) ?_ ?_
      · exact⟨rfl, 0, y, cT, by omega, cV, dy, by rw[vy]; simp, by omega⟩
      rintro ρk Hk ⟨hHk, k, x2, hkT, hk, hkV, d2, v2, l2⟩
      rw[hHk]
      refine W.env fun J hJ => ?_
      have j2:J 2 = .ptr H.next 0 0 := by rw[hJ]; simp (config := { maxSteps := 1000000 }) only[go_sem, c2, aa]
      have j3:J 3 = .ptr (H.next + 1) 0 0 := by rw[hJ]; simp (config := { maxSteps := 1000000 }) only[go_sem, c3, aa]
      have jO:J 5 = ag (aE x') := by rw[hJ]; simp (config := { maxSteps := 1000000 }) only[go_sem, cO, aa]
      have jV:J 6 = ag (aE x2) := by rw[hJ]; simp (config := { maxSteps := 1000000 }) only[go_sem, hkV, aa]
      have j7:J 7 = ab i := by rw[hJ]; simp (config := { maxSteps := 1000000 }) only[go_sem, c7, aa]
      have jT:J 9 = ab k := by rw[hJ]; simp (config := { maxSteps := 1000000 }) only[go_sem, hkT, aa]
      clear hJ
      refine W.seq (W.eH (fun s' => s'.H = H2 /\ s'.ρ 2 = .ptr H.next 0 0 /\ s'.ρ 3 = .ptr (H.next + 1) 0 0 /\ s'.ρ 5 = ag (aE x') /\ s'.ρ 6 = ag (aE x2) /\ s'.ρ 7 = ab i /\ s'.ρ 9 = ab k /\ s'.ρ 40 = .lit (.bool (decide (k < bQ b a i)))) ?_ ?_)
      · refine W.draw 8 [0, 0, 2, 6, 0, 16, 48, 126] Tryd.mixed (by kernel_rfl) (by kernel_rfl) ?_
        by_cases hlt:(k:Int) < b.getD i 0 - a.getD i 0
        · rw[Rk (show k < bQ b a i by rw[pba]; omega)]
          simp (config := { maxSteps := 1000000 }) only[go_sem, j2, j3, jO, jV, j7, jT, l0, l1, cal, cbl, cag i i18, cbg i i18, cne, cne2, h18, wba, hlt, aa]
        · rw[RJ (show ¬ k < bQ b a i by rw[pba]; omega)]
          simp (config := { maxSteps := 1000000 }) only[go_sem, j2, j3, jO, jV, j7, jT, l0, l1, cal, cbl, cag i i18, cbg i i18, cne, cne2, h18, wba, hlt, aa]
      rintro⟨ρc, Hc⟩ ⟨hHc, z2, z3, zO, zV, z7, zT, zc⟩
      simp only at hHc z2 z3 zO zV z7 zT zc
      rw[hHc]
      clear hHc Hc
      by_cases hlt:k < bQ b a i
      rotate_left
      · rw[RJ hlt]at zc
        refine W.cond (t := false) zc ?_
        refine W.vs ?_
        simp (config := { maxSteps := 1000000 }) only[go_sem, aa]
        have hke:k = bQ b a i := by omega
        subst hke
        exact⟨z2, z3, z7, zO, x2, zV, d2, v2, by omega⟩
      rw[Rk hlt]at zc
      have wk := QL ((k:Int) + 1) (by omega)
      refine W.cond (t := true) zc ?_
      refine W.vs ?_
      simp (config := { maxSteps := 1000000 }) only[go_sem, aa]
      refine W.seq (W.block ?_)
      refine W.vs ?_
      simp (config := { maxSteps := 1000000 }) only[go_sem, z7, zV, aa]
      refine aG.clo (Bf i i18 H2 _ ⟨trivial, ?_⟩)
      rw[p1]
      simp (config := { maxSteps := 1000000 }) only[go_sem, zV, aa]
      refine aG.clo (BX x2 (fI i) d2.rng p2 p3 (by omega) H2 _ ⟨trivial, ?_⟩)
      simp (config := { maxSteps := 1000000 }) only[go_sem, aa]
      refine W.vs ?_
      simp (config := { maxSteps := 1000000 }) only[go_sem, zT, wk, aa]
      exact⟨⟨k + 1, cb (fI i) 0 x2, rfl, by omega, rfl, d2.by p2 (by omega), by rw[BP, v2, Ta, Nat.add_zero, Rx], by have := BQ (fI i) x2 0; omega⟩, by rw[hkT]; simp only[ab, cL]; omega⟩
    rintro ax ⟨ρy, Hy2⟩ ⟨hax, hHy2, q2, q3, q7, q5, y', q6, dy', vy', ly'⟩
    simp only at hHy2 q2 q3 q7 q6 q5
    subst hax
    rw[hHy2]
    show W _ _ _ _ _ _ _
    refine W.vs ?_
    simp (config := { maxSteps := 1000000 }) only[go_sem, q7, wi, aa]
    exact⟨⟨i + 1, x', y', rfl, by omega, q5, q6, dx', dy', vx', vy', by omega, by omega⟩, by rw[h7]; simp only[ab, cL]; omega⟩
  rintro⟨ρ, Hx⟩ ⟨hHx, x, y, h5, h6, dx, dy, vx, vy, lx, ly⟩
  simp only at hHx h5 h6
  rw[hHx]
  clear hHx Hx
  rw[<- vx, <- vy]at hK
  have fin:∀ z:Int, z = ju (bO x) (bO y) -> az Tryd.prog G0 H K (ab z) H2 := fun z hz => by
    rw[hz]
    exact az.cC bz hcl ov2 (.lit _) hK
  have c1:bO x < bO y -> ju (bO x) (bO y) = -1 := fun h => by unfold ju; rw[QN h]
  have c2:bO y < bO x -> ju (bO x) (bO y) = 1 := fun h => by unfold ju; rw[QQ (by omega), QQ (by omega)]
  have xl := gS x
  have yl := gS y
  by_cases hl:(x.length:Int) = y.length
  rotate_left
  · by_cases hlt:(x.length:Int) < y.length
    · refine W.vs ?_
      simp (config := { maxSteps := 1000000 }) only[go_sem, h5, h6, ag, xl, yl, hl, hlt, aa]
      exact fin _ (c1 (BR dx dy (by omega))).symm
    · refine W.vs ?_
      simp (config := { maxSteps := 1000000 }) only[go_sem, h5, h6, ag, xl, yl, hl, hlt, aa]
      exact fin _ (c2 (BR dy dx (by omega))).symm
  have wl := QL ((x.length:Int) - 1) (by omega)
  refine W.sq ?_
  simp (config := { maxSteps := 1000000 }) only[go_sem, h5, h6, ag, xl, yl, hl, aa]
  refine W.sq ?_
  simp (config := { maxSteps := 1000000 }) only[go_sem, h5, ag, xl, wl, aa]
  refine W.env fun F hF => ?_
  have m5:F 5 = ag (aE x) := by rw[hF]; simp (config := { maxSteps := 1000000 }) only[go_sem, h5, aa]
  have m6:F 6 = ag (aE y) := by rw[hF]; simp (config := { maxSteps := 1000000 }) only[go_sem, h6, aa]
  have m10:F 10 = ab ((x.length:Int) - 1) := by rw[hF]; simp (config := { maxSteps := 1000000 }) only[go_sem, aa]
  clear hF
  have xg:∀ i, i < x.length -> (ints (aE x))[i]? = some (.lit (.int .i64 ((x.getD i 0:Nat):Int))) := fun i h => by rw[fC, nZ (jA h)]; rfl
  have yg:∀ i, i < x.length -> (ints (aE y))[i]? = some (.lit (.int .i64 ((y.getD i 0:Nat):Int))) := fun i h => by rw[fC, nZ (jA (by omega))]; rfl
  have xi:(ints (aE x)).length = x.length := by rw[aX, xl]
  have yi:(ints (aE y)).length = y.length := by rw[aX, yl]
  refine W.aR 4835702125537012091978768 (by kernel_rfl) (fun ρ Hx => Hx = H2 /\ ∃ k:Nat, ρ 10 = ab ((k:Int) - 1) /\ k <= x.length /\ ∀ j, k <= j -> j < x.length -> x.getD j 0 = y.getD j 0) (fun ρ Hx => (iv (ρ 10) + 1).toNat) ?_ ?_
  · exact⟨rfl, x.length, m10, Nat.le_refl _, fun j h1 h2 => by omega⟩
  rintro ρk Hk ⟨hHk, k, hk10, hk, heq⟩
  rw[hHk]
  refine W.env fun J hJ => ?_
  have j5:J 5 = ag (aE x) := by rw[hJ]; simp (config := { maxSteps := 1000000 }) only[go_sem, m5, aa]
  have j6:J 6 = ag (aE y) := by rw[hJ]; simp (config := { maxSteps := 1000000 }) only[go_sem, m6, aa]
  have j10:J 10 = ab ((k:Int) - 1) := by rw[hJ]; simp (config := { maxSteps := 1000000 }) only[go_sem, hk10, aa]
  clear hJ
  by_cases hk0:(k:Int) - 1 >= 0
  rotate_left
  · refine W.vs ?_
    simp (config := { maxSteps := 1000000 }) only[go_sem, j10, hk0, aa]
    refine W.vs ?_
    simp (config := { maxSteps := 1000000 }) only[go_sem, aa]
    have:x = y := by
      apply Q9
      intro j
      rcases Q3 j x.length with h | h
      · rw[jA h, jA (by omega), heq j (by omega) h]
      · rw[QR h, QR (by omega)]
    exact fin 0 (by rw[this]; unfold ju; rw[QQ (Sv _), QN rfl])
  obtain⟨i, rfl⟩:∃ i, k = i + 1 := ⟨k - 1, by omega⟩
  have ei:((i + 1:Nat):Int) - 1 = (i:Int) := by omega
  rw[ei]at j10 hk0 hk10
  have il:i < x.length := by omega
  have bx:(i:Int) < x.length := by omega
  have by1:(i:Int) < y.length := by omega
  have gx := xg i il
  have gy := yg i il
  have gxn := aM gx
  have gyn := aM gy
  have wi := QL ((i:Int) - 1) (by omega)
  refine W.sq ?_
  simp (config := { maxSteps := 1000000 }) only[go_sem, j10, hk0, aa]
  refine W.seq (W.block ?_)
  refine W.eH (fun s' => s'.H = H2 /\ s'.ρ 5 = ag (aE x) /\ s'.ρ 6 = ag (aE y) /\ s'.ρ 10 = ab i /\ s'.ρ 72 = .lit (.bool (!decide (x.getD i 0 = y.getD i 0)))) ?_ ?_
  · refine W.draw 8 [0, 0, 3, 7, 0, 0, 48, 112] Tryd.mixed (by kernel_rfl) (by kernel_rfl) ?_
    by_cases he:x.getD i 0 = y.getD i 0
    · have he':((x.getD i 0:Nat):Int) = ((y.getD i 0:Nat):Int) := by rw[he]
      simp (config := { maxSteps := 1000000 }) only[go_sem, j5, j6, j10, ag, xl, yl, gx, gy, gxn, gyn, bx, by1, xi, yi, he, he', aa]
    · have he':¬ ((x.getD i 0:Nat):Int) = ((y.getD i 0:Nat):Int) := by omega
      simp (config := { maxSteps := 1000000 }) only[go_sem, j5, j6, j10, ag, xl, yl, gx, gy, gxn, gyn, bx, by1, xi, yi, he, he', aa]
  rintro⟨ρc, Hc⟩ ⟨hHc, z5, z6, z10, zc⟩
  simp only at hHc z5 z6 z10 zc
  rw[hHc]
  clear hHc Hc
  by_cases he:x.getD i 0 = y.getD i 0
  · rw[Rk he]at zc
    refine W.cond (t := false) zc ?_
    refine W.vs ?_
    simp (config := { maxSteps := 1000000 }) only[go_sem, aa]
    refine W.vs ?_
    simp (config := { maxSteps := 1000000 }) only[go_sem, z10, wi, aa]
    refine⟨⟨i, rfl, by omega, fun j h1 h2 => ?_⟩, by rw[hk10]; simp only[ab, cL]; omega⟩
    by_cases hj:j = i
    · rw[hj]; exact he
    · exact heq j (by omega) h2
  rw[RJ he]at zc
  refine W.cond (t := true) zc ?_
  refine W.seq (W.eH (fun s' => s'.H = H2 /\ s'.ρ 81 = .lit (.bool (decide (x.getD i 0 < y.getD i 0)))) ?_ ?_)
  · refine W.draw 8 [0, 0, 3, 7, 0, 0, 48, 112] Tryd.mixed (by kernel_rfl) (by kernel_rfl) ?_
    by_cases hlt:x.getD i 0 < y.getD i 0
    · have hlt':((x.getD i 0:Nat):Int) < ((y.getD i 0:Nat):Int) := by omega
      simp (config := { maxSteps := 1000000 }) only[go_sem, z5, z6, z10, ag, xl, yl, gx, gy, gxn, gyn, bx, by1, xi, yi, hlt, hlt', aa]
    · have hlt':¬ ((x.getD i 0:Nat):Int) < ((y.getD i 0:Nat):Int) := by omega
      simp (config := { maxSteps := 1000000 }) only[go_sem, z5, z6, z10, ag, xl, yl, gx, gy, gxn, gyn, bx, by1, xi, yi, hlt, hlt', aa]
  rintro⟨ρd, Hd⟩ ⟨hHd, zd⟩
  simp only at hHd zd
  rw[hHd]
  clear hHd Hd
  by_cases hlt:x.getD i 0 < y.getD i 0
  · rw[Rk hlt]at zd
    refine W.cond (t := true) zd ?_
    refine W.vs ?_
    simp (config := { maxSteps := 1000000 }) only[go_sem, aa]
    exact fin _ (c1 (BS (by omega) dx.rng dy.rng i il (fun j h1 h2 => heq j (by omega) h2) hlt)).symm
  · rw[RJ hlt]at zd
    refine W.cond (t := false) zd ?_
    refine W.vs ?_
    simp (config := { maxSteps := 1000000 }) only[go_sem, aa]
    refine W.vs ?_
    simp (config := { maxSteps := 1000000 }) only[go_sem, aa]
    exact fin _ (c2 (BS (by omega) dy.rng dx.rng i (by omega) (fun j h1 h2 => (heq j (by omega) (by omega)).symm) (by omega))).symm
theorem N4:(List.range 7).all (fun T => (List.range 7).all fun a => (List.range 7).all fun b => T == 0 || a == 0 || decide (T < a + b) || decide ((60 / T * a - 1) ^ a * (60 / T * b + 1) ^ b <= (60 / T * a) ^ a * (60 / T * b) ^ b)) = true := by kernel_rfl
theorem N5 {T a b:Nat}(hT:1 <= T)(h6:T <= 6)(ha:1 <= a)(hab:a + b <= T):(60 / T * a - 1) ^ a * (60 / T * b + 1) ^ b <= (60 / T * a) ^ a * (60 / T * b) ^ b := by
  have h := N4
  have h1 := Rd.1 h T (QW.2 (by omega))
  have h2 := Rd.1 h1 a (QW.2 (by omega))
  have h3 := Rd.1 h2 b (QW.2 (by omega))
  simp only[RE, beq_iff_eq, decide_eq_true_eq]at h3
  omega
theorem w6 {c s:List Int}(h0:0 < c.sum)(hd:c.sum ∣ 60)(h:gu 0 60 c s){k:Nat}(hk:k < c.length):s.getD k 0 = 60 / c.sum * c.getD k 0 := by
  obtain⟨M, hM, rfl⟩ := h
  have hE:ew c = c := by unfold ew; rw[QN h0]
  have hT:cY c = c.sum := by unfold cY; rw[QN h0]
  have hlen:0 < c.length := by omega
  obtain⟨t, ht⟩ := hd
  have hr:∀ i, cq 60 c i = 0 := fun i => by
    unfold cq
    rw[hE, hT, ht, TB]
    exact Int.mul_emod_right _ _
  have hl:gi 60 c = 0 := by
    have h1 := Cz (sp := 60) hlen
    have h2:((List.range c.length).map (cq 60 c)).sum = 0 := by
      have:(List.range c.length).map (cq 60 c) = (List.range c.length).map fun _ => (0:Int) := Rm fun i _ => hr i
      rw[this, tJ]; simp
    rw[h2, hT]at h1
    rcases Int.mul_eq_zero.1 h1 with h | h <;> omega
  have hMk:M k = false := by
    cases hMk:M k
    · rfl
    · exfalso
      have:0 < (List.range c.length).countP M := Uj.2 ⟨k, QW.2 hk, hMk⟩
      rw[hM.count, hl]at this
      exact absurd this (by decide)
  rw[aH (qp hk), hMk]
  unfold partAt
  rw[hE, hT, ht, TW _ (by omega), TB, TW _ (by omega)]
  simp
theorem N6 (a b:List Nat):ba (a ++ b) = ba a * ba b := by
  induction a with
  | nil => show ba b = 1 * ba b; rw[Ud]
  | cons x a ih => show x * ba (a ++ b) = x * ba a * ba b; rw[ih, Rx]
theorem N7:∀ {l:List Nat} {v w:Nat} (y:Nat), l[v]? = some w -> ba (l.set v y) * w = ba l * y := by
  intro l
  induction l with
  | nil => intro v w y h; simp at h
  | cons x l ih =>
    intro v w y h
    cases v with
    | zero =>
      simp only[List.getElem?_cons_zero, Option.some.injEq]at h
      subst h
      rw[List.set_cons_zero]
      show y * ba l * x = x * ba l * y
      rw[Sd y, Sd x, Rx, Rx, Sd y]
    | succ v =>
      have := ih (v := v) (w := w) y (by simpa using h)
      rw[List.set_cons_succ]
      show x * ba (l.set v y) * w = x * ba l * y
      rw[Rx, this, Rx]
theorem N8 {l:List Nat}(h:∀ w ∈ l, 0 < w):0 < ba l := by
  induction l with
  | nil => exact Nat.one_pos
  | cons x l ih => exact Tj (h x (by simp)) (ih fun w hw => h w (by simp [hw]))
theorem N9 {α : Type} {p q : α → Bool} {w w' : α → Nat} {A A' B B' : Nat} (hp : ∀ r, p r = true → w r = A ∧ w' r = A') (hq : ∀ r, p r = false → q r = true → w r = B ∧ w' r = B') (hn : ∀ r, p r = false → q r = false → w' r = w r) :
    ∀ xs:List α, ba (xs.map w') * (A ^ xs.countP p * B ^ xs.countP fun r => !p r && q r) = ba (xs.map w) * (A' ^ xs.countP p * B' ^ xs.countP fun r => !p r && q r) := by
  intro xs
  induction xs with
  | nil => rfl
  | cons r xs ih =>
    rw[List.map_cons, List.map_cons, Rh, Rh]
    have e1:ba (w' r :: xs.map w') = w' r * ba (xs.map w') := rfl
    have e2:ba (w r :: xs.map w) = w r * ba (xs.map w) := rfl
    rw[e1, e2]
    generalize ba (xs.map w') = X' at *
    generalize ba (xs.map w) = X at *
    generalize xs.countP p = m at *
    generalize (xs.countP fun r => !p r && q r) = n at *
    cases h1:p r
    · cases h2:q r
      · rw[hn r h1 h2]
        simp only[h1, h2, Bool.not_false, TX, Bool.false_eq_true, if_false, Nat.add_zero]
        rw[Rx, ih, Rx]
      · obtain⟨a, b⟩ := hq r h1 h2
        simp only[h1, h2, a, b, Bool.not_false, TX, Bool.false_eq_true, if_false, if_true, Nat.add_zero, Ta]
        calc B' * X' * (A ^ m * (B ^ n * B)) = (X' * (A ^ m * B ^ n)) * (B' * B) := by simp only[Rx, Sd, Sp]
          _ = (X * (A' ^ m * B' ^ n)) * (B' * B) := by rw[ih]
          _ = B * X * (A' ^ m * (B' ^ n * B')) := by simp only[Rx, Sd, Sp]
    · obtain⟨a, b⟩ := hp r h1
      simp only[h1, a, b, Bool.not_true, Bool.false_and, Bool.false_eq_true, if_false, if_true, Nat.add_zero, Ta]
      calc A' * X' * (A ^ m * A * B ^ n) = (X' * (A ^ m * B ^ n)) * (A' * A) := by simp only[Rx, Sd, Sp]
        _ = (X * (A' ^ m * B' ^ n)) * (A' * A) := by rw[ih]
        _ = A * X * (A' ^ m * A' * B' ^ n) := by simp only[Rx, Sd, Sp]
def dn (row:List Int)(a b:Nat):List Int := (row.set a (row.getD a 0 - 1)).set b ((row.set a (row.getD a 0 - 1)).getD b 0 + 1)
theorem tv (row:List Int)(a b:Nat):(dn row a b).length = row.length := by simp [dn]
theorem tw (l:List Int)(i k:Nat)(y:Int)(hi:i < l.length):(l.set i y).getD k 0 = if i = k then y else l.getD k 0 := by
  rw[QM, Rg]
  by_cases h:i = k
  · rw[QN h, QN hi, QN h]; rfl
  · rw[QQ h, QQ h, <- QM]
theorem tx {row:List Int}{a b:Nat}(ha:a < row.length)(hb:b < row.length)(hab:a ≠ b)(k:Nat):(dn row a b).getD k 0 = if k = a then row.getD a 0 - 1 else if k = b then row.getD b 0 + 1 else row.getD k 0 := by
  unfold dn
  rw[tw _ _ _ _ (by rw[Q8]; exact hb), tw _ _ _ _ ha, tw _ _ _ _ ha, QQ hab]
  by_cases h1:b = k
  · rw[QN h1, QQ (show ¬ k = a by omega), QN h1.symm]
  · rw[QQ h1]
    by_cases h2:a = k
    · rw[QN h2, QN h2.symm]
    · rw[QQ h2, QQ (show ¬ k = a by omega), QQ (show ¬ k = b by omega)]
theorem BZ {row:List Int}{a:Nat}(ha:a < row.length):dn row a a = row := by
  refine Q9 fun k => ?_
  unfold dn
  rw[tw _ _ _ _ ha, QN rfl, Rg, Q8]
  by_cases h:a = k
  · subst h
    rw[QN rfl, QN ha, QM, QK ha]
    simp
  · rw[QQ h, Rg, QQ h]
def lE (x:NodeP)(j a b:Nat):NodeP := ⟨x.card, x.parents, x.rows.set j (dn (x.rows.getD j []) a b)⟩
def cf (ns:List NodeP)(v:Nat)(x:NodeP)(j a b:Nat):List NodeP := ns.set v (lE x j a b)
theorem qa (ns:List NodeP)(v:Nat)(x:NodeP)(j a b:Nat):(cf ns v x j a b).length = ns.length := by simp [cf]
theorem qc {ns:List NodeP}{v:Nat}{x:NodeP}(hx:ns[v]? = some x)(j a b u:Nat):(cf ns v x j a b)[u]? = if v = u then some (lE x j a b) else ns[u]? := by
  unfold cf
  rw[Rg]
  by_cases h:v = u
  · rw[QN h, QN h, QN (get_lt hx)]
  · rw[QQ h, QQ h]
theorem qd {ns:List NodeP}{v:Nat}{x:NodeP}(hx:ns[v]? = some x)(j a b:Nat):aA (cf ns v x j a b) = aA ns := by
  refine Q9 fun u => ?_
  unfold aA
  rw[List.getElem?_map, List.getElem?_map, qc hx]
  by_cases h:v = u
  · subst h; rw[QN rfl, hx]; rfl
  · rw[QQ h]
theorem Oa {ns:List NodeP}{v:Nat}{x:NodeP}(hx:ns[v]? = some x)(j a b:Nat):aW (cf ns v x j a b) = aW ns := by
  refine Q9 fun u => ?_
  unfold aW
  rw[List.getElem?_map, List.getElem?_map, qc hx]
  by_cases h:v = u
  · subst h; rw[QN rfl, hx]; rfl
  · rw[QQ h]
theorem B0:∀ {l:List Int} {a b:Nat} {x y:Int}, (∀ z ∈ l, 0 <= z) -> a ≠ b -> l[a]? = some x -> l[b]? = some y -> x + y <= l.sum := by
  intro l
  induction l with
  | nil => intro a b x y _ _ h; simp at h
  | cons c l ih =>
    intro a b x y hn hab ha hb
    have hc := hn c (by simp)
    have hl:∀ z ∈ l, 0 <= z := fun z hz => hn z (by simp [hz])
    rw[RA]
    cases a with
    | zero =>
      cases b with
      | zero => exact absurd rfl hab
      | succ b =>
        simp only[List.getElem?_cons_zero, Option.some.injEq]at ha
        have := oE hl y (an (by simpa using hb))
        omega
    | succ a =>
      cases b with
      | zero =>
        simp only[List.getElem?_cons_zero, Option.some.injEq]at hb
        have := oE hl x (an (by simpa using ha))
        omega
      | succ b =>
        have := ih hl (show a ≠ b by omega) (by simpa using ha) (by simpa using hb)
        omega
theorem B1:∀ {l:List Int} {a:Nat} (y:Int), a < l.length -> (l.set a y).sum = l.sum - l.getD a 0 + y := by
  intro l
  induction l with
  | nil => intro a y h; simp at h
  | cons c l ih =>
    intro a y h
    cases a with
    | zero => simp; omega
    | succ a =>
      have := ih (a := a) y (by simpa using h)
      rw[List.set_cons_succ, RA, this, RA, RP]
      omega
theorem Ob {ns:List NodeP}(h:NetOk 60 ns){v:Nat}{x:NodeP}(hx:ns[v]? = some x){j:Nat}{row:List Int}(hrow:x.rows[j]? = some row){a b:Nat}(ha:a < row.length)(hb:b < row.length)(h1:row.getD a 0 ≠ 0):NetOk 60 (cf ns v x j a b) := by
  have hxm := an hx
  have hro := (h.rows x hxm).2 row (an hrow)
  have hd:x.rows.getD j [] = row := aH hrow
  have get:∀ y ∈ cf ns v x j a b, y = lE x j a b \/ y ∈ ns := fun y hy => by
    unfold cf at hy
    rcases Ru hy with h | h
    · exact .inr h
    · exact .inl h
  have hbr:jC 60 x.card (dn row a b) := by
    by_cases hab:a = b
    · subst hab; rw[BZ ha]; exact hro
    · obtain⟨r1, r2, r3⟩ := hro
      have hga:row[a]? = some (row.getD a 0) := by rw[QM, QK ha]; rfl
      have hgb:row[b]? = some (row.getD b 0) := by rw[QM, QK hb]; rfl
      have s2 := B0 (fun z hz => (r2 z hz).1) hab hga hgb
      have na := (r2 _ (an hga)).1
      refine⟨by rw[tv]; exact r1, fun w hw => ?_, ?_⟩
      · obtain⟨k, hk⟩ := Q4.1 hw
        have hkl := get_lt hk
        rw[tv]at hkl
        have e := tx ha hb hab k
        rw[aH hk]at e
        have hgk:row[k]? = some (row.getD k 0) := by rw[QM, QK hkl]; rfl
        have := r2 _ (an hgk)
        have := r2 _ (an hga)
        have := r2 _ (an hgb)
        split at e
        · omega
        · split at e <;> omega
      · unfold dn
        rw[B1 _ (by rw[Q8]; exact hb), B1 _ ha]
        omega
  refine⟨h.g1, by rw[qa]; exact h.n1, fun y hy => ?_, by rw[qd hx]; exact h.size, by rw[Oa hx]; exact h.acyc, fun y hy => ?_⟩
  · rw[qa]
    rcases get y hy with rfl | hy
    · exact h.node x hxm
    · exact h.node y hy
  · unfold fK aO
    rw[qd hx]
    rcases get y hy with rfl | hy
    · refine⟨by show ((x.rows.set j _).length:Int) = _; rw[Q8]; exact(h.rows x hxm).1, fun r hr => ?_⟩
      rcases Ru hr with hr | hr
      · exact(h.rows x hxm).2 r hr
      · rw[hr, hd]; exact hbr
    · exact h.rows y hy
theorem range_one (base z:Int):∀ m:Nat, ((List.range m).map fun (k:Nat) => if some z = some (base + (k:Int)) then (1:Int) else 0).sum = if base <= z /\ z < base + m then 1 else 0 := by
  intro m
  induction m with
  | zero => rw[QQ (show ¬ (base <= z /\ z < base + ((0:Nat):Int)) by omega)]; rfl
  | succ m ih =>
    rw[Sr, RN, List.sum_append_int, ih, List.map_singleton, List.sum_singleton]
    by_cases h1:z = base + m
    · rw[QQ (show ¬ (base <= z /\ z < base + (m:Int)) by omega), QN (show some z = some (base + (m:Int)) by rw[h1]), QN (show base <= z /\ z < base + ((m + 1:Nat):Int) by omega)]; rfl
    · rw[QQ (show ¬ some z = some (base + (m:Int)) by rw[Option.some.injEq]; exact h1)]
      by_cases h2:base <= z /\ z < base + m
      · rw[QN h2, QN (show base <= z /\ z < base + ((m + 1:Nat):Int) by omega)]; rfl
      · rw[QQ h2, QQ (show ¬ (base <= z /\ z < base + ((m + 1:Nat):Int)) by omega)]; rfl
theorem B2 (cs P:List Int)(v:Nat)(base:Int)(m:Nat):∀ xs:List (List Int), ((List.range m).map fun (k:Nat) => (dB cs P v xs (base + k):Int)).sum <= xs.length := by
  intro xs
  induction xs with
  | nil =>
    have:(List.range m).map (fun (k:Nat) => (dB cs P v [] (base + k):Int)) = (List.range m).map fun _ => (0:Int) := rfl
    rw[this, tJ]; simp
  | cons r xs ih =>
    have e:(List.range m).map (fun (k:Nat) => (dB cs P v (r :: xs) (base + k):Int)) = (List.range m).map fun (k:Nat) => (dB cs P v xs (base + k):Int) + (if fZ cs P v r = some (base + (k:Int)) then 1 else 0) := Rm fun k _ => by
      unfold dB
      rw[Rh]
      by_cases h:fZ cs P v r = some (base + (k:Int))
      · rw[QN h, QN (by simpa using h)]; push_cast; rfl
      · rw[QQ h, QQ (by simpa using h)]; push_cast; rfl
    rw[e, qm, List.length_cons]
    have:((List.range m).map fun (k:Nat) => if fZ cs P v r = some (base + (k:Int)) then (1:Int) else 0).sum <= 1 := by
      cases hk:fZ cs P v r with
      | none =>
        have e0:((List.range m).map fun (k:Nat) => if (none:Option Int) = some (base + (k:Int)) then (1:Int) else 0) = (List.range m).map fun _ => (0:Int) := Rm fun k _ => by rw[QQ (by simp)]
        rw[e0, tJ]; simp
      | some z => rw[range_one]; split <;> omega
    push_cast
    omega
theorem B3 {cs P:List Int}{v:Nat}{r:List Int}(hP:∀ p ∈ P, 0 <= p /\ p < cs.length)(hv:v < cs.length)(hr:dq cs r):fZ cs P v r = some (de cs P r * cs.getD v 0 + r.getD v 0) := by
  have hg:∀ k, k < cs.length -> ¬ r.getD k 0 < 0 := fun k hk => by
    obtain⟨c, hc⟩ := get_of_lt hk
    obtain⟨a, ha⟩ := get_of_lt (l := r) (i := k) (by rw[hr.1]; exact hk)
    have := hr.2 k c a hc ha
    rw[aH ha]; omega
  unfold fZ
  rw[QN ⟨hg v hv, Rk fun p hp => hg p.toNat (by have := hP p hp; omega)⟩]
def gh (ns:List NodeP)(x:NodeP)(v j a:Nat)(r:List Int):Bool := decide ((dD (aO ns x) (aI r x.parents)).toNat = j /\ (r.getD v 0).toNat = a)
theorem B4 {g : Int} {ns : List NodeP} (h : NetOk g ns) {v : Nat} {x : NodeP} (hx : ns[v]? = some x) {xs : List (List Int)} (hr : ∀ r ∈ xs, dq (aA ns) r) {j a : Nat} (ha : (a : Int) < x.card) :
    xs.countP (gh ns x v j a) = dB (aA ns) x.parents v xs ((j:Int) * x.card + a) := by
  have hxm := an hx
  unfold dB
  refine SY fun r hrm => ?_
  have hrf := hr r hrm
  have hin:fJ x.parents ns.length := fun q hq => by have := (h.node x hxm).2.2 q hq; omega
  have hkey := B3 (cs := aA ns) (P := x.parents) (v := v) (fun p hp => by rw[dE]; exact(h.node x hxm).2.2 p hp) (by rw[dE]; exact get_lt hx) hrf
  have hcd:(aA ns).getD v 0 = x.card := aH (da hx)
  obtain⟨y, hy⟩ := get_of_lt (l := r) (i := v) (by rw[hrf.1, dE]; exact get_lt hx)
  have hyc := hrf.2 v x.card y (da hx) hy
  have hI := (ot (xN hin hrf)).1
  rw[hkey, hcd, aH hy]
  unfold gh
  rw[aH hy, Si, Si, Option.some.injEq]
  have e:de (aA ns) x.parents r = dD (aO ns x) (aI r x.parents) := rfl
  rw[e]
  generalize dD (aO ns x) (aI r x.parents) = i at *
  constructor
  · rintro⟨h1, h2⟩
    rw[show i = j by omega, show y = a by omega]
  · intro heq
    have h1:(i * x.card + y) / x.card = i := by rw[Int.add_comm, T3 _ _ (by omega), SW hyc.1 hyc.2]; omega
    have h2:((j:Int) * x.card + a) / x.card = j := by rw[Int.add_comm, T3 _ _ (by omega), SW (by omega) ha]; omega
    have h3:i = j := by rw[<- h1, heq, h2]
    rw[h3]at heq
    omega
def oh (ns:List NodeP)(xs:List (List Int)):List Nat := (bg ns xs).map Int.toNat
def lF (ns:List NodeP)(r:List Int):Nat := ba ((df ns r).map Int.toNat)
theorem B5 (ns:List NodeP)(xs:List (List Int)):ba (oh ns xs) = ba (xs.map (lF ns)) := by
  induction xs with
  | nil => rfl
  | cons r xs ih =>
    have e:oh ns (r :: xs) = (df ns r).map Int.toNat ++ oh ns xs := by
      unfold oh
      rw[show bg ns (r :: xs) = df ns r ++ bg ns xs from rfl, RN]
    rw[e, N6, ih]; rfl
theorem Oc {ns:List NodeP}{v:Nat}{x:NodeP}(hx:ns[v]? = some x)(j a b:Nat)(r:List Int)(u:Nat)(hu:u ≠ v):cA (cf ns v x j a b) r u = cA ns r u := by
  unfold cA
  rw[qc hx, QQ (fun e => hu e.symm)]
  cases ns[u]? with
  | none => rfl
  | some y => simp only; unfold oy aO; rw[qd hx]
theorem xd {ns:List NodeP}{v:Nat}{x:NodeP}(hx:ns[v]? = some x)(j a b:Nat)(r:List Int):cA (cf ns v x j a b) r v = ((x.rows.set j (dn (x.rows.getD j []) a b)).getD (dD (aO ns x) (aI r x.parents)).toNat []).getD (r.getD v 0).toNat 0 := by
  unfold cA
  rw[qc hx, QN rfl]
  simp only
  unfold oy aO
  rw[qd hx]
  rfl
theorem om {ns:List NodeP}{v:Nat}{x:NodeP}(hx:ns[v]? = some x)(r:List Int):cA ns r v = (x.rows.getD (dD (aO ns x) (aI r x.parents)).toNat []).getD (r.getD v 0).toNat 0 := by
  unfold cA
  rw[hx]
  rfl
theorem Od {ns:List NodeP}{v:Nat}{x:NodeP}(hx:ns[v]? = some x)(j a b:Nat)(r:List Int):df (cf ns v x j a b) r = (df ns r).set v (cA (cf ns v x j a b) r v) := by
  refine Q9 fun u => ?_
  rw[Rg, oz]
  rcases Q3 u ns.length with h | h
  · rw[mC (by rw[qa]; exact h)]
    by_cases e:v = u
    · subst e; rw[QN rfl, QN h]
    · rw[QQ e, mC h, Oc hx j a b r u (fun e2 => e e2.symm)]
  · rw[QR (by rw[oz, qa]; exact h), QQ (by have := get_lt hx; omega), QR (by rw[oz]; exact h)]
theorem Oe {ns:List NodeP}{v:Nat}{x:NodeP}(hx:ns[v]? = some x)(j a b:Nat)(r:List Int):lF (cf ns v x j a b) r * (cA ns r v).toNat = lF ns r * (cA (cf ns v x j a b) r v).toNat := by
  unfold lF
  rw[Od hx, Tf]
  exact N7 _ (by rw[List.getElem?_map, mC (get_lt hx)]; rfl)
theorem Of {α:Type}{f f' w w':α -> Nat}(h:∀ r, f' r * w r = f r * w' r)(xs:List α):ba (xs.map f') * ba (xs.map w) = ba (xs.map f) * ba (xs.map w') := by
  induction xs with
  | nil => rfl
  | cons r xs ih =>
    have e1:∀ g:α -> Nat, ba ((r :: xs).map g) = g r * ba (xs.map g) := fun g => rfl
    rw[e1, e1, e1, e1]
    calc f' r * ba (xs.map f') * (w r * ba (xs.map w)) = (f' r * w r) * (ba (xs.map f') * ba (xs.map w)) := by simp only[Rx, Sd, Sp]
      _ = (f r * w' r) * (ba (xs.map f) * ba (xs.map w')) := by rw[h, ih]
      _ = f r * ba (xs.map f) * (w' r * ba (xs.map w')) := by simp only[Rx, Sd, Sp]
theorem Og {ns : List NodeP} (h : NetOk 60 ns) {v : Nat} {x : NodeP} (hx : ns[v]? = some x) {j : Nat} {row : List Int} (hrow : x.rows[j]? = some row) {xs : List (List Int)} (h6 : xs.length ≤ 6) (hr : ∀ r ∈ xs, dq (aA ns) r)
    (hsh:gu 0 60 (cR (aA ns) x.parents v xs 0 j) row) {a b:Nat} (ha:a < row.length) (hb:b < row.length) (h1:row.getD a 0 ≠ 0) (hw:∀ w ∈ bg ns xs, w ≠ 0):
    ba (oh (cf ns v x j a b) xs) <= ba (oh ns xs) := by
  have hxm := an hx
  have hd:x.rows.getD j [] = row := aH hrow
  have hro := (h.rows x hxm).2 row (an hrow)
  have hcd:(aA ns).getD v 0 = x.card := aH (da hx)
  have hxc := (h.node x hxm).1
  by_cases hab:a = b
  · subst hab
    have e:cf ns v x j a a = ns := by
      refine Q9 fun u => ?_
      rw[qc hx]
      by_cases e:v = u
      · subst e
        rw[QN rfl, hx]
        unfold lE
        rw[hd, BZ ha]
        have:x.rows.set j row = x.rows := by
          refine Q9 fun k => ?_
          rw[Rg]
          by_cases e2:j = k
          · subst e2; rw[QN rfl, QN (get_lt hrow), hrow]
          · rw[QQ e2]
        rw[this]
      · rw[QQ e]
    rw[e]
    exact Nat.le_refl _
  rw[B5, B5]
  obtain⟨c, hc⟩:∃ c, c = cR (aA ns) x.parents v xs 0 j := ⟨_, rfl⟩
  rw[<- hc]at hsh
  have hcl:c.length = row.length := by rw[hc, oe, hcd]; have := hro.1; omega
  obtain⟨m, hm⟩:∃ m, m = xs.countP (gh ns x v j a) := ⟨_, rfl⟩
  obtain⟨n, hn⟩:∃ n, n = xs.countP (gh ns x v j b) := ⟨_, rfl⟩
  have hac:(a:Int) < x.card := by have := hro.1; omega
  have hbc:(b:Int) < x.card := by have := hro.1; omega
  have hma := B4 h hx hr (j := j) hac
  have hnb := B4 h hx hr (j := j) hbc
  rw[<- hm]at hma
  rw[<- hn]at hnb
  have hca:c[a]? = some (m:Int) := by rw[hc, tq (by rw[hcd]; omega), hcd, <- hma, Ti]
  have hcb:c[b]? = some (n:Int) := by rw[hc, tq (by rw[hcd]; omega), hcd, <- hnb, Ti]
  have hnn:∀ z ∈ c, 0 <= z := fun z hz => by
    rw[hc]at hz
    unfold cR at hz
    obtain⟨k, _, rfl⟩ := Q6.1 hz
    omega
  have hT6:c.sum <= xs.length := by
    rw[hc]
    unfold cR
    have := B2 (aA ns) x.parents v ((j:Int) * (aA ns).getD v 0) ((aA ns).getD v 0).toNat xs
    simpa only[Ti] using this
  have hT2 := B0 hnn hab hca hcb
  -- the products over one place
  have hn':xs.countP (fun r => !gh ns x v j a r && gh ns x v j b r) = n := by
    rw[hn]
    refine SY fun r _ => ?_
    unfold gh
    simp only[Q7, S1, decide_eq_true_eq, RH]
    constructor
    · exact fun hh => hh.2
    · exact fun hh => ⟨fun h2 => hab (by rw[<- h2.2, hh.2]), hh⟩
  have e3:(x.rows.set j (dn row a b)).getD j [] = dn row a b := by
    rw[QM, Rg, QN rfl, QN (get_lt hrow)]; rfl
  have hwa:∀ r, gh ns x v j a r = true -> (cA ns r v).toNat = (row.getD a 0).toNat /\ (cA (cf ns v x j a b) r v).toNat = (row.getD a 0 - 1).toNat := fun r hh => by
    obtain⟨e1, e2⟩ := of_decide_eq_true hh
    rw[om hx, xd hx, e1, e2, hd]
    refine⟨rfl, ?_⟩
    rw[e3, tx ha hb hab, QN rfl]
  have hwb:∀ r, gh ns x v j a r = false -> gh ns x v j b r = true -> (cA ns r v).toNat = (row.getD b 0).toNat /\ (cA (cf ns v x j a b) r v).toNat = (row.getD b 0 + 1).toNat := fun r _ hh => by
    obtain⟨e1, e2⟩ := of_decide_eq_true hh
    rw[om hx, xd hx, e1, e2, hd]
    refine⟨rfl, ?_⟩
    rw[e3, tx ha hb hab, QQ (fun e => hab e.symm), QN rfl]
  have hwo:∀ r, gh ns x v j a r = false -> gh ns x v j b r = false -> (cA (cf ns v x j a b) r v).toNat = (cA ns r v).toNat := fun r ha' hb' => by
    have q1 := of_decide_eq_false ha'
    have q2 := of_decide_eq_false hb'
    rw[om hx, xd hx]
    generalize (dD (aO ns x) (aI r x.parents)).toNat = i at *
    generalize (r.getD v 0).toNat = k at *
    congr 1
    by_cases e:j = i
    · subst e
      rw[hd, e3, tx ha hb hab, QQ (fun e => q1 ⟨rfl, e⟩), QQ (fun e => q2 ⟨rfl, e⟩)]
    · have e4 : (x.rows.set j (dn (x.rows.getD j []) a b)).getD i [] = x.rows.getD i [] := by
        rw[QM, Rg, QQ e, <- QM]
      rw[e4]
  have key := N9 (p := gh ns x v j a) (q := gh ns x v j b) (w := fun r => (cA ns r v).toNat) (w' := fun r => (cA (cf ns v x j a b) r v).toNat) hwa hwb hwo xs
  rw[hn', <- hm]at key
  have hpp := Of (f := lF ns) (f' := lF (cf ns v x j a b)) (w := fun r => (cA ns r v).toNat) (w' := fun r => (cA (cf ns v x j a b) r v).toNat) (fun r => Oe hx j a b r) xs
  have hW:0 < ba (xs.map fun r => (cA ns r v).toNat) := N8 fun w hwm => by
    obtain⟨r, hrm, rfl⟩ := Q6.1 hwm
    have hmem:cA ns r v ∈ bg ns xs := by
      unfold bg
      rw[R8]
      exact⟨df ns r, Q6.2 ⟨r, hrm, rfl⟩, an (mC (get_lt hx))⟩
    have h0 := hw _ hmem
    have hge:0 <= cA ns r v := by
      have hin:fJ x.parents ns.length := fun q hq => by have := (h.node x hxm).2.2 q hq; omega
      rw[om hx, QM, QM]
      cases hq:x.rows[(dD (aO ns x) (aI r x.parents)).toNat]? with
      | none => simp
      | some q =>
        simp only[Option.getD_some]
        cases hz:q[(r.getD v 0).toNat]? with
        | none => simp
        | some z => exact(((h.rows x hxm).2 q (an hq)).2.1 z (an hz)).1
    omega
  generalize ba (xs.map fun r => (cA ns r v).toNat) = W at *
  generalize ba (xs.map fun r => (cA (cf ns v x j a b) r v).toNat) = W' at *
  generalize ba (xs.map (lF ns)) = Q at *
  generalize ba (xs.map (lF (cf ns v x j a b))) = Q' at *
  have hWW:W' <= W := by
    by_cases hT:c.sum = 0
    · have hm0:m = 0 := by omega
      have hn0:n = 0 := by omega
      rw[hm0, hn0]at key
      simp only[Nat.pow_zero, Nat.mul_one]at key
      omega
    · have hT1:0 < c.sum := by omega
      obtain⟨T, hTT⟩:∃ T:Nat, c.sum = T := ⟨c.sum.toNat, by omega⟩
      have hdv:c.sum ∣ 60 := by
        have:T = 1 \/ T = 2 \/ T = 3 \/ T = 4 \/ T = 5 \/ T = 6 := by omega
        rw[hTT]
        rcases this with rfl | rfl | rfl | rfl | rfl | rfl <;> decide
      have ea := w6 hT1 hdv hsh (k := a) (by omega)
      have eb := w6 hT1 hdv hsh (k := b) (by omega)
      rw[aH hca, hTT]at ea
      rw[aH hcb, hTT]at eb
      have eA:(row.getD a 0).toNat = 60 / T * m := by rw[ea, show ((60:Int) / (T:Int) * (m:Int)) = ((60 / T * m:Nat):Int) by push_cast; rfl, Int.toNat_natCast]
      have eB:(row.getD b 0).toNat = 60 / T * n := by rw[eb, show ((60:Int) / (T:Int) * (n:Int)) = ((60 / T * n:Nat):Int) by push_cast; rfl, Int.toNat_natCast]
      have ra:0 <= row.getD a 0 := by rw[ea]; exact Sc (S7 (by omega) (by omega)) (by omega)
      have rb:0 <= row.getD b 0 := by rw[eb]; exact Sc (S7 (by omega) (by omega)) (by omega)
      have eA':(row.getD a 0 - 1).toNat = 60 / T * m - 1 := by omega
      have eB':(row.getD b 0 + 1).toNat = 60 / T * n + 1 := by omega
      have hm1:1 <= m := by
        rcases Sf m with h0 | h0
        · exfalso; rw[h0, Nat.mul_zero]at eA; omega
        · exact h0
      have t10:10 <= 60 / T := by rw[Nat.le_div_iff_mul_le (by omega)]; omega
      have hle := N5 (T := T) (a := m) (b := n) (by omega) (by omega) hm1 (by omega)
      rw[eA, eB, eA', eB']at key
      have hX:0 < (60 / T * m) ^ m * (60 / T * n) ^ n := by
        refine Tj (TM (Tj (by omega) (by omega))) ?_
        rcases Sf n with h0 | h0
        · rw[h0]; exact Nat.one_pos
        · exact TM (Tj (by omega) h0)
      generalize (60 / T * m) ^ m * (60 / T * n) ^ n = X at *
      generalize (60 / T * m - 1) ^ m * (60 / T * n + 1) ^ n = Y at *
      have h2:W * Y <= W * X := Ue _ hle
      exact TR (by omega:W' * X <= W * X) hX
  have h3:Q * W' <= Q * W := Ue _ hWW
  exact TR (by omega:Q' * W <= Q * W) hW
theorem Oh {cs:List Int}{xs:List (List Int)}{ps:List Nat}{ns:List NodeP}(hd:DataOk cs xs)(hg:dU ps cs.length)(h:dC cs xs ps 60 0 0 ps.length ns)(h6:xs.length <= 6)(hr:∀ r ∈ xs, dq cs r)(hok:NetOk 60 ns)(hcs:aA ns = cs):∀ w ∈ bg ns xs, w ≠ 0 := fun w hw => by
  unfold bg at hw
  obtain⟨l, hl, hwl⟩ := R8.1 hw
  obtain⟨r, hrm, rfl⟩ := Q6.1 hl
  unfold df at hwl
  obtain⟨v, hv, rfl⟩ := Q6.1 hwl
  have hv := QW.1 hv
  obtain⟨x, hx⟩ := get_of_lt hv
  have hxm := an hx
  have hrf := hr r hrm
  rw[<- hcs]at hrf
  have hxc := (hok.node x hxm).1
  have hin:fJ x.parents ns.length := fun q hq => by have := (hok.node x hxm).2.2 q hq; omega
  have hI := ot (xN hin hrf)
  have hrl := (hok.rows x hxm).1
  obtain⟨j, hj⟩ := Rf hI.1
  obtain⟨y, hy⟩ := get_of_lt (l := r) (i := v) (by rw[hrf.1, dE]; exact hv)
  have hyc := hrf.2 v x.card y (da hx) hy
  obtain⟨k, rfl⟩ := Rf hyc.1
  obtain⟨row, hrow⟩ := get_of_lt (l := x.rows) (i := j) (by omega)
  have hro := (hok.rows x hxm).2 row (an hrow)
  obtain⟨s, hs⟩ := get_of_lt (l := ps) (i := v) (by rw[<- h.1]; exact hv)
  obtain⟨a1, a2, _, a4⟩ := h.2 v s x hs hx
  have hsh := a4 j row hrow
  rw[<- a2, show cZ 60 0 (cR cs x.parents v xs 0 j) = 60 by unfold cZ; omega]at hsh
  obtain⟨c, hc⟩:∃ c, c = cR cs x.parents v xs 0 j := ⟨_, rfl⟩
  rw[<- hc]at hsh
  have hcd:cs.getD v 0 = x.card := a1.symm
  have hck:c[k]? = some (dB cs x.parents v xs ((j:Int) * x.card + k):Int) := by rw[hc, tq (by rw[hcd]; omega), hcd, Ti]
  have hcn:c.length = x.card.toNat := by rw[hc, oe, hcd]
  have hcl:v < cs.length := by rw[<- hcs, dE]; exact hv
  have hpos:0 < dB cs x.parents v xs ((j:Int) * x.card + k) := by
    unfold dB
    refine Uj.2 ⟨r, hrm, Rk ?_⟩
    rw[B3 (cs := cs) (P := x.parents) (v := v) (fun p hp => by rw[<- hcs, dE]; exact(hok.node x hxm).2.2 p hp) hcl (hr r hrm), hcd, aH hy]
    unfold de
    rw[<- hcs]
    show some (dD (aO ns x) (aI r x.parents) * x.card + k) = _
    rw[hj]
  have hnn:∀ z ∈ c, 0 <= z := fun z hz => by
    rw[hc]at hz
    unfold cR at hz
    obtain⟨k, _, rfl⟩ := Q6.1 hz
    omega
  have hT1 := oE hnn _ (an hck)
  have hT6:c.sum <= xs.length := by
    rw[hc]
    unfold cR
    have := B2 cs x.parents v ((j:Int) * cs.getD v 0) (cs.getD v 0).toNat xs
    simpa only[Ti] using this
  obtain⟨T, hTT⟩:∃ T:Nat, c.sum = T := ⟨c.sum.toNat, by omega⟩
  have hdv:c.sum ∣ 60 := by
    have:T = 1 \/ T = 2 \/ T = 3 \/ T = 4 \/ T = 5 \/ T = 6 := by omega
    rw[hTT]
    rcases this with rfl | rfl | rfl | rfl | rfl | rfl <;> decide
  have e := w6 (by omega) hdv hsh (k := k) (by omega)
  rw[aH hck, hTT]at e
  rw[om hx, aH hy, hj, Int.toNat_natCast, aH hrow]
  show row.getD ((k:Int)).toNat 0 ≠ 0
  rw[Int.toNat_natCast, e]
  have t10:10 <= (60:Int) / T := by
    have:T = 1 \/ T = 2 \/ T = 3 \/ T = 4 \/ T = 5 \/ T = 6 := by omega
    rcases this with rfl | rfl | rfl | rfl | rfl | rfl <;> decide
  have := Int.mul_pos (show 0 < (60:Int) / T by omega) (show 0 < ((dB cs x.parents v xs ((j:Int) * x.card + k):Nat):Int) by omega)
  omega
theorem B6 (g:Int){i:Nat}(hi:i < 18):∀ (ws e:List Int), (bA g e ws).getD i 0 = e.getD i 0 + (ws.map fun w => (fH w i:Int)).sum - ws.length * fH g i := by
  intro ws
  induction ws with
  | nil => intro e; simp [bA]
  | cons w ws ih =>
    intro e
    have e1:bA g e (w :: ws) = bA g (pX g e w) ws := rfl
    rw[e1, ih]
    unfold pX
    rw[aH (wE hi), aH (wE hi), List.map_cons, RA, List.length_cons]
    push_cast
    rw[Un]
    omega
theorem B7 {l:List Int}(h:∀ w ∈ l, 0 <= w)(i:Nat):((gf (l.map Int.toNat) i:Nat):Int) = (l.map fun w => (fH w i:Int)).sum := by
  induction l with
  | nil => rfl
  | cons w l ih =>
    have hw := h w (by simp)
    have := ih fun y hy => h y (by simp [hy])
    unfold gf at this ⊢
    rw[List.map_cons, List.map_cons, RA, List.map_cons, RA]
    push_cast
    rw[this, Ul hw]
theorem Oi {a b : List Int} (hl : a.length = b.length) (ha : ∀ w ∈ a, 1 ≤ w ∧ w ≤ 60) (hb : ∀ w ∈ b, 1 ≤ w ∧ w ≤ 60) (h : ba (a.map Int.toNat) ≤ ba (b.map Int.toNat)) :
    ju (bj (bQ (bA 60 bb a) (bA 60 bb b)) 18) (bj (bQ (bA 60 bb b) (bA 60 bb a)) 18) <= 0 := by
  have key:∀ i, i < 18 -> (bA 60 bb a).getD i 0 - (bA 60 bb b).getD i 0 = (gf (a.map Int.toNat) i:Int) - gf (b.map Int.toNat) i := fun i hi => by
    rw[B6 60 hi, B6 60 hi, B7 (fun w hw => by have := ha w hw; omega), B7 (fun w hw => by have := hb w hw; omega), hl]
    omega
  have rng:∀ l:List Int, (∀ w ∈ l, 1 <= w /\ w <= 60) -> ∀ w ∈ l.map Int.toNat, 1 <= w /\ w <= 60 := fun l hl w hw => by
    obtain⟨y, hy, rfl⟩ := Q6.1 hw
    have := hl y hy
    omega
  have p1:bj (bQ (bA 60 bb a) (bA 60 bb b)) 18 = bj (fun i => gf (a.map Int.toNat) i - gf (b.map Int.toNat) i) 18 := wZ 18 fun i hi => by
    unfold bQ
    rw[key i hi]; omega
  have p2:bj (bQ (bA 60 bb b) (bA 60 bb a)) 18 = bj (fun i => gf (b.map Int.toNat) i - gf (a.map Int.toNat) i) 18 := wZ 18 fun i hi => by
    have := key i hi
    unfold bQ
    omega
  have := N0 (e := gf (a.map Int.toNat)) (f := gf (b.map Int.toNat)) (by rw[BU (rng a ha), BU (rng b hb)]; exact h)
  rw[p1, p2]
  unfold ju
  split
  · decide
  · split
    · decide
    · omega
set_option maxHeartbeats 8000000 in
theorem Oj (g : Int) (ns : List NodeP) (m : Nat) (hm : m < 2 ^ 30) (hs : SmallN m ns) (A : Nat) (hA : A < ns.length) (H : AHeap) (K : ARes → AHeap → Prop)
    (hK:∀ (N gg:Nat) (pv rv:AVal) (ids:List Nat) (x:NodeP) (H':AHeap), Over H H' -> H.next <= N -> N < H'.next -> H'.get N = some (.arr gg 91 (dm ns A (ab x.card) pv rv)) -> ns[A]? = some x -> NodO H.next H' pv rv ids x -> pv.one = true -> rv.one = true -> K (.ret (.agg [ab g, .own N gg 0 (ns.length - 1) 3])) H'):
    ah Tryd.prog G0 29 [.agg (wB 11 0 0 0), dp g ns] H K := by
  refine ah.dP (n := 323) (rs := [.cell 4 61]) Tryd.func29 rfl rfl rfl (by decide) (by simp) ?_
  refine W.sq ?_
  simp (config := { maxSteps := 1000000 }) only[go_sem, wB, dp, ep, aa]
  obtain⟨Hb, hHb⟩:∃ Hb, Hb = ext H [.arr 0 74 [.lit (.int .u8 11), .lit (.int .u8 0), .lit (.int .u8 0), .lit (.int .i64 0)], .arr 0 61 [.lit (.int .i64 g), .vec ns.length (aK ns)], .arr 0 61 [.lit (.int .i64 0), .lit (.slice none 0 0)]] := ⟨_, rfl⟩
  have b0:Hb.get H.next = some (.arr 0 74 [.lit (.int .u8 11), .lit (.int .u8 0), .lit (.int .u8 0), .lit (.int .i64 0)]) := by rw[hHb]; exact ez ..
  have b1:Hb.get (H.next + 1) = some (.arr 0 61 [.lit (.int .i64 g), .vec ns.length (aK ns)]) := by rw[hHb]; exact bP H _ 1 (by simp)
  have b2:Hb.get (H.next + 2) = some (.arr 0 61 [.lit (.int .i64 0), .lit (.slice none 0 0)]) := by rw[hHb]; exact bP H _ 2 (by simp)
  have nb:Hb.next = H.next + 3 := by rw[hHb]; rfl
  have ob:Over H Hb := by rw[hHb]; exact .ext _ _
  rw[<- hHb]
  clear hHb
  have hsl := hs.len
  refine W.env fun E hE => ?_
  have e2:E 2 = .ptr H.next 0 0 := by rw[hE]; simp (config := { maxSteps := 1000000 }) only[go_sem, aa]
  have e3:E 3 = .ptr (H.next + 1) 0 0 := by rw[hE]; simp (config := { maxSteps := 1000000 }) only[go_sem, aa]
  have e4:E 4 = .ptr (H.next + 2) 0 0 := by rw[hE]; simp (config := { maxSteps := 1000000 }) only[go_sem, aa]
  clear hE
  refine W.sq ?_
  simp (config := { maxSteps := 1000000 }) only[go_sem, aa]
  refine W.sW (fun s' => s'.ρ 2 = .ptr H.next 0 0 /\ s'.ρ 3 = .ptr (H.next + 1) 0 0 /\ s'.ρ 4 = .ptr (H.next + 2) 0 0 /\ Hb.next <= s'.H.next /\ (∀ id, id < H.next + 3 -> s'.H.get id = Hb.get id) /\ AZ ns A (H.next + 3) ns.length s'.H (s'.ρ 5)) ?_ ?_
  rotate_left
  · rintro⟨ρ3, Hx⟩ ⟨m2, m3, m4, nx, hold, pv, rv, hO, pv1, rv1, hNA⟩
    simp only at m2 m3 m4 nx hold hO hNA
    obtain⟨nh, h5⟩:∃ nh, ρ3 5 = nh := ⟨_, rfl⟩
    rw[h5]at hO
    have l1 := aq ((hold _ (by omega)).trans b1)
    have nh1 := hO.one
    have nhc := hO.cells
    refine W.sq ?_
    simp (config := { maxSteps := 1000000 }) only[go_sem, m3, h5, l1, nh1, nhc, aa]
    obtain⟨Hs, hHs⟩:∃ Hs, Hs = Hx.upd (H.next + 1) (.arr 0 61 [.lit (.int .i64 g), nh]) := ⟨_, rfl⟩
    rw[<- hHs]
    have sn:Hs.next = Hx.next := by rw[hHs]; rfl
    have so:∀ id, id ≠ H.next + 1 -> Hs.get id = Hx.get id := fun id h => by rw[hHs, ao, QQ h]
    have g1:Hs.get (H.next + 1) = some (.arr 0 61 [.lit (.int .i64 g), nh]) := by rw[hHs, ao, QN rfl]
    have g2:Hs.get (H.next + 2) = _ := (so _ (by omega)).trans ((hold _ (by omega)).trans b2)
    have s1 := aq g1
    have s0:Hs.live H.next 0 = _ := aq ((so _ (by omega)).trans ((hold _ (by omega)).trans b0))
    have s2 := aq g2
    have sO:dK (H.next + 3) Hs 91 3 nh ns.length (dS ns A ns.length pv rv) := hO.keep (by omega) fun id _ h _ _ => so id (by omega)
    have sold:∀ id, id < H.next -> Hs.get id = H.get id := fun id h => by rw[so id (by omega), hold id (by omega)]; exact ob.old id h
    refine W.env fun E hE => ?_
    have t2:E 2 = .ptr H.next 0 0 := by rw[hE]; simp (config := { maxSteps := 1000000 }) only[go_sem, m2, aa]
    have t3:E 3 = .ptr (H.next + 1) 0 0 := by rw[hE]; simp (config := { maxSteps := 1000000 }) only[go_sem, m3, aa]
    have t4:E 4 = .ptr (H.next + 2) 0 0 := by rw[hE]; simp (config := { maxSteps := 1000000 }) only[go_sem, m4, aa]
    have t5:E 5 = nh := by rw[hE]; simp (config := { maxSteps := 1000000 }) only[go_sem, h5, aa]
    clear hE hHs l1 hO
    have hn1:0 < ns.length := by omega
    rcases sO with ⟨_, z2, _⟩ | ⟨id, gg, z1, z2, z3, z4, z5⟩
    · omega
    subst z3
    have sid := aq z5
    have hn0':¬ (ns.length:Int) = 0 := by omega
    refine W.sq ?_
    simp (config := { maxSteps := 1000000 }) only[go_sem, t5, sid, hn0', hn1, aa]
    obtain⟨x, hx, ids, hN0⟩ := hNA hA
    have hN:NodO (H.next + 3) Hs pv rv ids x := hN0.keep (by omega) fun id h _ => so id (by omega)
    clear hN0 hNA
    have ecs:dS ns A ns.length pv rv = dm ns A (ab x.card) pv rv := by unfold dS; rw[QP (Nat.le_refl _)]; exact Lh hx _ _
    obtain⟨cs0, hcs0⟩:∃ c, c = dm ns A (ab x.card) pv rv := ⟨_, rfl⟩
    rw[ecs, <- hcs0]at z4 z5 sid
    have cl := A0 ns A (ab x.card) pv rv
    have cne := Lg (ns := ns) hA (ab x.card) pv rv
    rw[<- hcs0]at cl cne
    obtain⟨x0, hx0⟩ := get_of_lt (l := ns) (i := 0) hn1
    obtain⟨q0, hq0, hlq⟩:∃ q, cs0[0 * 3 + 2]? = some q /\ mh Hs q = some (ab x0.rows.length) := by
      by_cases hA0:A = 0
      · subst hA0
        rw[hx]at hx0
        cases hx0
        refine⟨rv, by rw[hcs0]; exact A1 hA _ _ _, ?_⟩
        have hl := hN.rows.len
        rw[QX]at hl
        rcases hN.rows.top with ⟨h1, h2⟩ | ⟨i, g', _, _, h1, h2⟩
        · have h3:(List.zipWith (fun i n => AVal.own i 0 0 n 1) ids ((x.rows.map ints).map List.length)).length = 0 := by rw[h2]; rfl
          simp [hl]at h3
          rw[h1, h3]; rfl
        · rw[h1]; unfold mh; simp [aq h2, hl, ab]
      · refine⟨eW x0, by rw[hcs0, Lf (by omega) (by omega) (by omega)]; exact tF hx0, ?_⟩
        unfold eW
        split
        · rename_i h0; rw[h0]; rfl
        · rfl
    have w00:IntKind.i64.wrap 0 = 0 := by decide
    have t00:Int.tmod 0 (ns.length:Int) = 0 := Int.zero_tmod _
    have hn2:(0:Int) < ns.length := by omega
    refine W.sq ?_
    simp (config := { maxSteps := 1000000 }) only[go_sem, t2, t5, s0, sid, t00, hn0', hn2, w00, cl, aa]
    refine W.sq ?_
    simp (config := { maxSteps := 1000000 }) only[go_sem, aa]
    refine W.env fun E hE => ?_
    have u2:E 2 = .ptr H.next 0 0 := by rw[hE]; simp (config := { maxSteps := 1000000 }) only[go_sem, t2, aa]
    have u3:E 3 = .ptr (H.next + 1) 0 0 := by rw[hE]; simp (config := { maxSteps := 1000000 }) only[go_sem, t3, aa]
    have u4:E 4 = .ptr (H.next + 2) 0 0 := by rw[hE]; simp (config := { maxSteps := 1000000 }) only[go_sem, t4, aa]
    have u10:E 10 = .ptr id gg (0 * 3) := by rw[hE]; simp (config := { maxSteps := 1000000 }) only[go_sem, aa]
    clear hE
    refine W.sW (fun s' => s'.H = Hs /\ s'.ρ 2 = .ptr H.next 0 0 /\ s'.ρ 3 = .ptr (H.next + 1) 0 0 /\ s'.ρ 4 = .ptr (H.next + 2) 0 0) ?_ ?_
    · refine W.sq ?_
      by_cases hr0:x0.rows.length = 0
      · have hr2:¬ (x0.rows.length:Int) > 0 := by omega
        simp (config := { maxSteps := 1000000 }) only[go_sem, u2, u10, sid, hq0, cne, hlq, hr0, hr2, aa]
        refine W.cond (t := false) rfl ?_
        refine W.vs ?_
        simp (config := { maxSteps := 1000000 }) only[go_sem, u2, u3, u4, aa]
      · have hr2:(0:Int) < x0.rows.length := by omega
        have hr1:0 < x0.rows.length := by omega
        have hr3:¬ (x0.rows.length:Int) = 0 := by omega
        have t01:Int.tmod 0 (x0.rows.length:Int) = 0 := Int.zero_tmod _
        simp (config := { maxSteps := 1000000 }) only[go_sem, u2, u10, sid, hq0, cne, hlq, hr1, hr2, aa]
        refine W.cond (t := true) rfl ?_
        refine W.draw 8 [0, 1, 3, 0, 8, 24, 56, 120] Tryd.mixed (by kernel_rfl) (by kernel_rfl) ?_
        simp (config := { maxSteps := 1000000 }) only[go_sem, u2, u10, s0, sid, hq0, cne, hlq, hr1, hr2, hr3, w00, t01, aa]
        exact⟨u3, u4⟩
    rintro⟨ρ4, H4⟩ ⟨hH, v2, v3, v4⟩
    simp only at hH v2 v3 v4
    rw[hH]
    clear hH
    have w8:Int.tmod 11 12 = 11 := by decide
    refine W.sW (fun s' => s'.ρ 3 = .ptr (H.next + 1) 0 0 /\ s'.ρ 4 = .ptr (H.next + 2) 0 0 /\ s'.H = Hs.upd (H.next + 1) (.arr 0 61 [.lit (.int .i64 g), .own id gg 0 (ns.length - 1) 3])) ?_ ?_
    rotate_left
    · rintro⟨ρ5, H5⟩ ⟨f3, f4, f5⟩
      simp only at f3 f4 f5
      have l5:H5.live (H.next + 1) 0 = some (61, [.lit (.int .i64 g), .own id gg 0 (ns.length - 1) 3]) := by rw[f5]; exact aq (by rw[ao, QN rfl])
      have l6:H5.live (H.next + 2) 0 = some (61, [.lit (.int .i64 0), .lit (.slice none 0 0)]) := by rw[f5, mG (by omega)]; exact s2
      refine W.vs ?_
      simp (config := { maxSteps := 1000000 }) only[go_sem, f3, f4, l5, l6, aa]
      have k5:∀ i, i ≠ H.next + 1 -> i ≠ H.next + 2 -> ∀ b, (H5.upd (H.next + 2) b).get i = Hs.get i := fun i h1 h2 b => by rw[ao, QQ h2, f5, ao, QQ h1]
      have n5:H5.next = Hs.next := by rw[f5, aV]
      refine az.mk (by rw[aV]; omega) (hK id gg pv rv ids x _ ⟨by rw[aV]; omega, fun i h => by rw[k5 i (by omega) (by omega)]; exact sold i h⟩ (by omega) (by rw[aV]; omega) (by rw[k5 id (by omega) (by omega), z5, hcs0]) hx ((hN.keep (by rw[aV]; omega) fun i h _ => k5 i (by omega) (by omega) _).low (by omega)) pv1 rv1)
    refine W.sq ?_
    simp (config := { maxSteps := 1000000 }) only[go_sem, v2, s0, w8, aa]
    refine W.env fun E hE => ?_
    have y3:E 3 = .ptr (H.next + 1) 0 0 := by rw[hE]; simp (config := { maxSteps := 1000000 }) only[go_sem, v3, aa]
    have y4:E 4 = .ptr (H.next + 2) 0 0 := by rw[hE]; simp (config := { maxSteps := 1000000 }) only[go_sem, v4, aa]
    have y101:E 101 = .lit (.int .u8 11) := by rw[hE]; simp (config := { maxSteps := 1000000 }) only[go_sem, aa]
    clear hE v2 v3 v4
    refine W.block ?_
    refine W.sq ?_
    simp (config := { maxSteps := 1000000 }) only[go_sem, y101, aa]
    refine W.cond (t := false) rfl ?_
    refine W.sq ?_
    simp (config := { maxSteps := 1000000 }) only[go_sem, y101, aa]
    refine W.cond (t := false) rfl ?_
    refine W.sq ?_
    simp (config := { maxSteps := 1000000 }) only[go_sem, y101, aa]
    refine W.cond (t := false) rfl ?_
    refine W.sq ?_
    simp (config := { maxSteps := 1000000 }) only[go_sem, y101, aa]
    refine W.cond (t := false) rfl ?_
    refine W.sq ?_
    simp (config := { maxSteps := 1000000 }) only[go_sem, y101, aa]
    refine W.cond (t := false) rfl ?_
    refine W.sq ?_
    simp (config := { maxSteps := 1000000 }) only[go_sem, y101, aa]
    refine W.cond (t := false) rfl ?_
    refine W.sq ?_
    simp (config := { maxSteps := 1000000 }) only[go_sem, y101, aa]
    refine W.cond (t := false) rfl ?_
    refine W.sq ?_
    simp (config := { maxSteps := 1000000 }) only[go_sem, y101, aa]
    refine W.cond (t := false) rfl ?_
    refine W.sq ?_
    simp (config := { maxSteps := 1000000 }) only[go_sem, y101, aa]
    refine W.cond (t := false) rfl ?_
    refine W.sq ?_
    simp (config := { maxSteps := 1000000 }) only[go_sem, y101, aa]
    refine W.cond (t := false) rfl ?_
    refine W.sq ?_
    simp (config := { maxSteps := 1000000 }) only[go_sem, y101, aa]
    refine W.cond (t := false) rfl ?_
    refine W.vs ?_
    have wn := QL ((ns.length:Int) - 1) (by omega)
    simp (config := { maxSteps := 1000000 }) only[go_sem, y3, y4, s1, sid, wn, cl, aa]
    exact⟨⟨by omega, by omega⟩, by rw[show ((ns.length:Int) - 1).toNat = ns.length - 1 by omega]⟩
  refine W.sq ?_
  simp (config := { maxSteps := 1000000 }) only[go_sem, aa]
  refine W.block ?_
  refine W.env fun E1 hE1 => ?_
  have a2:E1 2 = .ptr H.next 0 0 := by rw[hE1]; simp (config := { maxSteps := 1000000 }) only[go_sem, e2, aa]
  have a3:E1 3 = .ptr (H.next + 1) 0 0 := by rw[hE1]; simp (config := { maxSteps := 1000000 }) only[go_sem, e3, aa]
  have a4:E1 4 = .ptr (H.next + 2) 0 0 := by rw[hE1]; simp (config := { maxSteps := 1000000 }) only[go_sem, e4, aa]
  have a5:E1 5 = .lit (.slice none 0 0) := by rw[hE1]; simp (config := { maxSteps := 1000000 }) only[go_sem, aa]
  have a6:E1 6 = ab 0 := by rw[hE1]; simp (config := { maxSteps := 1000000 }) only[go_sem, aa]
  clear hE1
  refine W.aR 1180591620717411271648 (by rfl) (fun ρ Hx => ∃ (k:Nat), ρ 6 = ab k /\ k <= ns.length /\ Hb.next <= Hx.next /\ (∀ id, id < H.next + 3 -> Hx.get id = Hb.get id) /\ AZ ns A (H.next + 3) k Hx (ρ 5)) (fun ρ H => ns.length - (iv (ρ 6)).toNat) ?_ ?_
  · simp (config := { maxSteps := 1000000 }) only[go_sem, a5, a6, aa]
    refine⟨0, rfl, by omega, .lit (.slice none 0 0), .lit (.slice none 0 0), ?_, rfl, rfl, fun h => absurd h (Q5 _)⟩
    have:dS ns A 0 (.lit (.slice none 0 0)) (.lit (.slice none 0 0)) = [] := rfl
    rw[this]
    exact .nil
  rintro ρ Hx ⟨k, h6, hk, nx, hold, hC⟩
  obtain⟨nh, h5⟩:∃ nh, ρ 5 = nh := ⟨_, rfl⟩
  rw[h5]at hC
  refine W.env fun E2 hE2 => ?_
  have c2:E2 2 = .ptr H.next 0 0 := by rw[hE2]; simp (config := { maxSteps := 1000000 }) only[go_sem, a2, aa]
  have c3:E2 3 = .ptr (H.next + 1) 0 0 := by rw[hE2]; simp (config := { maxSteps := 1000000 }) only[go_sem, a3, aa]
  have c4:E2 4 = .ptr (H.next + 2) 0 0 := by rw[hE2]; simp (config := { maxSteps := 1000000 }) only[go_sem, a4, aa]
  have c5:E2 5 = nh := by rw[hE2]; simp (config := { maxSteps := 1000000 }) only[go_sem, h5, aa]
  have c6:E2 6 = ab k := by rw[hE2]; simp (config := { maxSteps := 1000000 }) only[go_sem, h6, aa]
  clear hE2
  have l1 := aq ((hold _ (by omega)).trans b1)
  by_cases hb:(k:Int) < ns.length
  rotate_left
  · have hke:k = ns.length := by omega
    rw[hke]at hC
    refine W.vs ?_
    simp (config := { maxSteps := 1000000 }) only[go_sem, c2, c3, c4, c5, c6, l1, hb, aa]
    exact⟨nx, hold, hC⟩
  obtain⟨x, hx⟩ := get_of_lt (l := ns) (i := k) (by omega)
  have q0 := xh hx
  have q1 := xj hx
  have q2 := Ox hx
  have qn := jv hx
  obtain⟨x1, x2, x3⟩ := hs.node x (an hx)
  refine W.sq ?_
  simp (config := { maxSteps := 1000000 }) only[go_sem, c3, c6, l1, hb, aa]
  obtain⟨pv, rv, hO, pv1, rv1, hNA⟩ := hC
  refine W.seq ?_
  refine W.tU (Q' := fun e s2 => e = .normal /\ s2.ρ 6 = ab k /\ Hx.next <= s2.H.next /\ (∀ id, id < H.next + 3 -> s2.H.get id = Hb.get id) /\ (∀ i g e c, i < Hx.next -> Hx.get i = some (.arr g e c) -> e ≠ 91 -> s2.H.get i = Hx.get i) /\ ∃ pk rk ids, dK (H.next + 3) s2.H 91 3 (s2.ρ 5) (k + 1) (dS ns A k pv rv ++ [ab x.card, pk, rk]) /\ NodO (Hx.next + 1) s2.H pk rk ids x) ?_ ?_
  rotate_left
  · rintro e s2 ⟨rfl, a6', nx2, old2, kp2, pk, rk, ids, oZ, nodK⟩
    have w1 := QL ((k:Int) + 1) (by omega)
    by_cases hkA:k = A
    · refine⟨s2, .same, Nat.le_refl _, trivial, ?_⟩
      simp (config := { maxSteps := 1000000 }) only[go_sem, aa]
      refine W.vs ?_
      simp (config := { maxSteps := 1000000 }) only[go_sem, a6', w1, aa]
      refine⟨by omega, ⟨k + 1, rfl, by omega, by omega, old2, pk, rk, ?_, nodK.par.one, (sX nodK.rows).1, fun _ => ⟨x, by rw[<- hkA]; exact hx, ids, nodK.low (by omega)⟩⟩, by rw[h6]; simp only[ab, cL]; omega⟩
      rw[<- hkA]at oZ ⊢
      rw[Lc hx]at oZ
      exact oZ
    · rcases oZ with ⟨_, h0, _⟩ | ⟨id, gg, z1, z2, z3, z4, z5⟩
      · omega
      have ec := Ld hx hkA pv rv
      have hgone:sY (fun i => Hx.next <= i /\ i ≠ id) (Hx.next + 1) s2.H := fun i g e c h1 h2 h3 h4 => ⟨by omega, fun he => by
        subst he
        rw[z5]at h3
        cases h3
        exact h4 rfl⟩
      refine⟨⟨s2.ρ, s2.H.fU Hx.next id (.arr gg 91 (dS ns A (k + 1) pv rv))⟩, cH.fU bz z5 (by rw[ec]; simp) (fun hbel i hi hi' => ?_), Nat.le_refl _, trivial, ?_⟩
      · have e1 := QK hi
        have e2 := QK hi'
        have hm := hbel _ (Rz hi)
        generalize (dS ns A k pv rv ++ [ab x.card, pk, rk])[i] = u at e1 hm ⊢
        generalize (dS ns A (k + 1) pv rv)[i] = u' at e2 ⊢
        rw[ec]at e2
        by_cases hip:i < (dS ns A k pv rv).length
        · rw[Q0 hip]at e1 e2
          rw[e1]at e2
          cases e2
          exact .dead hm
        · rw[Q2 (by omega)]at e1 e2
          have h3:i - (dS ns A k pv rv).length = 0 \/ i - (dS ns A k pv rv).length = 1 \/ i - (dS ns A k pv rv).length = 2 := by
            rw[List.length_append]at hi
            simp at hi
            omega
          rcases h3 with h | h | h <;> rw[h]at e1 e2 <;> cases e1 <;> cases e2
          · exact .lit _
          · exact nodK.K9 hgone
          · exact nodK.Lb hgone
      · simp (config := { maxSteps := 1000000 }) only[go_sem, aa]
        refine W.vs ?_
        simp (config := { maxSteps := 1000000 }) only[go_sem, a6', w1, aa]
        have hmn:(s2.H.fU Hx.next id (.arr gg 91 (dS ns A (k + 1) pv rv))).next = s2.H.next := rfl
        refine⟨by rw[hmn]; omega, ⟨k + 1, rfl, by omega, by rw[hmn]; omega, fun i hi => ?_, pv, rv, .inr ⟨id, gg, z1, by rw[hmn]; exact z2, z3, by rw[ec]; simpa using z4, AV⟩, pv1, rv1, fun hlt => ?_⟩, by rw[h6]; simp only[ab, cL]; omega⟩
        · rw[AW (by omega) (by omega)]
          exact old2 i hi
        · obtain⟨y, hy, ids', hNy⟩ := hNA (by omega)
          refine⟨y, hy, ids', hNy.keepE (by rw[hmn]; omega) fun i g e c h1 h2 h3 h4 => ?_⟩
          rw[AW h2 (fun he => by
            subst he
            rw[kp2 i g e c h2 h3 h4, h3]at z5
            cases z5
            exact h4 rfl)]
          exact kp2 i g e c h2 h3 h4
  refine W.block ?_
  refine W.sq ?_
  simp (config := { maxSteps := 1000000 }) only[go_sem, c3, c6, l1, hb, q0, qn, aa]
  obtain⟨Hp, hHp⟩:∃ Hp, Hp = ext Hx [.arr 0 91 [.lit (.int .i64 x.card), .lit (.slice none 0 0), .lit (.slice none 0 0)]] := ⟨_, rfl⟩
  have np:Hp.next = Hx.next + 1 := by rw[hHp]; rfl
  have op:Over Hx Hp := by rw[hHp]; exact .ext _ _
  have gP:Hp.get Hx.next = some (.arr 0 91 [.lit (.int .i64 x.card), .lit (.slice none 0 0), .lit (.slice none 0 0)]) := by rw[hHp]; exact cQ
  rw[<- hHp]
  clear hHp
  refine W.env fun E3 hE3 => ?_
  have d2:E3 2 = .ptr H.next 0 0 := by rw[hE3]; simp (config := { maxSteps := 1000000 }) only[go_sem, c2, aa]
  have d3:E3 3 = .ptr (H.next + 1) 0 0 := by rw[hE3]; simp (config := { maxSteps := 1000000 }) only[go_sem, c3, aa]
  have d5:E3 5 = nh := by rw[hE3]; simp (config := { maxSteps := 1000000 }) only[go_sem, c5, aa]
  have d6:E3 6 = ab k := by rw[hE3]; simp (config := { maxSteps := 1000000 }) only[go_sem, c6, aa]
  have d7:E3 7 = .ptr Hx.next 0 0 := by rw[hE3]; simp (config := { maxSteps := 1000000 }) only[go_sem, aa]
  clear hE3
  have lP := aq gP
  have l1p:Hp.live (H.next + 1) 0 = _ := (op.live (by omega)).trans l1
  refine W.seq ?_
  refine W.draw 8 [0, 1, 0, 4, 0, 28, 60, 124] Tryd.mixed (by kernel_rfl) (by kernel_rfl) ?_
  simp (config := { maxSteps := 1000000 }) only[go_sem, d3, d6, d7, lP, l1p, hb, q1, qn]
  obtain⟨pk, H2, hA2, oP, n2, hp2⟩ := Jn (P := Tryd.prog) (H := Hp) (t := 22) (n := Hp.next) (lo := Hp.next) (src := ints x.parents) Tryd.underlying22 Tryd.lj Tryd.ll (kL _) (by rw[Tryd.lk, aX, List.length_nil]; omega) .nil (Nat.le_refl _) rfl
  rw[List.nil_append]at oP
  rw[aX]at hA2
  have o2:Over Hp H2 := ⟨n2, fun id h => hp2 id h fun g m => by simp⟩
  have lP2:H2.live Hx.next 0 = _ := (o2.live (by omega)).trans lP
  have pk1 := oP.one
  have pkc := oP.cells
  simp (config := { maxSteps := 1000000 }) only[go_sem, d7, hA2, lP2, pk1, pkc]
  obtain⟨H3, hH3⟩:∃ H3, H3 = H2.upd Hx.next (.arr 0 91 [.lit (.int .i64 x.card), pk, .lit (.slice none 0 0)]) := ⟨_, rfl⟩
  have n3:H3.next = H2.next := by rw[hH3]; rfl
  have h3o:∀ id, id < Hx.next -> H3.get id = Hx.get id := fun id h => by rw[hH3, ao, QQ (by omega), o2.old id (by omega), op.old id h]
  have h3P:H3.get Hx.next = some (.arr 0 91 [.lit (.int .i64 x.card), pk, .lit (.slice none 0 0)]) := by rw[hH3, ao, QN rfl]
  have h3N:NodO (Hx.next + 1) H3 pk (.lit (.slice none 0 0)) [] ⟨x.card, x.parents, x.rows.take 0⟩ := ⟨oP.keep (by omega) (by omega) fun id g h1 _ _ _ => by rw[hH3, ao, QQ (by omega)], .nil, fun _ _ _ _ => by simp, fun _ => rfl⟩
  rw[<- hH3]
  clear hH3 hA2 lP2 o2 hp2 oP
  refine W.env fun E4 hE4 => ?_
  have f2:E4 2 = .ptr H.next 0 0 := by rw[hE4]; simp (config := { maxSteps := 1000000 }) only[go_sem, d2, aa]
  have f3:E4 3 = .ptr (H.next + 1) 0 0 := by rw[hE4]; simp (config := { maxSteps := 1000000 }) only[go_sem, d3, aa]
  have f5:E4 5 = nh := by rw[hE4]; simp (config := { maxSteps := 1000000 }) only[go_sem, d5, aa]
  have f6:E4 6 = ab k := by rw[hE4]; simp (config := { maxSteps := 1000000 }) only[go_sem, d6, aa]
  have f7:E4 7 = .ptr Hx.next 0 0 := by rw[hE4]; simp (config := { maxSteps := 1000000 }) only[go_sem, d7, aa]
  clear hE4
  refine W.sW (fun s' => s'.ρ 5 = nh /\ s'.ρ 6 = ab k /\ s'.ρ 7 = .ptr Hx.next 0 0 /\ Hx.next < s'.H.next /\ (∀ id, id < Hx.next -> s'.H.get id = Hx.get id) /\ ∃ rk ids, s'.H.get Hx.next = some (.arr 0 91 [.lit (.int .i64 x.card), pk, rk]) /\ NodO (Hx.next + 1) s'.H pk rk ids x) ?_ ?_
  · refine W.sq ?_
    simp (config := { maxSteps := 1000000 }) only[go_sem, aa]
    refine W.block ?_
    refine W.env fun E5 hE5 => ?_
    have g3:E5 3 = .ptr (H.next + 1) 0 0 := by rw[hE5]; simp (config := { maxSteps := 1000000 }) only[go_sem, f3, aa]
    have g5:E5 5 = nh := by rw[hE5]; simp (config := { maxSteps := 1000000 }) only[go_sem, f5, aa]
    have g6:E5 6 = ab k := by rw[hE5]; simp (config := { maxSteps := 1000000 }) only[go_sem, f6, aa]
    have g7:E5 7 = .ptr Hx.next 0 0 := by rw[hE5]; simp (config := { maxSteps := 1000000 }) only[go_sem, f7, aa]
    have g8:E5 8 = ab 0 := by rw[hE5]; simp (config := { maxSteps := 1000000 }) only[go_sem, aa]
    clear hE5
    refine W.aR 73786975745082393344 (by rfl) (fun ρ2 Hy => ∃ (i:Nat) (rk:AVal) (ids:List Nat), ρ2 8 = ab i /\ i <= x.rows.length /\ H3.next <= Hy.next /\ (∀ id, id < Hx.next -> Hy.get id = Hx.get id) /\ Hy.get Hx.next = some (.arr 0 91 [.lit (.int .i64 x.card), pk, rk]) /\ NodO (Hx.next + 1) Hy pk rk ids ⟨x.card, x.parents, x.rows.take i⟩) (fun ρ H => x.rows.length - (iv (ρ 8)).toNat) ?_ ?_
    · simp (config := { maxSteps := 1000000 }) only[go_sem, g8, aa]
      exact⟨0, _, [], rfl, by omega, h3o, h3P, h3N⟩
    rintro ρ2 Hy ⟨i, rk, ids, h8, hi, ny, yo, yP, yN⟩
    have l1y := aq ((yo _ (by omega)).trans ((hold _ (by omega)).trans b1))
    have lPy := aq yP
    refine W.env fun E6 hE6 => ?_
    have k3:E6 3 = .ptr (H.next + 1) 0 0 := by rw[hE6]; simp (config := { maxSteps := 1000000 }) only[go_sem, g3, aa]
    have k5:E6 5 = nh := by rw[hE6]; simp (config := { maxSteps := 1000000 }) only[go_sem, g5, aa]
    have k6:E6 6 = ab k := by rw[hE6]; simp (config := { maxSteps := 1000000 }) only[go_sem, g6, aa]
    have k7:E6 7 = .ptr Hx.next 0 0 := by rw[hE6]; simp (config := { maxSteps := 1000000 }) only[go_sem, g7, aa]
    have k8:E6 8 = ab i := by rw[hE6]; simp (config := { maxSteps := 1000000 }) only[go_sem, h8, aa]
    clear hE6
    by_cases hbi:(i:Int) < x.rows.length
    rotate_left
    · refine W.vs ?_
      simp (config := { maxSteps := 1000000 }) only[go_sem, k3, k5, k6, k7, k8, l1y, hb, q2, qn, aD, hbi, aa]
      rw[QP (by omega)]at yN
      exact⟨by omega, yo, rk, ids, yP, yN⟩
    obtain⟨q, hq⟩ := get_of_lt (l := x.rows) (i := i) (by omega)
    obtain⟨qe, ql⟩ := x3 q (an hq)
    have ql0:0 < q.length := SL.2 qe
    have hqi:(x.rows.map ag)[i]? = some (ag q) := by rw[List.getElem?_map, hq]; rfl
    have hqn := aM hq
    refine W.sq ?_
    simp (config := { maxSteps := 1000000 }) only[go_sem, k3, k6, k8, l1y, hb, q2, qn, aD, hbi, aa]
    refine W.seq (W.block ?_)
    refine W.sq ?_
    simp (config := { maxSteps := 1000000 }) only[go_sem, aa]
    have yN1:x.rows.take (i + 1) = x.rows.take i ++ [q] := aU hq
    have hA1 := K7 (P := Tryd.prog) (H := Hy) (t := 22) (n := Hy.next) (src := ints q) Tryd.underlying22 Tryd.lj Tryd.ll (by rw[aX]; exact ql0) (by rw[Tryd.lk, aX]; omega) rfl
    obtain⟨rk', Hz, hA3, oM, nz, pz⟩ := yN.rows.K8 (P := Tryd.prog) (n := Hy.next + 1 + 1) (t := 48) (r := ints q) Tryd.underlying48 Tryd.tj Tryd.tl Tryd.tk (by decide) (by rw[QX, QV]; omega) (by omega) rfl
    rw[aX]at hA1 hA3
    have lPe:∀ L, (ext Hy L).live Hx.next 0 = _ := fun L => (jb (by omega)).trans lPy
    have l1e:∀ L, (ext Hy L).live (H.next + 1) 0 = _ := fun L => (jb (by omega)).trans l1y
    obtain⟨rv1, rvc⟩ := sX oM
    have lPz:Hz.live Hx.next 0 = _ := aq ((pz Hx.next (by omega) (yN.rows.ne yP (by decide))).trans yP)
    refine W.draw 14 [0, 1, 0, 0, 8, 0, 56, 120, 248, 0, 1016, 2040, 4092, 8188] Tryd.mixed (by kernel_rfl) (by kernel_rfl) ?_
    simp (config := { maxSteps := 1000000 }) only[go_sem, k3, k6, k7, k8, l1y, lPy, l1e, lPe, hb, q2, qn, aD, hbi, hqi, hqn, hA1, hA3, lPz, rv1, rvc]
    refine⟨⟨fun _ h => by omega, fun _ h => by omega⟩, ⟨fun _ h => by omega, fun _ h => by omega⟩, ?_⟩
    have w1 := QL ((i:Int) + 1) (by omega)
    have zo:∀ id g e c, id < Hy.next -> Hy.get id = some (.arr g e c) -> e ≠ 22 -> Hz.get id = Hy.get id := fun id g e c h h2 h3 => pz id h (yN.rows.ne h2 h3)
    refine W.vs ?_
    simp (config := { maxSteps := 1000000 }) only[go_sem, k5, k6, k7, k8, w1, aa]
    refine⟨by rw[aV]; omega, ⟨i + 1, rk', ids ++ [Hy.next], rfl, by omega, by rw[aV]; omega, fun id h => ?_, by rw[ao, QN rfl], ?_⟩, by rw[h8]; simp only[ab, cL]; omega⟩
    · rw[ao, QQ (by omega), pz id (by omega) (yN.rows.top.ne (by omega))]
      exact yo id h
    · rw[yN1]
      have oM':OwnM (Hx.next + 1) (Hz.upd Hx.next (.arr 0 91 [.lit (.int .i64 x.card), pk, rk'])) 22 3 rk' (ids ++ [Hy.next]) ((x.rows.take i ++ [q]).map ints) := by
        rw[RN]
        exact oM.keep (by rw[aV]; exact Nat.le_refl _) fun id h1 _ => by rw[ao, QQ (by omega)]
      refine⟨yN.par.keep (Nat.le_refl _) (by rw[aV]; omega) fun id g h1 h2 h3 _ => by rw[ao, QQ (by omega)]; exact zo id _ _ _ h2 h3 (by decide), oM', fun id g m hp hm => ?_, fun e => absurd e (by simp)⟩
      rcases Q1.1 hm with hm | hm
      · exact yN.dj id g m hp hm
      · obtain rfl := List.mem_singleton.1 hm
        rcases yN.par with ⟨h1, _⟩ | ⟨i2, g2, _, h2, h1, _⟩
        · rw[h1]at hp; cases hp
        · rw[h1]at hp
          have := (AVal.own.inj hp).1
          omega
  rintro⟨ρn, Hn⟩ ⟨m5, m6, m7, nN, oN, rk, ids, gN, nodN⟩
  simp only at m5 m6 m7 nN oN gN nodN
  have lN := aq gN
  have rk1 := (sX nodN.rows).1
  have rkc := (sX nodN.rows).2
  have hOn := hO.keep (H' := Hn) (by omega) fun id g _ h _ => oN id h
  obtain⟨nh', H5, hA5, oZ, n5, p5⟩ := C5 (P := Tryd.prog) (H := Hn) (t := 59) (xs := [.lit (.int .i64 x.card), pk, rk]) (m := Hn.next + 1) Tryd.underlying59 Tryd.wO Tryd.wQ (by simp only[List.all_cons, List.all_nil, pk1, rk1]; rfl) rfl (by rw[Tryd.wP]; omega) hOn (by omega) rfl
  have nhe:∀ id g e c, Hn.get id = some (.arr g e c) -> e ≠ 91 -> ∀ g m, nh ≠ .own id g 0 m 3 := fun id g e c h1 h2 g' m hv => by
    rcases hOn with ⟨h, _⟩ | ⟨i2, g2, _, _, h, _, h4⟩
    · rw[h]at hv; cases hv
    · rw[h]at hv
      obtain rfl := (AVal.own.inj hv).1
      rw[h4]at h1
      cases h1
      exact h2 rfl
  have nh1 := oZ.one
  have nhc := oZ.cells
  refine W.vs ?_
  simp (config := { maxSteps := 1000000 }) only[go_sem, m5, m6, m7, lN, hA5, nh1, nhc, pk1, pkc, rk1, rkc]
  have keepE:∀ id g e c, id < Hn.next -> Hn.get id = some (.arr g e c) -> e ≠ 91 -> H5.get id = Hn.get id := fun id g e c h1 h2 h3 => p5 id h1 (nhe id g e c h2 h3)
  refine⟨by omega, fun id h => ?_, fun i g e c h1 h2 h3 => by rw[keepE i g e c (by omega) ((oN i h1).trans h2) h3, oN i h1], pk, rk, ids, oZ, nodN.keepE n5 fun id g e c _ h1 h2 h3 => keepE id g e c h1 h2 h3⟩
  · rw[p5 id (by omega) (hOn.ne h), oN id (by omega)]
    exact hold id h
theorem DataOk.none {cs:List Int}{xs:List (List Int)}(hd:DataOk cs xs):DataOk cs [] := ⟨hd.c1, by simp, hd.card, hd.size, fun r hr => by cases hr⟩
theorem NL {n s:Nat}(h:s < 2 ^ n):bV (bK n s) = s := by
  refine Sn fun i => ?_
  rw[kg fun p hp => (pY p hp).1]
  cases hb:s.testBit i with
  | false =>
    refine RJ fun hm => ?_
    unfold bK at hm
    obtain⟨q, hq, e⟩ := Q6.1 hm
    have := (Tp.1 hq).2
    obtain rfl:q = i := by omega
    rw[hb]at this; cases this
  | true =>
    refine Rk ?_
    have hi:i < n := by
      rcases Q3 i n with h1 | h1
      · exact h1
      · have := SS (QU h (Rb (by decide) h1)); rw[this]at hb; cases hb
    exact Q6.2 ⟨i, Tp.2 ⟨QW.2 hi, hb⟩, rfl⟩
theorem NM (n s:Nat):(bK n s).Pairwise (· < ·) := by
  unfold bK
  rw[List.pairwise_map]
  exact((TZ (n := n)).filter _).imp fun h => by omega
section
variable {cs:List Int} {xs:List (List Int)} {ps:List Nat} {g prior least:Int} {ns:List NodeP}
theorem dC.sets (hg:dU ps cs.length)(h:dC cs xs ps g prior least ps.length ns):aW ns = ps := by
  apply Q9
  intro v
  rcases Q3 v ps.length with hv | hv
  · obtain⟨s, hs⟩ := get_of_lt hv
    obtain⟨x, hx⟩ := get_of_lt (l := ns) (i := v) (by rw[h.1]; exact hv)
    rw[lS hx, (h.2 v s x hs hx).par, NL (by rw[hg.1]; exact hg.2.1 s (an hs)), hs]
  · rw[QR (by simp [aW, h.1]; exact hv), QR hv]
theorem dC.cards (hg:dU ps cs.length)(h:dC cs xs ps g prior least ps.length ns):aA ns = cs := by
  apply Q9
  intro v
  rcases Q3 v ps.length with hv | hv
  · obtain⟨s, hs⟩ := get_of_lt hv
    obtain⟨x, hx⟩ := get_of_lt (l := ns) (i := v) (by rw[h.1]; exact hv)
    obtain⟨c, hc⟩ := get_of_lt (l := cs) (i := v) (by rw[<- hg.1]; exact hv)
    unfold aA
    rw[List.getElem?_map, hx, hc, Option.map_some, (h.2 v s x hs hx).card, aH hc]
  · rw[QR (by simp [aA, h.1]; exact hv), QR (by rw[<- hg.1]; exact hv)]
theorem dC.rowAt (h : dC cs xs ps g prior least ps.length ns) {v : Nat} {x : NodeP} {r : List Int} (hx : ns[v]? = some x) (hr : r ∈ x.rows) :
    ∃ s j, ps[v]? = some s /\ gu least (cZ g least (cR cs (bK ps.length s) v xs prior j)) (cR cs (bK ps.length s) v xs prior j) r := by
  obtain⟨s, hs⟩ := get_of_lt (l := ps) (i := v) (by rw[<- h.1]; exact get_lt hx)
  obtain⟨j, hj⟩ := Q4.1 hr
  exact⟨s, j, hs, (h.2 v s x hs hx).row j r hj⟩
theorem dC.row (hd : DataOk cs xs) (hg : dU ps cs.length) (hw : j9 cs g prior least) (h : dC cs xs ps g prior least ps.length ns) {v : Nat} {x : NodeP} {r : List Int} (hx : ns[v]? = some x) (hr : r ∈ x.rows) :
    jC g x.card r /\ (∀ w ∈ r, least <= w) /\ 2 <= x.card /\ x.card <= 4 := by
  obtain⟨s, j, hs, hS⟩ := h.rowAt hx hr
  obtain⟨c, hc⟩ := get_of_lt (l := cs) (i := v) (by rw[<- hg.1]; exact get_lt hs)
  have c4 := hd.card c (an hc)
  have hxc:x.card = c := by rw[(h.2 v s x hs hx).card, aH hc]
  obtain⟨⟨g1, g60⟩, ⟨p0, p10⟩, ⟨l0, lg⟩, lc⟩ := hw
  obtain⟨T, hT⟩:∃ T, T = cR cs (bK ps.length s) v xs prior j := ⟨_, rfl⟩
  rw[<- hT]at hS
  have Tl:(T.length:Int) = c := by rw[hT, oe, aH hc]; omega
  have T0:∀ q ∈ T, 0 <= q := by rw[hT]; exact fun q hq => (BG ⟨p0, p10⟩ hd.x1 q hq).1
  have hsp:0 <= cZ g least T := by
    unfold cZ
    rw[Tl]
    have := lc c (an hc)
    omega
  obtain⟨a1, a2⟩ := Pg (by omega) hS
  have a3 := Ph T0 (by omega) hsp hS
  have a4:∀ w ∈ r, 0 <= w := fun w h => by have := a3 w h; omega
  exact⟨⟨by rw[a1, Tl, hxc], fun w hw => ⟨a4 w hw, by have := oE a4 w hw; omega⟩, a2⟩, a3, by omega⟩
theorem dC.net (hd:DataOk cs xs)(hg:dU ps cs.length)(hw:j9 cs g prior least)(h:dC cs xs ps g prior least ps.length ns):NetOk g ns where
  g1 := hw.1
  n1 := by have := hd.c1; rw[h.1, hg.1]; omega
  node x hx := by
    obtain⟨v, hv⟩ := Q4.1 hx
    obtain⟨s, hs⟩ := get_of_lt (l := ps) (i := v) (by rw[<- h.1]; exact get_lt hv)
    obtain⟨c, hc⟩ := get_of_lt (l := cs) (i := v) (by rw[<- hg.1]; exact get_lt hs)
    have c4 := hd.card c (an hc)
    obtain⟨a1, a2, _, _⟩ := h.2 v s x hs hv
    rw[aH hc]at a1
    refine⟨by omega, by rw[a2]; exact NM _ _, fun p hp => ?_⟩
    rw[a2]at hp
    rw[h.1]
    exact pY p hp
  size := by rw[h.cards hg]; exact hd.size
  acyc := by rw[h.sets hg]; exact hg.2.2
  rows x hx := by
    obtain⟨v, hv⟩ := Q4.1 hx
    obtain⟨s, hs⟩ := get_of_lt (l := ps) (i := v) (by rw[<- h.1]; exact get_lt hv)
    obtain⟨_, a2, a3, _⟩ := h.2 v s x hs hv
    refine⟨?_, fun r hr => (h.row hd hg hw hv hr).1⟩
    unfold aO
    rw[h.cards hg, a2]
    exact a3
end
end Go.Proofs
namespace Go.Proofs
open Go.Hx
end Go.Proofs
namespace Go.Hx
variable {P:Program} {G:Nat -> Option (List AVal)} {Γ Γ':au} {H H':AHeap} {w w':World}
inductive Ids (K:Nat -> Prop):AVal -> Prop
  | lit (v:Value):Ids K (.lit v)
  | vec {n:Nat} {c:List AVal} (h:∀ i (h:i < c.length), Ids K c[i]):Ids K (.vec n c)
  | vptr {n:Nat} {c:List AVal} (h:∀ i (h:i < c.length), Ids K c[i]):Ids K (.vptr c n)
  | agg {c:List AVal} (h:∀ i (h:i < c.length), Ids K c[i]):Ids K (.agg c)
  | tup {c:List AVal} (h:∀ i (h:i < c.length), Ids K c[i]):Ids K (.tup c)
  | clo {f:FuncId} {a b:List AVal} (h1:∀ i (h:i < a.length), Ids K a[i]) (h2:∀ i (h:i < b.length), Ids K b[i]):Ids K (.clo f a b)
  | own {id g o l z:Nat} (h:K id):Ids K (.own id g o l z)
  | ptr {id g o:Nat} (h:K id):Ids K (.ptr id g o)
  | yld {id:Nat} (h:K id):Ids K (.yld id)
theorem Ids.sound {K : Nat → Prop} {Γ₁ Γ₂ : au} {H₁ H₂ : AHeap} (hK : ∀ id, K id → H₂.get id = H₁.get id ∧ Γ₂ id = Γ₁ id ∧ id < H₂.next) (ho : ∀ b, Γ₂.dZ b → Γ₁.dZ b) {v : AVal} (h : Ids K v) :
    ∀ {cv:Value}, RelV P Γ₁ H₁ w v cv -> RelV P Γ₂ H₂ w v cv := by
  induction h with
  | lit v => intro cv h; cases h; exact .lit _
  | vec _ ih =>
    intro cv h
    cases h with
    | vec0 a cap => exact .vec0 a cap
    | vec hb hlt hlen hcs hcell hrel => exact .vec (fun h => hb (ho _ h)) hlt hlen hcs hcell fun i h1 h2 => ih i h1 (hrel i h1 h2)
  | vptr _ ih => intro cv h; cases h with | vptr hb hlt hcs hcell hrel => exact .vptr (fun h => hb (ho _ h)) hlt hcs hcell fun i h1 h2 => ih i h1 (hrel i h1 h2)
  | agg _ ih => intro cv h; cases h with | agg hcs hrel => exact .agg hcs fun i h1 h2 => ih i h1 (hrel i h1 h2)
  | tup _ ih => intro cv h; cases h with | tup hcs hrel => exact .tup hcs fun i h1 h2 => ih i h1 (hrel i h1 h2)
  | clo _ _ ih1 ih2 => intro cv h; cases h with | clo hfs hcs hf hc => exact .clo hfs hcs (fun i h1 h2 => ih1 i h1 (hf i h1 h2)) fun i h1 h2 => ih2 i h1 (hc i h1 h2)
  | own h =>
    intro cv hv
    cases hv with
    | own hv =>
      obtain⟨a, b, c, d⟩ := hv
      obtain⟨e1, e2, e3⟩ := hK _ h
      refine .own ⟨e3, b, by rw[e1]; exact c, fun g e cells hg => ?_⟩
      rw[e1]at hg
      rw[e2]
      exact d g e cells hg
  | ptr h =>
    intro cv hv
    cases hv with
    | ptr hv =>
      obtain⟨a, b, c, d⟩ := hv
      obtain⟨e1, e2, e3⟩ := hK _ h
      refine .ptr ⟨e3, b, by rw[e1]; exact c, fun g e cells hg => ?_⟩
      rw[e1]at hg
      rw[e2]
      exact d g e cells hg
  | yld h =>
    intro cv hv
    cases hv with
    | yld hv =>
      obtain⟨a, b, c, d, e⟩ := hv
      obtain⟨e1, e2, e3⟩ := hK _ h
      refine .yld ⟨e3, b, by rw[e1]; exact c, fun st pend n env ps asg body hg => ?_, fun es hg => ?_⟩
      · rw[e1]at hg
        rw[e2]
        exact d st pend n env ps asg body hg
      · rw[e1]at hg
        rw[e2]
        exact e es hg
end Go.Hx
namespace Go.Hx
variable {P:Program} {G:Nat -> Option (List AVal)} {all:Array Oper} {tail:St -> Prop} {b i:Nat} {bs:List Nat} {acc:List (Nat × FP)} {K:FP -> St -> Prop} {s:St} {d:Option Tmp} {ty:TypeId} {pos:String} {aft:Array Edge} {g:Option (Nat × Bool)}
end Go.Hx
namespace Go.Proofs
open Go.Hx
theorem NN {d:D25}(hd:d.Ok){raw:List Int}(hr:∀ x ∈ raw, 0 <= x):fV (bU d) (eo (bU d) d.follow raw (bU d).length) :=
  ⟨jZ _ _ _ _, fun v c x hc hx => by
    have := tc (pW d) (f := d.follow) hr _ v x hx
    rw[aH hc]at this
    omega⟩
theorem NO {cs:List Int}{xs:List (List Int)}(hc:∀ c ∈ cs, 2 <= c)(h:∀ r ∈ xs, fV cs r)(m:Int):∀ r ∈ gV xs m, fV cs r := by
  intro r hr
  unfold gV at hr
  rcases Ru hr with h' | e
  · exact h r h'
  subst e
  rw[QM]
  have hm := h
  cases hk:xs[(m / 5 % (xs.length:Int)).toNat]? with
  | none =>
    exfalso
    have := Bg (n := cs.length) (xs := xs) (fun r hr => (h r hr).1) m
    rcases Sf xs.length with h0 | h0
    · rw[QT h0]at hr
      simp at hr
    · have := RF (m / 5) (show (0:Int) < xs.length by omega)
      have := RU (m / 5) (show (xs.length:Int) ≠ 0 by omega)
      have := SI.1 hk
      omega
  | some q =>
    have hq := h q (an hk)
    refine⟨by simp only[Option.getD_some, Q8]; exact hq.1, fun v c x h1 h2 => ?_⟩
    simp only[Option.getD_some]at h2
    rw[Rg]at h2
    split at h2
    · split at h2
      · obtain rfl := Option.some.inj h2
        have := hc c (an h1)
        omega
      · cases h2
    · exact hq.2 v c x h1 h2
theorem NP {d:D25}(hd:d.Ok):DataOk (bU d) (js d) := by
  have hl := wH d
  have hr := pW d
  refine⟨by omega, (LU d).1, fun c h => by have := hr c h; omega, ?_, ?_⟩
  · have h1 := tz (b := 3) (by omega) (l := bU d) fun x hx => by have := hr x hx; omega
    have h3:(3:Nat) ^ (bU d).length <= 3 ^ 5 := Rb (by decide) hl.2
    have h4:((3:Int) ^ (bU d).length) <= 3 ^ 5 := by exact_mod_cast h3
    have:(3:Int) ^ 5 = 243 := by decide
    omega
  · unfold js
    have key:∀ (ms:List Int) (xs:List (List Int)), (∀ r ∈ xs, fV (bU d) r) -> ∀ r ∈ ms.foldl gV xs, fV (bU d) r := by
      intro ms
      induction ms with
      | nil => intro xs h; exact h
      | cons m ms ih => intro xs h; exact ih _ (NO (fun c hc => (hr c hc).1) h m)
    refine key _ _ fun r h => ?_
    obtain⟨raw, hraw, rfl⟩ := Q6.1 h
    exact NN hd fun x hx => ((hd.x8 raw (Rs hraw)).2 x hx).1
def gY (s n:Nat):List Int := ((List.range n).filter fun v => s.testBit v).map fun (v:Nat) => (v:Int)
theorem qk {s n:Nat}{q:Int}:q ∈ gY s n ↔ ∃ v:Nat, q = v /\ v < n /\ s.testBit v = true := by
  unfold gY
  simp only[Q6, Tp, QW]
  exact⟨fun ⟨v, ⟨h1, h2⟩, h3⟩ => ⟨v, h3.symm, h1, h2⟩, fun ⟨v, h1, h2, h3⟩ => ⟨v, ⟨h2, h3⟩, h1.symm⟩⟩
theorem O4 (s n:Nat):(gY s n).Pairwise (· < ·) := by
  unfold gY
  refine List.Pairwise.map _ (R := (· < ·)) (fun a b h => by omega) ?_
  exact List.Pairwise.filter _ TZ
structure UtD where
  vars:Int
  w:List Int
def I8 (n:Int):Prop := -128 <= n /\ n < 128
def O5 (l:List Int):List AVal := l.map fun n => .lit (.int .i8 n)
def UtD.cells (x:UtD):List AVal := [.lit (.int .u8 x.vars), .vec x.w.length (O5 x.w)]
def UtD.Ok (x:UtD):Prop := U8 x.vars /\ (x.w.length:Int) < 2 ^ 63 /\ ∀ b ∈ x.w, I8 b
end Go.Proofs
