/- Own work: contracts. -/
import Derived.Test.YtikgmgmphkalkaaDoorConB
import Derived.Test.YtikgmgmphkalkaaDoorConA
set_option linter.all false
set_option maxRecDepth 100000
namespace Go.Proofs
open Go.Hx
def iu (i:Nat):Int := fG.getD i 2
def jo (q:Int):Nat -> Int -> Nat
  | 0, _ => 0
  | f + 1, n => if n % q = 0 then jo q f (n / q) + 1 else 0
def fW (q:Int):Nat -> Int -> Int
  | 0, n => n
  | f + 1, n => if n % q = 0 then fW q f (n / q) else n
def jq (n:Int):Nat -> Int
  | 0 => n
  | i + 1 => fW (iu i) 6 (jq n i)
def fH (n:Int)(i:Nat):Nat := jo (iu i) 6 (jq n i)
def gU (e:List Int)(t n:Int)(i c:Nat):List Int := (List.range 18).map fun k => e.getD k 0 + t * ((if k < i then fH n k else if k = i then c else 0:Nat):Int)
def jW (e:List Int)(t n:Int):List Int := (List.range 18).map fun k => e.getD k 0 + t * (fH n k:Int)
def bb:List Int := List.replicate 18 0
theorem A9 {i:Nat}(h:i < 18):fG[i]? = some (iu i) := by
  obtain⟨x, hx⟩ := get_of_lt (l := fG) (i := i) h
  unfold iu
  rw[aH hx, hx]
theorem s7 (i:Nat):2 <= iu i /\ iu i <= 61 := by
  unfold iu
  rw[QM]
  cases h:fG[i]? with
  | none => exact⟨Int.le_refl _, by decide⟩
  | some x =>
    have:∀ x ∈ fG, 2 <= x /\ x <= 61 := by decide
    exact this x (an h)
theorem Ba {q m:Int}(hq:2 <= q)(hm:1 <= m)(h:m % q = 0):1 <= m / q /\ m / q < m /\ 2 * (m / q) <= m := by
  have e := T8 m q
  rw[h, Int.add_zero]at e
  have h1:0 < m / q := by
    rcases Int.lt_or_le 0 (m / q) with h' | h'
    · exact h'
    · have := RV h' (show (0:Int) <= q by omega)
      omega
  have h2:2 * (m / q) <= q * (m / q) := S4 hq (by omega)
  omega
theorem LD {q:Int}(hq:2 <= q):∀ (f:Nat) (n:Int), 1 <= n -> 1 <= fW q f n /\ fW q f n <= n := by
  intro f
  induction f with
  | zero => intro n h; exact⟨h, Int.le_refl _⟩
  | succ f ih =>
    intro n h
    unfold fW
    split
    · rename_i h0
      have := Ba hq h h0
      have := ih (n / q) (by omega)
      omega
    · omega
theorem Bc (q:Int):∀ (f:Nat) (n:Int), jo q f n <= f := by
  intro f
  induction f with
  | zero => intro n; exact Nat.le_refl _
  | succ f ih =>
    intro n
    unfold jo
    split
    · have := ih (n / q); omega
    · omega
theorem LF {n:Int}(h:1 <= n /\ n <= 63):∀ i, 1 <= jq n i /\ jq n i <= 63 := by
  intro i
  induction i with
  | zero => exact h
  | succ i ih =>
    have := LD (s7 i).1 6 (jq n i) ih.1
    show 1 <= fW _ _ _ /\ fW _ _ _ <= 63
    omega
theorem LG (n:Int)(i:Nat):fH n i <= 6 := Bc _ _ _
theorem LH {q m:Int}(h:¬ m % q = 0)(f:Nat):fW q f m = m /\ jo q f m = 0 := by
  cases f with
  | zero => exact⟨rfl, rfl⟩
  | succ f => unfold fW jo; rw[QQ h, QQ h]; exact⟨rfl, rfl⟩
theorem LI {q m:Int}(h:m % q = 0)(f:Nat):fW q (f + 1) m = fW q f (m / q) /\ jo q (f + 1) m = jo q f (m / q) + 1 := by
  show (if m % q = 0 then _ else _) = _ /\ (if m % q = 0 then _ else _) = _
  rw[QN h, QN h]; exact⟨rfl, rfl⟩
theorem lf (e:List Int)(t n:Int)(i c:Nat):(gU e t n i c).length = 18 := by simp [gU]
theorem mw {e:List Int}{t n:Int}{i c k:Nat}(h:k < 18):(gU e t n i c)[k]? = some (e.getD k 0 + t * ((if k < i then fH n k else if k = i then c else 0:Nat):Int)) := by
  unfold gU; rw[List.getElem?_map, RO h]; rfl
theorem wD (e:List Int)(t n:Int):(jW e t n).length = 18 := by simp [jW]
theorem wE {e:List Int}{t n:Int}{k:Nat}(h:k < 18):(jW e t n)[k]? = some (e.getD k 0 + t * (fH n k:Int)) := by
  unfold jW; rw[List.getElem?_map, RO h]; rfl
theorem s8 {a b:List Int}(ha:a.length = 18)(hb:b.length = 18)(h:∀ k, k < 18 -> a[k]? = b[k]?):a = b := by
  apply Q9
  intro k
  rcases Q3 k 18 with h' | h'
  · exact h k h'
  · rw[QR (by omega), QR (by omega)]
theorem LJ {e:List Int}(he:e.length = 18)(t n:Int):gU e t n 0 0 = e := s8 (lf ..) he fun k hk => by
  obtain⟨x, hx⟩ := get_of_lt (l := e) (i := k) (by omega)
  rw[mw hk, hx, aH hx]
  simp
theorem LK {e:List Int}{t n:Int}{i c:Nat}(hi:i < 18):(gU e t n i c).set i (e.getD i 0 + t * (c:Int) + t) = gU e t n i (c + 1) := s8 (by simp [lf]) (lf ..) fun k hk => by
  rw[Rg, mw hk, mw hk, lf]
  by_cases h:i = k
  · subst h
    rw[QN rfl, QN hi]
    simp [SZ, Int.add_assoc]
  · rw[QQ h]
    have h':¬ k = i := fun e => h e.symm
    simp [h']
theorem LL (e:List Int)(t n:Int)(i:Nat):gU e t n i (fH n i) = gU e t n (i + 1) 0 := s8 (lf ..) (lf ..) fun k hk => by
  rw[mw hk, mw hk]
  congr 3
  by_cases h:k < i
  · rw[QN h, QN (by omega)]
  · rw[QQ h]
    by_cases h':k = i
    · rw[QN h', QN (by omega), h']
    · rw[QQ h', QQ (by omega)]; split <;> rfl
theorem LM (e:List Int)(t n:Int):gU e t n 18 0 = jW e t n := s8 (lf ..) (wD ..) fun k hk => by
  rw[mw hk, wE hk, QN hk]
def eI (e:List Int)(b:Int):Prop := ∀ x ∈ e, -b <= x /\ x <= b
theorem eI.getD {e:List Int}{b:Int}(h:eI e b)(hb:0 <= b)(k:Nat):-b <= e.getD k 0 /\ e.getD k 0 <= b := by
  rw[QM]
  cases hk:e[k]? with
  | none => exact⟨by simp; omega, by simpa using hb⟩
  | some x => exact h x (an hk)
theorem Bd {t:Int}(ht:t = 1 \/ t = -1){c:Nat}(hc:c <= 6):-6 <= t * (c:Int) /\ t * (c:Int) <= 6 := by
  rcases ht with rfl | rfl <;> omega
theorem eI.add {e:List Int}{b t:Int}(h:eI e b)(hb:0 <= b)(ht:t = 1 \/ t = -1)(n:Int):eI (jW e t n) (b + 6) := fun x hx => by
  obtain⟨k, _, rfl⟩ := Q6.1 hx
  have := h.getD hb k
  have := Bd ht (LG n k)
  omega
theorem eI.zero:eI bb 0 := fun x hx => by
  obtain rfl := Su hx
  omega
set_option maxHeartbeats 1000000 in
theorem Be (id : Nat) (e : List Int) (n t : Int) (hn : 1 ≤ n ∧ n ≤ 63) (ht : t = 1 ∨ t = -1) (he : e.length = 18) (hb : eI e 1000000) (H : AHeap) (hg : H.get id = some (.arr 0 84 (ints e))) (K : ARes → AHeap → Prop)
    (hK:∀ H', H'.get id = some (.arr 0 84 (ints (jW e t n))) -> (∀ j, j ≠ id -> H'.get j = H.get j) -> H'.next = H.next -> K (.ret (.tup [])) H'):ah Tryd.prog G0 70 [.ptr id 0 0, ab n, ab t] H K := by
  refine ah.cu (n := 30) (rs := []) Tryd.func70 rfl rfl rfl (by decide) (by kernel_rfl) (by simp) ?_
  have t18:(ints fG).take 18 = ints fG := rfl
  simp (config := { maxSteps := 1000000 }) only[go_sem, Lu, t18, aa]
  refine⟨by decide, ?_⟩
  refine W.aR 1073741506 (by rfl) (fun ρ H' => ∃ i:Nat, ρ 9 = ab i /\ i <= 18 /\ ρ 1 = ab (jq n i) /\ H'.get id = some (.arr 0 84 (ints (gU e t n i 0))) /\ (∀ j, j ≠ id -> H'.get j = H.get j) /\ H'.next = H.next) (fun ρ H => 18 - (iv (ρ 9)).toNat) ?_ ?_
  · simp (config := { maxSteps := 1000000 }) only[go_sem, aa]
    exact⟨0, rfl, by omega, rfl, by rw[LJ he]; exact hg⟩
  rintro ρ H' ⟨i, h9, hi, h1, hgi, hold, hnx⟩
  refine W.vs ?_
  by_cases hb1:(i:Int) < 18
  rotate_left
  · simp (config := { maxSteps := 1000000 }) only[go_sem, h9, hb1, aa]
    obtain rfl:i = 18 := by omega
    rw[LM]at hgi
    exact az.mk (by omega) (hK H' hgi hold hnx)
  have hpi := A9 (i := i) (by omega)
  have hpn:¬ fG = [] := by decide
  have q2 := s7 i
  obtain⟨q, hq⟩:∃ q, q = iu i := ⟨_, rfl⟩
  rw[<- hq]at hpi q2
  have lr := LF hn i
  have hpl:(i:Int) < fG.length := by have:fG.length = 18 := rfl; omega
  simp (config := { maxSteps := 1000000 }) only[go_sem, h9, hb1, hpi, hpn, hpl, aa]
  refine W.aR 536862722 (by rfl) (fun ρ2 H2 => ∃ (f c:Nat) (m:Int), ρ2 1 = ab m /\ 1 <= m /\ m < 2 ^ f /\ f <= 6 /\ fW q 6 (jq n i) = fW q f m /\ jo q 6 (jq n i) = c + jo q f m /\ H2.get id = some (.arr 0 84 (ints (gU e t n i c))) /\ (∀ j, j ≠ id -> H2.get j = H.get j) /\ H2.next = H.next) (fun ρ2 H => (iv (ρ2 1)).toNat) ?_ ?_
  · simp (config := { maxSteps := 1000000 }) only[go_sem, h1, aa]
    exact⟨6, 0, _, rfl, lr.1, by omega, by omega, rfl, by omega, hgi, hold, hnx⟩
  rintro ρ2 H2 ⟨f, c, m, h1', m1, m2, f6, hr, hc, hg2, hold2, hnx2⟩
  refine W.vs ?_
  have qz:¬ q = 0 := by omega
  have tm:m.tmod q = m % q := Ra (by omega)
  have td:m.tdiv q = m / q := RS (by omega)
  by_cases hd:m % q = 0
  · cases f with
    | zero => omega
    | succ f =>
      obtain⟨s1, s2⟩ := LI hd f
      have dr := Ba q2.1 m1 hd
      have cl:c + 1 <= 6 := by have := Bc q 6 (jq n i); omega
      have pg := mw (e := e) (t := t) (n := n) (i := i) (c := c) (k := i) (by omega)
      rw[QQ (Sv i), QN rfl]at pg
      have pn := aM pg
      have pl := lf e t n i c
      have pl':(i:Int) < (gU e t n i c).length := by omega
      have lg := aq hg2
      have b1 := hb.getD (by omega) i
      have b2 := Bd ht (c := c) (by omega)
      have w1 := QL (m / q) (by have := lr; have:m < 2 ^ 6 := Int.lt_of_lt_of_le m2 (by have:(2:Nat) ^ (f + 1) <= 2 ^ 6 := Rb (by decide) f6; exact_mod_cast this); omega)
      have w2 := QL (e.getD i 0 + t * (c:Int) + t) (by rcases ht with rfl | rfl <;> omega)
      simp (config := { maxSteps := 1000000 }) only[go_sem, h1', tm, td, hd, qz, w1, lg, pg, pn, pl', w2, aa]
      refine W.draw 8 [0, 0, 1, 7, 15, 0, 63, 1] Tryd.mixed (by kernel_rfl) (by kernel_rfl) ?_
      simp (config := { maxSteps := 1000000 }) only[go_sem, h1', tm, td, hd, qz, w1, lg, pg, pn, pl', w2, aa]
      rw[fo (by omega), LK (by omega)]
      have m3:2 * (m / q) < 2 ^ f * 2 := by have:(2:Int) ^ (f + 1) = 2 ^ f * 2 := Int.pow_succ ..; omega
      refine⟨by omega, by omega, by omega, by rw[aV]; omega, ⟨f, c + 1, m / q, rfl, dr.1, by omega, by omega, by rw[hr, s1], by rw[hc, s2]; omega, by rw[ao, QN rfl], fun j hj => by rw[ao, QQ hj]; exact hold2 j hj, hnx2⟩, by omega⟩
  · obtain⟨s1, s2⟩ := LH hd f
    have w1 := QL ((i:Int) + 1) (by omega)
    simp (config := { maxSteps := 1000000 }) only[go_sem, h1', tm, hd, qz, h9, w1, aa]
    have hcc:c = fH n i := by unfold fH; rw[<- hq]; omega
    have hll:jq n (i + 1) = m := by show fW _ _ _ = m; rw[<- hq, hr, s1]
    refine⟨by omega, ⟨i + 1, rfl, by omega, by rw[hll], by rw[<- LL, <- hcc]; exact hg2, hold2, hnx2⟩, by omega⟩
theorem Bf (i:Nat)(hi:i < 18)(H:AHeap)(K:ARes -> AHeap -> Prop)(hK:K (.ret (ab (iu i))) H):ah Tryd.prog G0 78 [ab i] H K := by
  have hp:(ints fG)[i]? = some (ab (iu i)) := by rw[fC, A9 hi]; rfl
  simp only[fG, ints, List.map_cons, List.map_nil, ab]at hp
  have hi':(i:Int) < 18 := by omega
  refine ah.cu (n := 6) (rs := [.tmp 2]) Tryd.func78 rfl rfl rfl (by decide) (by kernel_rfl) (by simp) ?_
  simp (config := { maxSteps := 1000000 }) only[go_sem, hp, hi, hi', aa]
  exact az.mk (Nat.le_refl _) hK
theorem LN {S:Nat -> Prop}{H:AHeap}{nx:Nat}(l:List Int):Fz S H nx (.agg (ints l)) (.agg (ints l)) := .agg rfl fun i hi _ => by simp only[ints, QY]; exact .lit _
theorem wG {S:Nat -> Prop}{H:AHeap}{nx:Nat}(l:List Int)(v:Value):Fz S H nx (.tup [.agg (ints l), .lit v]) (.tup [.agg (ints l), .lit v]) := by
  refine .tup rfl fun i hi _ => ?_
  match i, hi with
  | 0, _ => exact LN l
  | 1, _ => exact .lit _
theorem s9 {e:List Int}(h:e.length = 18):(ints e).take 18 = ints e := QP (by rw[aX]; omega)
theorem n9:(ints bb).drop 18 = [] := rfl
def pX (g:Int)(e:List Int)(w:Int):List Int := jW (jW e 1 w) (-1) g
def bA (g:Int)(e ws:List Int):List Int := ws.foldl (pX g) e
theorem LW (g:Int)(e ws:List Int)(w:Int):bA g e (ws ++ [w]) = pX g (bA g e ws) w := by unfold bA; rw[R9]; rfl
theorem LX (g:Int)(e a b:List Int):bA g e (a ++ b) = bA g (bA g e a) b := by unfold bA; rw[R9]
theorem wL (g:Int)(ws:List Int):∀ {e:List Int} {b:Int}, 0 <= b -> e.length = 18 -> eI e b -> (bA g e ws).length = 18 /\ eI (bA g e ws) (b + 12 * ws.length) := by
  induction ws with
  | nil => intro e b _ h1 h2; exact⟨h1, by simpa [bA] using h2⟩
  | cons w ws ih =>
    intro e b hb h1 h2
    have := ih (e := pX g e w) (b := b + 6 + 6) (by omega) (wD ..) ((h2.add hb (.inl rfl) w).add (by omega) (.inr rfl) g)
    refine⟨this.1, ?_⟩
    intro x hx
    have := this.2 x hx
    rw[List.length_cons]
    omega
noncomputable def eK (g:Int)(ns:List NodeP)(cs:List Int)(xs:List (List Int)):Int := if fw g ns = true then (if eU cs xs = true then (if aA ns = cs then 0 else 261) else 250) else 50
def bg (ns:List NodeP)(xs:List (List Int)):List Int := (xs.map (df ns)).flatten
noncomputable def fX (g:Int)(ns:List NodeP)(cs:List Int)(xs:List (List Int)):AVal :=
  if eK g ns cs xs ≠ 0 then .tup [.agg (ints bb), ab (eK g ns cs xs)]
  else if ∀ r ∈ xs, jm r = true then (if ∀ w ∈ bg ns xs, w ≠ 0 then .tup [.agg (ints (bA g bb (bg ns xs))), ab 0] else .tup [.agg (ints bb), ab 7])
  else .tup [.agg (ints bb), ab 260]
theorem Bi {ns:List NodeP}{xs:List (List Int)}{i:Nat}{r:List Int}(h:xs[i]? = some r):bg ns (xs.take (i + 1)) = bg ns (xs.take i) ++ df ns r := by
  unfold bg; rw[aU h]; simp
theorem tg (ns:List NodeP)(xs:List (List Int)):(bg ns xs).length = xs.length * ns.length := by
  induction xs with
  | nil => simp [bg]
  | cons r xs ih =>
    have e:bg ns (r :: xs) = df ns r ++ bg ns xs := rfl
    rw[e, List.length_append, ih, oz, List.length_cons, RI]
    omega
theorem LY {ns:List NodeP}{xs:List (List Int)}{i v:Nat}{r:List Int}(h:xs[i]? = some r)(hv:v < ns.length)(h0:cA ns r v = 0):¬ ∀ w ∈ bg ns xs, w ≠ 0 := fun hh => by
  refine hh 0 ?_ rfl
  unfold bg
  rw[R8]
  exact⟨df ns r, Q6.2 ⟨r, an h, rfl⟩, by rw[<- h0]; exact an (mC hv)⟩
theorem LZ (ns : List NodeP) (x : NodeP) (vals : List Int) (hin : fJ x.parents ns.length) (hs : eX (aO ns x)) (hf : dq (aA ns) vals) (H : AHeap) (K : ARes → AHeap → Prop)
    (hK:K (.ret (ab (dD (aO ns x) (aI vals x.parents)))) H):ah Tryd.prog G0 69 [ag (aA ns), ag x.parents, ag vals] H K := by
  have l12 := hs.1
  have pl:(aO ns x).length = x.parents.length := fq _ _
  have vl:(aI vals x.parents).length = x.parents.length := fq _ _
  have hfl:vals.length = ns.length := by rw[hf.1, dE]
  have at_get:∀ (k:Nat) (q:Int), x.parents[k]? = some q -> ∃ (j:Nat) (y:NodeP) (b:Int), q = j /\ ns[j]? = some y /\ vals[j]? = some b /\ (aO ns x)[k]? = some y.card /\ (aI vals x.parents)[k]? = some b /\ 0 <= b /\ b < y.card := fun k q hq => by
    obtain⟨j, rfl, y, hy⟩ := lG (l := ns) (hin q (an hq)).1 (hin q (an hq)).2
    obtain⟨b, hb⟩ := get_of_lt (l := vals) (i := j) (by rw[hfl]; exact get_lt hy)
    have r := hf.2 j y.card b (da hy) hb
    exact⟨j, y, b, rfl, hy, hb, by rw[show (aO ns x)[k]? = _ from lR hq, Int.toNat_natCast, aH (da hy)], by rw[lR hq, Int.toNat_natCast, aH hb], r⟩
  have ft:∀ k, dq ((aO ns x).take k) ((aI vals x.parents).take k) := fun k => ⟨by simp [pl, vl], fun i c b h1 h2 => by
    rw[Th]at h1 h2
    split at h1
    · rename_i hik
      rw[QN hik]at h2
      obtain⟨q, hq⟩ := get_of_lt (l := x.parents) (i := i) (by rw[<- pl]; exact get_lt h1)
      obtain⟨j, y, b', _, _, _, a1, a2, a3⟩ := at_get i q hq
      rw[h1]at a1; rw[h2]at a2
      cases a1; cases a2; exact a3
    · cases h1⟩
  have hr:∀ k, 0 <= eV ((aO ns x).take k) ((aI vals x.parents).take k) /\ eV ((aO ns x).take k) ((aI vals x.parents).take k) < 68719476737 := fun k => by
    rw[tB (ft k).1]
    have a := ot (ft k)
    have b := (hs.take k).prod
    omega
  refine ah.cu (n := 29) (rs := [.tmp 6]) Tryd.func69 rfl rfl rfl (by decide) (by kernel_rfl) (by simp) ?_
  simp (config := { maxSteps := 1000000 }) only[go_sem, aa]
  refine W.aR 268432000 (by rfl) (fun ρ H' => H' = H /\ ∃ k:Nat, ρ 12 = ab k /\ k <= x.parents.length /\ ρ 7 = ab (eV ((aO ns x).take k) ((aI vals x.parents).take k))) (fun ρ H => x.parents.length - (iv (ρ 12)).toNat) ?_ ?_
  · simp (config := { maxSteps := 1000000 }) only[go_sem, aa]
    exact⟨0, rfl, by omega, rfl⟩
  rintro ρ H' ⟨rfl, k, h16, hk, h7⟩
  refine W.vs ?_
  by_cases hb:(k:Int) < x.parents.length
  · obtain⟨q, hq⟩ := get_of_lt (l := x.parents) (i := k) (by omega)
    obtain⟨j, y, b, rfl, hy, hbv, a1, a2, a3⟩ := at_get k q hq
    have hne2 := aM hq
    have hne3 := aM hbv
    have hcy := da hy
    have hne := aM hcy
    have hj:(j:Int) < (aA ns).length := by have := get_lt hcy; omega
    have hj2:(j:Int) < vals.length := by have := get_lt hbv; omega
    have w1 := QL ((k:Int) + 1) (by omega)
    have r1 := hr (k + 1)
    rw[tC a1 a2]at r1
    have r0 := hr k
    have m0:0 <= eV ((aO ns x).take k) ((aI vals x.parents).take k) * y.card := Sc r0.1 (by omega)
    have w2 := QL (eV ((aO ns x).take k) ((aI vals x.parents).take k) * y.card) (by omega)
    have w3 := QL (eV ((aO ns x).take k) ((aI vals x.parents).take k) * y.card + b) (by omega)
    simp (config := { maxSteps := 1000000 }) only[go_sem, h16, h7, hb, hq, hne2, aa]
    refine W.draw 10 [0, 0, 0, 6, 14, 31, 0, 0, 192, 448] Tryd.mixed (by kernel_rfl) (by kernel_rfl) ?_
    simp (config := { maxSteps := 1000000 }) only[go_sem, h16, h7, hb, hq, hne, hne2, hne3, hj, hj2, hbv, hcy, w1, w2, w3, aa]
    exact⟨⟨k + 1, by simp, by omega, by rw[tC a1 a2]⟩, by omega⟩
  · simp (config := { maxSteps := 1000000 }) only[go_sem, h16, h7, hb, aa]
    rw[QP (by omega), QP (by omega), tB (by rw[pl, vl])]
    exact az.mk (Nat.le_refl _) hK
theorem wM {g:Int}{ns:List NodeP}{cs:List Int}{xs:List (List Int)}{e:Int}(h:eK g ns cs xs = e)(he:e ≠ 0):fX g ns cs xs = .tup [.agg (ints bb), ab e] := by
  unfold fX; rw[QN (by rw[h]; exact he), h]
theorem L2 {g:Int}{ns:List NodeP}{cs:List Int}{xs:List (List Int)}(h:fw g ns = false):eK g ns cs xs = 50 := by
  unfold eK; rw[QQ (by rw[h]; decide)]
theorem L3 {g:Int}{ns:List NodeP}{cs:List Int}{xs:List (List Int)}(h:fw g ns = true)(h2:eU cs xs = false):eK g ns cs xs = 250 := by
  unfold eK; rw[QN h, QQ (by rw[h2]; decide)]
theorem L4 {g:Int}{ns:List NodeP}{cs:List Int}{xs:List (List Int)}(h:fw g ns = true)(h2:eU cs xs = true)(h3:¬ aA ns = cs):eK g ns cs xs = 261 := by
  unfold eK; rw[QN h, QN h2, QQ h3]
theorem L5 {g:Int}{ns:List NodeP}{cs:List Int}{xs:List (List Int)}(h:fw g ns = true)(h2:eU cs xs = true)(h3:aA ns = cs):eK g ns cs xs = 0 := by
  unfold eK; rw[QN h, QN h2, QN h3]
theorem L6 {g:Int}{ns:List NodeP}{cs:List Int}{xs:List (List Int)}(h:eK g ns cs xs = 0)(h2:¬ ∀ r ∈ xs, jm r = true):fX g ns cs xs = .tup [.agg (ints bb), ab 260] := by
  unfold fX; rw[QQ (fun hh => hh h), QQ h2]
theorem L7 {g:Int}{ns:List NodeP}{cs:List Int}{xs:List (List Int)}(h:eK g ns cs xs = 0)(h2:∀ r ∈ xs, jm r = true)(h3:¬ ∀ w ∈ bg ns xs, w ≠ 0):fX g ns cs xs = .tup [.agg (ints bb), ab 7] := by
  unfold fX; rw[QQ (fun hh => hh h), QN h2, QQ h3]
theorem L8 {g:Int}{ns:List NodeP}{cs:List Int}{xs:List (List Int)}(h:eK g ns cs xs = 0)(h2:∀ r ∈ xs, jm r = true)(h3:∀ w ∈ bg ns xs, w ≠ 0):fX g ns cs xs = .tup [.agg (ints (bA g bb (bg ns xs))), ab 0] := by
  unfold fX; rw[QQ (fun hh => hh h), QN h2, QN h3]
theorem Bj {g:Int}{ns:List NodeP}{xs:List (List Int)}(hx:xs.length <= 40)(hn:ns.length <= 8){r:List Int}(i v:Nat):(bA g (bA g bb (bg ns (xs.take i))) ((df ns r).take v)).length = 18 /\ eI (bA g (bA g bb (bg ns (xs.take i))) ((df ns r).take v)) 9000 := by
  have h1 := wL g (bg ns (xs.take i)) (e := bb) (b := 0) (by omega) rfl .zero
  have l1:(bg ns (xs.take i)).length <= 320 := by
    rw[tg, QV]
    calc min i xs.length * ns.length <= 40 * 8 := Tu (by omega) hn
      _ = 320 := rfl
  have h2 := wL g ((df ns r).take v) (by omega) h1.1 h1.2
  have l2:((df ns r).take v).length <= 8 := by rw[QV, oz]; omega
  exact⟨h2.1, fun x hx => by have := h2.2 x hx; omega⟩
theorem L9 {g:Int}{ns:List NodeP}{xs:List (List Int)}(hx:xs.length <= 40)(hn:ns.length <= 8)(i:Nat):(bA g bb (bg ns (xs.take i))).length = 18 /\ eI (bA g bb (bg ns (xs.take i))) 9000 := Bj (g := g) (r := []) hx hn i 0
theorem eI.mono {e:List Int}{a b:Int}(h:eI e a)(hab:a <= b):eI e b := fun x hx => by have := h x hx; omega
set_option maxHeartbeats 4000000 in
theorem Bk (g:Int)(ns:List NodeP)(cs:List Int)(xs:List (List Int))(hn:ku ns)(hf:n8 cs xs)(H:AHeap)(K:ARes -> AHeap -> Prop)(hK:K (.ret (fX g ns cs xs)) H):ah Tryd.prog G0 30 [dp g ns, dT cs xs] H K := by
  refine ah.clo ⟨_, Tryd.func30, rfl, rfl⟩ fun hcl => ?_
  have hf' := hf
  obtain⟨f1, f2, f3⟩ := hf
  have hn1 := hn.1
  refine ah.dP (n := 86) (rs := [.cell 4 84, .tmp 5]) Tryd.func30 rfl rfl rfl (by decide) (by simp) ?_
  refine W.sq ?_
  simp (config := { maxSteps := 1000000 }) only[go_sem, dT, aD, dp, ep, aa]
  obtain⟨H1, hH1⟩:∃ H1, H1 = ext H [.arr 0 61 [.lit (.int .i64 g), .vec ns.length (aK ns)], .arr 0 50 [.vec cs.length (ints cs), .vec xs.length (xs.map ag)], .arr 0 84 (ints bb)] := ⟨_, rfl⟩
  have b0:H1.get H.next = some (.arr 0 61 [.lit (.int .i64 g), .vec ns.length (aK ns)]) := by rw[hH1]; exact ez ..
  have b1:H1.get (H.next + 1) = some (.arr 0 50 [.vec cs.length (ints cs), .vec xs.length (xs.map ag)]) := by rw[hH1]; exact bP H _ 1 (by simp)
  have b2:H1.get (H.next + 2) = some (.arr 0 84 (ints bb)) := by rw[hH1]; exact bP H _ 2 (by simp)
  have n1:H1.next = H.next + 3 := by rw[hH1]; rfl
  have o1:Over H H1 := by rw[hH1]; exact .ext _ _
  refine W.env fun E hE => ?_
  have e2:E 2 = .ptr H.next 0 0 := by rw[hE]; simp (config := { maxSteps := 1000000 }) only[go_sem, aa]
  have e3:E 3 = .ptr (H.next + 1) 0 0 := by rw[hE]; simp (config := { maxSteps := 1000000 }) only[go_sem, aa]
  have e4:E 4 = .ptr (H.next + 2) 0 0 := by rw[hE]; simp (config := { maxSteps := 1000000 }) only[go_sem, aa]
  have e5:E 5 = ab 0 := by rw[hE]; simp (config := { maxSteps := 1000000 }) only[go_sem, aa]
  clear hE
  show W _ _ _ _ _ _ ⟨E, ext H [.arr 0 61 [.lit (.int .i64 g), .vec ns.length (aK ns)], .arr 0 50 [.vec cs.length (ints cs), .vec xs.length (xs.map ag)], .arr 0 84 (ints bb)]⟩
  rw[<- hH1]
  clear hH1
  have l0 := aq b0
  have l1 := aq b1
  have l2 := aq b2
  have zt := s9 (e := bb) rfl
  have zl:(ints bb).length = 18 := rfl
  have za := kL bb
  have fail:∀ (c:Int) (Hx:AHeap), fX g ns cs xs = .tup [.agg (ints bb), ab c] -> Over H Hx -> az Tryd.prog G0 H K (.tup [.agg (ints bb), ab c]) Hx := fun c Hx h o => by
    rw[h]at hK
    exact az.cC bz hcl o (wG _ _) hK
  refine W.sq ?_
  simp (config := { maxSteps := 1000000 }) only[go_sem, e2, e3, e4, l0, aa]
  refine aG.clo (Qa g ns hn _ _ ⟨trivial, ?_⟩)
  cases hN:fw g ns
  · simp (config := { maxSteps := 1000000 }) only[go_sem, e2, e3, e4, l2, zt, zl, za, n9, aa]
    exact fail 50 _ (wM (L2 hN) (by decide)) (o1.upd (by omega) _)
  simp (config := { maxSteps := 1000000 }) only[go_sem, aa]
  refine W.sq ?_
  simp (config := { maxSteps := 1000000 }) only[go_sem, e2, e3, e4, l1, aa]
  refine aG.clo (A8 cs xs hf' _ _ ⟨trivial, ?_⟩)
  cases hD:eU cs xs
  · simp (config := { maxSteps := 1000000 }) only[go_sem, e2, e3, e4, l2, zt, zl, za, n9, aa]
    exact fail 250 _ (wM (L3 hN hD) (by decide)) (o1.upd (by omega) _)
  simp (config := { maxSteps := 1000000 }) only[go_sem, aa]
  refine W.sq ?_
  simp (config := { maxSteps := 1000000 }) only[go_sem, e2, e3, e4, l0, l1, aa]
  refine aG.clo (LC g ns cs xs hn1 hf' _ _ ⟨trivial, ?_⟩)
  by_cases hcs:aA ns = cs
  rotate_left
  · simp (config := { maxSteps := 1000000 }) only[go_sem, e2, e3, e4, l2, zt, zl, za, n9, hcs, aa]
    exact fail 261 _ (wM (L4 hN hD hcs) (by decide)) (o1.upd (by omega) _)
  simp (config := { maxSteps := 1000000 }) only[go_sem, hcs, aa]
  have hE0 := L5 hN hD hcs
  subst hcs
  have nok := PR.1 hN
  have dok := A6.1 hD
  refine W.env fun E2 hE2 => ?_
  have a2:E2 2 = .ptr H.next 0 0 := by rw[hE2]; simp (config := { maxSteps := 1000000 }) only[go_sem, e2, aa]
  have a3:E2 3 = .ptr (H.next + 1) 0 0 := by rw[hE2]; simp (config := { maxSteps := 1000000 }) only[go_sem, e3, aa]
  have a4:E2 4 = .ptr (H.next + 2) 0 0 := by rw[hE2]; simp (config := { maxSteps := 1000000 }) only[go_sem, e4, aa]
  have a5:E2 5 = ab 0 := by rw[hE2]; simp (config := { maxSteps := 1000000 }) only[go_sem, e5, aa]
  clear hE2
  refine W.sq ?_
  simp (config := { maxSteps := 1000000 }) only[go_sem, a2, a3, a4, a5, l1, aa]
  refine W.aR 17523466568224 (by rfl) (fun ρ H' => H' = H1 /\ ∃ k:Nat, ρ 36 = ab k /\ k <= xs.length /\ ∀ r ∈ xs.take k, jm r = true) (fun ρ H => xs.length - (iv (ρ 36)).toNat) ?_ ?_
  · simp (config := { maxSteps := 1000000 }) only[go_sem, aa]
    exact⟨0, rfl, by omega, by simp⟩
  rintro ρ H' ⟨rfl, k, h36, hk, hall⟩
  refine W.vs ?_
  by_cases hb:(k:Int) < xs.length
  · obtain⟨r, hr⟩ := get_of_lt (l := xs) (i := k) (by omega)
    have hrm := an hr
    have hr' := pV hr
    have hrn := aM hr'
    have rl := f3 r hrm
    simp (config := { maxSteps := 1000000 }) only[go_sem, h36, hb, hr', hrn, aa]
    refine aG.clo (LA r (-1) (by omega) _ _ ⟨trivial, ?_⟩)
    have wi := Ly (dok.row r hrm)
    by_cases hm:(-1:Int) ∈ r
    · simp (config := { maxSteps := 1000000 }) only[go_sem, hm, a4, l2, zt, zl, za, n9, aa]
      exact fail 260 _ (L6 hE0 fun hh => (wi.1 (hh r hrm)) hm) (o1.upd (by omega) _)
    · have w1 := QL ((k:Int) + 1) (by omega)
      simp (config := { maxSteps := 1000000 }) only[go_sem, hm, h36, w1, aa]
      refine⟨⟨k + 1, rfl, by omega, fun q hq => ?_⟩, by omega⟩
      rw[aU hr]at hq
      rcases Q1.1 hq with hq | hq
      · exact hall q hq
      · obtain rfl := List.mem_singleton.1 hq; exact wi.2 hm
  rw[QP (by omega)]at hall
  simp (config := { maxSteps := 1000000 }) only[go_sem, h36, hb, aa]
  refine W.env fun E3 hE3 => ?_
  have c2:E3 2 = .ptr H.next 0 0 := by rw[hE3]; simp (config := { maxSteps := 1000000 }) only[go_sem, a2, aa]
  have c3:E3 3 = .ptr (H.next + 1) 0 0 := by rw[hE3]; simp (config := { maxSteps := 1000000 }) only[go_sem, a3, aa]
  have c4:E3 4 = .ptr (H.next + 2) 0 0 := by rw[hE3]; simp (config := { maxSteps := 1000000 }) only[go_sem, a4, aa]
  clear hE3
  refine W.sq ?_
  simp (config := { maxSteps := 1000000 }) only[go_sem, aa]
  obtain⟨Hs, hHs⟩:∃ Hs, Hs = ext H' [.arr 0 84 (ints bb)] := ⟨_, rfl⟩
  have ns':Hs.next = H.next + 4 := by rw[hHs]; show H'.next + 1 = _; omega
  have os:Over H' Hs := by rw[hHs]; exact .ext _ _
  have b10:Hs.get (H.next + 3) = some (.arr 0 84 (ints bb)) := by rw[hHs, <- n1]; exact cQ
  have oall := o1.trans os
  have s0 := (os.old _ (by omega)).trans b0
  have s1 := (os.old _ (by omega)).trans b1
  have s2 := (os.old _ (by omega)).trans b2
  refine W.env fun E4 hE4 => ?_
  have d2:E4 2 = .ptr H.next 0 0 := by rw[hE4]; simp (config := { maxSteps := 1000000 }) only[go_sem, c2, aa]
  have d3:E4 3 = .ptr (H.next + 1) 0 0 := by rw[hE4]; simp (config := { maxSteps := 1000000 }) only[go_sem, c3, aa]
  have d4:E4 4 = .ptr (H.next + 2) 0 0 := by rw[hE4]; simp (config := { maxSteps := 1000000 }) only[go_sem, c4, aa]
  have d10:E4 10 = .ptr (H.next + 3) 0 0 := by rw[hE4]; simp (config := { maxSteps := 1000000 }) only[go_sem, n1, aa]
  clear hE4
  show W _ _ _ _ _ _ ⟨E4, ext H' [.arr 0 84 (ints bb)]⟩
  rw[<- hHs]
  clear hHs
  have m0 := aq s0
  have m1 := aq s1
  have m2 := aq s2
  refine W.sq ?_
  simp (config := { maxSteps := 1000000 }) only[go_sem, d3, m1, aa]
  have nn8 := nok.n1.2
  have x40 := dok.x1
  refine W.aR 38685626227527396102303776 (by rfl) (fun ρ Hx => ∃ i:Nat, ρ 47 = ab i /\ i <= xs.length /\ Hs.next <= Hx.next /\ (∀ id, id < H.next + 3 -> Hx.get id = Hs.get id) /\ Hx.get (H.next + 3) = some (.arr 0 84 (ints (bA g bb (bg ns (xs.take i))))) /\ ∀ w ∈ bg ns (xs.take i), w ≠ 0) (fun ρ H => xs.length - (iv (ρ 47)).toNat) ?_ ?_
  · simp (config := { maxSteps := 1000000 }) only[go_sem, aa]
    exact⟨0, rfl, by omega, b10, by simp [bg]⟩
  rintro ρ2 Hx ⟨i, h47, hi, hnx, hold, hg10, hnz⟩
  refine W.vs ?_
  have p2 := aq ((hold _ (by omega)).trans s2)
  have p10 := aq hg10
  by_cases hb2:(i:Int) < xs.length
  rotate_left
  · rw[QP (by omega)]at hg10 hnz p10
    have fs := L9 (g := g) (xs := xs) x40 nn8 xs.length
    rw[QP (Nat.le_refl _)]at fs
    have ft := s9 fs.1
    have fl:(ints (bA g bb (bg ns xs))).length = 18 := by rw[aX, fs.1]
    have fa := kL (bA g bb (bg ns xs))
    have fl1 := fs.1
    simp (config := { maxSteps := 1000000 }) only[go_sem, h47, hb2, d4, d10, aa]
    refine W.vs ?_
    simp (config := { maxSteps := 1000000 }) only[go_sem, h47, hb2, d4, d10, p2, p10, ft, fl, fa, fl1, zl, n9, aa]
    rw[L8 hE0 hall hnz]at hK
    exact az.cC bz hcl ⟨by rw[aV]; omega, fun id h => by rw[ao, QQ (by omega), hold id (by omega)]; exact oall.old id h⟩ (wG _ _) hK
  obtain⟨r, hr⟩ := get_of_lt (l := xs) (i := i) (by omega)
  have hrm := an hr
  have hr' := pV hr
  have hrn := aM hr'
  have hfit:dq (aA ns) r := Lx (dok.row r hrm) (hall r hrm)
  have p0 := aq ((hold _ (by omega)).trans s0)
  have p1 := aq ((hold _ (by omega)).trans s1)
  obtain⟨e, he⟩:∃ e, e = bA g bb (bg ns (xs.take i)) := ⟨_, rfl⟩
  rw[<- he]at hg10
  simp (config := { maxSteps := 1000000 }) only[go_sem, h47, hb2, hr', hrn, d2, p0, aa]
  refine W.aR 19342813095819668285874208 (by rfl) (fun ρ3 Hy => ∃ v:Nat, ρ3 54 = ab v /\ v <= ns.length /\ Hx.next <= Hy.next /\ (∀ id, id < H.next + 3 -> Hy.get id = Hs.get id) /\ Hy.get (H.next + 3) = some (.arr 0 84 (ints (bA g e ((df ns r).take v)))) /\ ∀ w ∈ (df ns r).take v, w ≠ 0) (fun ρ3 H => ns.length - (iv (ρ3 54)).toNat) ?_ ?_
  · simp (config := { maxSteps := 1000000 }) only[go_sem, aa]
    exact⟨0, rfl, by omega, hold, hg10, by simp⟩
  rintro ρ3 Hy ⟨v, h54, hv, hny, holdy, hgy, hnzv⟩
  refine W.env fun E5 hE5 => ?_
  have f2:E5 2 = .ptr H.next 0 0 := by rw[hE5]; simp (config := { maxSteps := 1000000 }) only[go_sem, d2, aa]
  have f3:E5 3 = .ptr (H.next + 1) 0 0 := by rw[hE5]; simp (config := { maxSteps := 1000000 }) only[go_sem, d3, aa]
  have f4:E5 4 = .ptr (H.next + 2) 0 0 := by rw[hE5]; simp (config := { maxSteps := 1000000 }) only[go_sem, d4, aa]
  have f10:E5 10 = .ptr (H.next + 3) 0 0 := by rw[hE5]; simp (config := { maxSteps := 1000000 }) only[go_sem, d10, aa]
  have f12:E5 12 = ag r := by rw[hE5]; simp (config := { maxSteps := 1000000 }) only[go_sem, aa]
  have f47:E5 47 = ab i := by rw[hE5]; simp (config := { maxSteps := 1000000 }) only[go_sem, h47, aa]
  have f52:E5 52 = .vec ns.length (aK ns) := by rw[hE5]; simp (config := { maxSteps := 1000000 }) only[go_sem, aa]
  have f53:E5 53 = ab ns.length := by rw[hE5]; simp (config := { maxSteps := 1000000 }) only[go_sem, aa]
  have f54:E5 54 = ab v := by rw[hE5]; simp (config := { maxSteps := 1000000 }) only[go_sem, h54, aa]
  clear hE5
  refine W.vs ?_
  by_cases hb3:(v:Int) < ns.length
  rotate_left
  · obtain rfl:v = ns.length := by omega
    rw[QP (by rw[oz]; omega)]at hgy hnzv
    have w1 := QL ((i:Int) + 1) (by omega)
    simp (config := { maxSteps := 1000000 }) only[go_sem, f53, f54, f47, hb3, w1, aa]
    refine⟨by omega, ⟨i + 1, rfl, by omega, by omega, holdy, ?_, fun w hw => ?_⟩, by omega⟩
    · rw[Bi hr, LX, <- he]; exact hgy
    · rw[Bi hr]at hw
      rcases Q1.1 hw with hw | hw
      · exact hnz w hw
      · exact hnzv w hw
  obtain⟨x, hx⟩ := get_of_lt (l := ns) (i := v) (by omega)
  have hxm := an hx
  have hin:fJ x.parents ns.length := fun q hq => by have := (nok.node x hxm).2.2 q hq; omega
  have sm := tM nn8 (nok.node x hxm).2 fun y hy => (nok.node y hy).1
  obtain⟨i0, row, a, w, hR⟩ := PG nok hx hfit
  obtain⟨a', rfl⟩ := Rf hR.a0
  have hra:row[a']? = some w := by have := hR.hw; rw[Int.toNat_natCast]at this; exact this
  have hrane := aM hra
  have hva := hR.val
  have hvne := aM hva
  have hri := pV hR.row
  have hrine := aM hri
  have hvv:(v:Int) < r.length := by have := get_lt hva; omega
  have hal := hR.al
  have hi0:(i0:Int) < x.rows.length := by have := get_lt hR.row; omega
  have e0 := oo hx
  have e1:v * 3 + 3 <= (aK ns).length := by rw[iy]; omega
  have hne := jv hx
  have q1 := aq ((holdy _ (by omega)).trans s1)
  have q1e:∀ L, (ext Hy L).live (H.next + 1) 0 = _ := fun L => (jb (by omega)).trans q1
  simp (config := { maxSteps := 1000000 }) only[go_sem, f52, f53, f54, hb3, hne, e0, e1, aa]
  refine W.draw 14 [0, 1, 0, 4, 0, 16, 0, 124, 255, 511, 0, 0, 3072, 7168] Tryd.mixed (by kernel_rfl) (by kernel_rfl) ?_
  simp (config := { maxSteps := 1000000 }) only[go_sem, f3, f12, q1e, aD, aa]
  refine⟨ab i0, [], fQ.pure (fun H2 => LZ ns x r hin sm hfit H2 _ ⟨by rw[hR.idx], rfl⟩), ?_⟩
  simp (config := { maxSteps := 1000000 }) only[go_sem, f3, f12, q1e, hi0, hri, hrine, hva, hvne, hvv, hra, hrane, hal, aa]
  obtain⟨Hn, hHn⟩:∃ Hn, Hn = ext Hy [.arr 0 91 [.lit (.int .i64 x.card), .vec x.parents.length (ints x.parents), aD x.rows]] := ⟨_, rfl⟩
  have nn1:Hn.next = Hy.next + 1 := by rw[hHn]; rfl
  have holdn:∀ id, id < H.next + 3 -> Hn.get id = Hs.get id := fun id h => by rw[hHn, jN _ _ _ (by omega)]; exact holdy id h
  have gn10:Hn.get (H.next + 3) = some (.arr 0 84 (ints (bA g e ((df ns r).take v)))) := by rw[hHn, jN _ _ _ (by omega)]; exact hgy
  have fsm := Bj (g := g) (r := r) x40 nn8 (xs := xs) i v
  rw[<- he]at fsm
  have r0 := aq ((holdn _ (by omega)).trans s0)
  have r2 := aq ((holdn _ (by omega)).trans s2)
  rw[show aD x.rows = .vec x.rows.length (x.rows.map ag) from rfl]at hHn
  rw[<- hHn]
  by_cases hw0:w = 0
  · simp (config := { maxSteps := 1000000 }) only[go_sem, hw0, f4, r2, zt, zl, za, n9, aa]
    rw[L7 hE0 hall (LY hr (get_lt hx) (by rw[hR.eq, hw0]))]at hK
    exact az.cC bz hcl ⟨by rw[aV]; omega, fun id h => by rw[ao, QQ (by omega), holdn id (by omega)]; exact oall.old id h⟩ (wG bb _) hK
  have g60 := nok.g1
  have wb := hR.wb
  simp (config := { maxSteps := 1000000 }) only[go_sem, hw0, f10, aa]
  refine aG.clo (Be (H.next + 3) _ w 1 (by omega) (.inl rfl) fsm.1 (fsm.2.mono (by omega)) Hn gn10 _ fun Hm gm holdm nm => ⟨trivial, ?_⟩)
  have rm0 := aq ((holdm _ (by omega)).trans ((holdn _ (by omega)).trans s0))
  simp (config := { maxSteps := 1000000 }) only[go_sem, f2, f10, rm0, aa]
  refine aG.clo (Be (H.next + 3) _ g (-1) (by omega) (.inr rfl) (wD ..) ((fsm.2.add (by omega) (.inl rfl) w).mono (by omega)) Hm gm _ fun Hm2 gm2 holdm2 nm2 => ⟨trivial, ?_⟩)
  have w1 := QL ((v:Int) + 1) (by omega)
  simp (config := { maxSteps := 1000000 }) only[go_sem, f54, w1, aa]
  refine⟨by omega, ⟨v + 1, rfl, by omega, by omega, fun id h => by rw[holdm2 id (by omega), holdm id (by omega)]; exact holdn id h, ?_, fun q hq => ?_⟩, by rw[h54]; simp only[ab, cL]; omega⟩
  · rw[aU (mC (get_lt hx)), LW, hR.eq]
    exact gm2
  · rw[aU (mC (get_lt hx)), hR.eq]at hq
    rcases Q1.1 hq with hq | hq
    · exact hnzv q hq
    · obtain rfl := List.mem_singleton.1 hq; exact hw0
end Go.Proofs
namespace Go.Proofs.R01
open Go.Hx
section
variable {P:Program} {t:TypeId} {x y:Operand} {k k':IntKind} {a b:Int}
theorem pureRun_bind {α β:Type}{s:Sem α}{f:α -> Sem β}{a:α}(h:bM P s = some a):bM P (s >>= f) = bM P (f a) := by
  induction s with
  | pure b => simp only[bM, Option.some.injEq]at h; subst h; rfl
  | program k ih => exact ih P h
  | mark m k ih => exact ih h
  | _ => simp [bM]at h
end
section
variable {P:Program} {G:Nat -> Option (List AVal)}
end
def qV (n d:Int):AVal := .agg [.lit (.int .i64 n), .lit (.int .i64 d)]
theorem xe {S:Nat -> Prop}{H:AHeap}{nx:Nat}(n d:Int):Fz S H nx (.agg [.lit (.int .i64 n), .lit (.int .i64 d)]) (qV n d) :=
  .agg rfl fun i hi _ => match i, hi with
    | 0, _ => .lit _
    | 1, _ => .lit _
end Go.Proofs.R01
namespace Go.Proofs.R01
open Go.Hx
def val:List Int -> Nat
  | [] => 0
  | a :: l => a.toNat + 10000 * val l
end Go.Proofs.R01
namespace Go.Proofs.R01
open Go.Hx
theorem xF {H H' H2:AHeap}{v:AVal}{cs:List AVal}{e:TypeId}(ov:Over H H')(h:aF H.next H' e v cs)(hn:H'.next <= H2.next)(hp:∀ k, k < H'.next -> (∀ g n, v ≠ .own k g 0 n 1) -> H2.get k = H'.get k):Over H H2 :=
  ⟨by have := ov.next; omega, fun id hid => by
    rw[hp id (by have := ov.next; omega) fun g n he => ?_, ov.old id hid]
    rcases h with ⟨h, _⟩ | ⟨i2, g2, a1, _, h, _⟩
    · rw[h]at he; cases he
    · rw[h]at he; have := AVal.own.inj he; omega⟩
end Go.Proofs.R01
namespace Go.Proofs.R01
open Go.Hx
end Go.Proofs.R01
namespace Go.Proofs.R01
open Go.Hx
theorem fo {l:List Int}{k:Nat}(v:Int)(h:k < l.length):setAt (ints l) k [.lit (.int .i64 v)] = ints (l.set k v) := by
  unfold setAt ints
  rw[Tf, SQ, QN (by simpa using h)]
  simp [ab]
end Go.Proofs.R01
namespace Go.Proofs.R01
open Go.Hx
end Go.Proofs.R01
namespace Go.Proofs.R01
open Go.Hx
end Go.Proofs.R01
namespace Go.Proofs.R01
open Go.Hx
def vn:AVal -> Nat
  | .vec _ l => val (l.map iv)
  | _ => 0
end Go.Proofs.R01
namespace Go.Proofs.R01
open Go.Hx
end Go.Proofs.R01
namespace Go.Hx
variable {P:Program} {H H':AHeap}
end Go.Hx
namespace Go.Proofs
open Go.Hx
def U8 (n:Int):Prop := 0 <= n /\ n < 256
structure IsPerm (n:Nat)(p:List Int):Prop where
  len:p.length = n
  nd:p.Nodup
  rng:∀ x ∈ p, 0 <= x /\ x < n
theorem OQ {n:Nat}{p:List Int}(h:IsPerm n p)(at':Nat)(ha:at' <= n):IsPerm (n + 1) (p.take at' ++ (n:Int) :: p.drop at') := by
  have hperm:(p.take at' ++ (n:Int) :: p.drop at').Perm ((n:Int) :: p) := by
    have := List.perm_middle (a := (n:Int)) (l₁ := p.take at') (l₂ := p.drop at')
    rwa [RW]at this
  refine⟨by rw[hperm.length_eq]; simp [h.len], (hperm.nodup_iff).2 (S6.2 ⟨fun hm => ?_, h.nd⟩), fun x hx => ?_⟩
  · have := h.rng _ hm; omega
  · rcases List.mem_cons.1 (hperm.mem_iff.1 hx) with rfl | h2
    · omega
    · have := h.rng x h2; omega
def xB (ord:List Int)(k:Nat):Nat := if k < ord.length then (ord.getD k 0 % ((k:Int) + 1)).toNat else 0
def ks (ord:List Int):Nat -> List Int
  | 0 => []
  | k + 1 => (ks ord k).take (xB ord k) ++ (k:Int) :: (ks ord k).drop (xB ord k)
end Go.Proofs
namespace Go.Hx
open Go.Proofs (get_lt get_of_lt)
variable {P:Program} {H:AHeap} {G:Nat -> Option (List AVal)}
def cX (lo:Nat)(H:AHeap)(e1 e0:TypeId)(v:AVal)(rows:List (List AVal)):Prop :=
  ∃ cs:List AVal, aF lo H e1 v cs /\ cs.length = rows.length /\ (∀ (j:Nat) (r:List AVal) (c:AVal), rows[j]? = some r -> cs[j]? = some c -> aF lo H e0 c r) /\ ∀ (i j a g g' n n':Nat), cs[i]? = some (.own a g 0 n 1) -> cs[j]? = some (.own a g' 0 n' 1) -> i = j
theorem cX.nil {lo:Nat}{e1 e0:TypeId}:cX lo H e1 e0 (.lit (.slice none 0 0)) [] := ⟨[], .nil, rfl, fun j r c h => by simp at h, fun i j a g g' n n' h => by simp at h⟩
theorem cX.Cu {lo:Nat}{e1 e0:TypeId}{v:AVal}{rows:List (List AVal)}(h:cX lo H e1 e0 v rows):iq lo H e1 e0 v rows :=
  let ⟨cs, a, b, c, _⟩ := h; ⟨cs, a, b, c⟩
theorem cX.lo {lo lo':Nat}{e1 e0:TypeId}{v:AVal}{rows:List (List AVal)}(h:cX lo H e1 e0 v rows)(hl:lo' <= lo):cX lo' H e1 e0 v rows :=
  let ⟨cs, a, b, c, d⟩ := h; ⟨cs, a.keep hl (Nat.le_refl _) fun _ _ _ _ _ _ => rfl, b, fun j r q h1 h2 => (c j r q h1 h2).keep hl (Nat.le_refl _) fun _ _ _ _ _ _ => rfl, d⟩
theorem cX.app {Hx : AHeap} {lo n : Nat} {e1 e0 : TypeId} {v x : AVal} {rows : List (List AVal)} {r : List AVal} {t : TypeId} {z : List AVal} (ht : P.underlying t = some (.slice e1)) (hz : P.cellsOf e1 = 1) (hzero : bH P e1 = some z) (hby : P.bytesOf e1 = 24) (hne : e1 ≠ e0)
    (hb:rows.length < 2 ^ 40) (h:cX lo Hx e1 e0 v rows) (ho:Over Hx H) (hlo:lo <= Hx.next) (hx:aF Hx.next H e0 x r) (hn:n = H.next + 1):
    ∃ v' H', bC P (ext H [.arr 0 e1 [x]]) n t t v (.own H.next 0 0 1 1) = some (v', H') /\ cX lo H' e1 e0 v' (rows ++ [r]) /\ H.next <= H'.next /\ (∀ k, k < H.next -> k < lo -> H'.get k = H.get k) := by
  obtain⟨cs, h1, h2, h3, h4⟩ := h
  have hon := ho.next
  have h1' := h1.over ho
  obtain⟨v', H', hA, hO, hL, hp⟩ := jQ (P := P) (t := t) ht hz hzero hx.one (by rw[hby, h2]; omega) h1' (by omega) hn
  have key:∀ lo' u l, aF lo' H e0 u l -> aF lo' H' e0 u l := fun lo' u l hu => h1'.uZ hu hne hL hp
  have split:∀ (j:Nat) (c:AVal), (cs ++ [x])[j]? = some c -> (j < cs.length /\ cs[j]? = some c) \/ (j = cs.length /\ c = x) := fun j c hc => by
    rcases Q3 j cs.length with hj | hj
    · rw[Q0 hj]at hc
      exact .inl ⟨hj, hc⟩
    · have := get_lt hc
      rw[List.length_append, Sy]at this
      have hj:j = cs.length := by omega
      subst hj
      rw[Q2 (Nat.le_refl _), R7]at hc
      exact .inr ⟨rfl, (Option.some.inj hc).symm⟩
  have old:∀ (j a g m:Nat), cs[j]? = some (.own a g 0 m 1) -> a < Hx.next := fun j a g m hc => by
    obtain⟨r', hr'⟩:∃ r', rows[j]? = some r' := ⟨_, QK (by rw[<- h2]; exact get_lt hc)⟩
    rcases h3 j r' _ hr' hc with ⟨e, _⟩ | ⟨i, g', _, b, e, _⟩
    · cases e
    · rw[(AVal.own.inj e).1]; exact b
  have new:∀ a g m, x = .own a g 0 m 1 -> Hx.next <= a := fun a g m he => by
    rcases hx with ⟨e, _⟩ | ⟨i, g', b, _, e, _⟩
    · rw[e]at he; cases he
    · rw[e]at he; rw[<- (AVal.own.inj he).1]; exact b
  refine⟨v', H', hA, ⟨cs ++ [x], hO, by simp [h2], fun j r' c hr hc => ?_, fun i j a g g' m m' hi hj => ?_⟩, hL, fun k hk hkl => hp k hk (h1.ne hkl)⟩
  · rcases split j c hc with ⟨a, b⟩ | ⟨a, b⟩
    · rw[Q0 (by omega)]at hr
      exact key _ _ _ ((h3 j r' c hr b).over ho)
    · rw[a, h2, Q2 (Nat.le_refl _), R7]at hr
      cases hr
      rw[b]
      exact key _ _ _ (hx.keep hlo (Nat.le_refl _) fun _ _ _ _ _ _ => rfl)
  · rcases split i _ hi with ⟨a1, b1⟩ | ⟨a1, b1⟩ <;> rcases split j _ hj with ⟨a2, b2⟩ | ⟨a2, b2⟩
    · exact h4 i j a g g' m m' b1 b2
    · have := old i a g m b1
      have := new a g' m' b2.symm
      omega
    · have := old j a g' m' b2
      have := new a g m b1.symm
      omega
    · omega
theorem cX.row {lo : Nat} {e1 e0 : TypeId} {v : AVal} {rows : List (List AVal)} (h : cX lo H e1 e0 v rows) (hne : e1 ≠ e0) {k : Nat} {r : List AVal} (hr : rows[k]? = some r) (h0 : r ≠ []) :
    ∃ idt gt idr gr cells, v = .own idt gt 0 rows.length 1 /\ H.get idt = some (.arr gt e1 cells) /\ cells.length = rows.length /\ lo <= idt /\ idt < H.next /\ cells[k]? = some (.own idr gr 0 r.length 1) /\ H.get idr = some (.arr gr e0 r) /\ lo <= idr /\ idr < H.next /\
      ∀ r':List AVal, r'.length = r.length -> cX lo (H.upd idr (.arr gr e0 r')) e1 e0 v (rows.set k r') := by
  obtain⟨cs, h1, h2, h3, h4⟩ := h
  have hk := get_lt hr
  obtain⟨c, hc⟩ := get_of_lt (l := cs) (i := k) (by omega)
  rcases h3 k r c hr hc with ⟨_, e⟩ | ⟨idr, gr, a1, a2, e, a4⟩
  · exact absurd e h0
  rcases h1 with ⟨_, e'⟩ | ⟨idt, gt, b1, b2, e', b4⟩
  · rw[e']at h2; simp at h2; omega
  subst e
  have hit:idt ≠ idr := fun e => by rw[e, a4]at b4; cases b4; exact hne rfl
  refine⟨idt, gt, idr, gr, cs, by rw[e', h2], b4, h2, b1, b2, hc, a4, a1, a2, fun r' hl => ⟨cs, .inr ⟨idt, gt, b1, by rw[aV]; exact b2, e', by rw[ao, QQ hit]; exact b4⟩, by rw[Q8]; exact h2, fun j q c' hj hc' => ?_, h4⟩⟩
  by_cases e:j = k
  · subst e
    rw[Rj hk]at hj
    rw[hc]at hc'
    cases hj
    cases hc'
    exact .inr ⟨idr, gr, a1, by rw[aV]; exact a2, by rw[hl], by rw[ao, QN rfl]⟩
  · rw[Rl (fun h => e h.symm)]at hj
    refine(h3 j q c' hj hc').keep (Nat.le_refl _) (by rw[aV]; exact Nat.le_refl _) fun i g _ _ _ hv => ?_
    rw[ao, QQ]
    rintro rfl
    rw[hv]at hc'
    exact e (h4 j k i g gr _ _ hc' hc)
theorem cH.Cv (hG:el G){s:St}{n t0:Nat}{v':AVal}(hv:Fz (fun id => n <= id) s.H s.H.next (s.ρ t0) v'):cH P G s ⟨fun t => if t = t0 then v' else s.ρ t, s.H.cut n⟩ := by
  intro m wb Γ a w hs
  refine cH.freeze (s := s) (s' := ⟨fun t => if t = t0 then v' else s.ρ t, s.H.cut n⟩) hG (vd hs.heap.clo n) (fun t => ?_) m wb Γ a w hs
  by_cases h:t = t0
  · subst h
    simp only[if_true]
    exact hv
  · simp only[h, if_false]
    exact .dead (hs.env t).nG
end Go.Hx
namespace Go.Proofs
open Go.Hx
theorem Cw {S:Nat -> Prop}{lo nx:Nat}{H:AHeap}{e1 e0:TypeId}{v:AVal}{ps:List (List Int)}(h:iq lo H e1 e0 v (ps.map ints))(hS:∀ i, lo <= i -> S i):Fz S H nx v (aD ps) := by
  have := h.fz (S := S) (nx := nx) (rows' := ps.map ints) hS rfl fun j r r' h1 h2 => by
    rw[h1]at h2
    cases h2
    refine⟨rfl, fun i hi _ => ?_⟩
    rw[List.getElem?_map]at h1
    obtain⟨z, _, rfl⟩ := QJ.1 h1
    have e0:(ints z)[i]? = some (ints z)[i] := QK hi
    generalize (ints z)[i] = a at e0 ⊢
    rw[fC]at e0
    obtain⟨b, _, rfl⟩ := QJ.1 e0
    exact .lit _
  rw[QX, List.map_map]at this
  have e:(ps.map ((fun r:List AVal => AVal.vec r.length r) ∘ ints)) = ps.map ag := Rm fun z _ => by simp [Function.comp, ag, aX]
  rw[e]at this
  exact this
structure D25 where
  cards:List Int
  cases:List (List Int)
  follow:Int
  miss:List Int
def jX (l:List (List Int)):List AVal := (l.map dA).flatten
def D25.cells (d:D25):List AVal := [.vec d.cards.length (dA d.cards), .vec d.cases.length (jX d.cases), .lit (.int .u8 d.follow), .vec d.miss.length (dA d.miss)]
structure D25.Ok (d:D25):Prop where
  cl:(d.cards.length:Int) < 2 ^ 63
  c8:∀ x ∈ d.cards, U8 x
  xl:(d.cases.length:Int) < 2 ^ 63
  x8:∀ r ∈ d.cases, r.length = 5 /\ ∀ x ∈ r, U8 x
  f8:U8 d.follow
  ml:(d.miss.length:Int) < 2 ^ 63
  m8:∀ x ∈ d.miss, U8 x
theorem LO {l:List (List Int)}(h:∀ r ∈ l, r.length = 5){i j:Nat}{r:List Int}{x:Int}(hr:l[i]? = some r)(hx:r[j]? = some x):(jX l)[i * 5 + j]? = some (.lit (.int .u8 x)) := by
  induction l generalizing i with
  | nil => simp at hr
  | cons a l ih =>
    have ha:(dA a).length = 5 := by rw[jU]; exact h a (by simp)
    simp only[jX, List.map_cons, List.flatten_cons]
    cases i with
    | zero =>
      obtain rfl:a = r := by simpa using hr
      have hj := get_lt hx
      rw[Sj, Nat.zero_add, Q0 (by rw[jU]; exact hj), sZ hx]
    | succ i =>
      rw[show (i + 1) * 5 + j = 5 + (i * 5 + j) by omega, Q2 (by omega), ha, show 5 + (i * 5 + j) - 5 = i * 5 + j by omega]
      exact ih (fun r hr => h r (by simp [hr])) (by simpa using hr)
theorem LP {l:List (List Int)}(h:∀ r ∈ l, r.length = 5):(jX l).length = l.length * 5 := by
  induction l with
  | nil => rfl
  | cons a l ih =>
    have ha:(dA a).length = 5 := by rw[jU]; exact h a (by simp)
    have := ih fun r hr => h r (by simp [hr])
    simp only[jX, List.map_cons, List.flatten_cons, List.length_append, List.length_cons]at this ⊢
    omega
def jY (l:List Int):List Int := (l.take 5).map fun x => 2 + x % 2
def bU (d:D25):List Int := if jY d.cards = [] then [2] else jY d.cards
def eo (cs:List Int)(f:Int)(raw:List Int):Nat -> List Int
  | 0 => []
  | v + 1 => eo cs f raw v ++ [(if 0 < v /\ raw.getD v 0 % 8 < f % 8 then (eo cs f raw v).getD (v - 1) 0 else raw.getD v 0) % cs.getD v 2]
def eJ (d:D25):List (List Int) := (d.cases.take 40).map fun r => eo (bU d) d.follow r (bU d).length
def gV (xs:List (List Int))(m:Int):List (List Int) :=
  let i := (m / 5 % (xs.length:Int)).toNat
  let r := xs.getD i []
  xs.set i (r.set (m % (r.length:Int)).toNat (-1))
def js (d:D25):List (List Int) := d.miss.foldl gV (eJ d)
theorem LQ (l:List Int):∀ c ∈ jY l, 2 <= c /\ c <= 3 := fun c h => by
  obtain⟨x, _, rfl⟩ := Q6.1 h
  omega
theorem pW (d:D25):∀ c ∈ bU d, 2 <= c /\ c <= 3 := fun c h => by
  unfold bU at h
  split at h
  · obtain rfl := List.mem_singleton.1 h; omega
  · exact LQ _ c h
theorem wH (d:D25):1 <= (bU d).length /\ (bU d).length <= 5 := by
  unfold bU
  split
  · exact⟨by simp, by simp⟩
  · rename_i h
    refine⟨SL.2 h, ?_⟩
    simp only[jY, QX, QV]
    omega
theorem jZ (cs:List Int)(f:Int)(raw:List Int):∀ v, (eo cs f raw v).length = v
  | 0 => rfl
  | v + 1 => by simp [eo, jZ cs f raw v]
theorem LR {l:List Int}(h:∀ x ∈ l, 0 <= x)(k:Nat):0 <= l.getD k 0 := by
  rw[QM]
  cases hk:l[k]? with
  | none => exact Int.le_refl _
  | some x => exact h x (an hk)
theorem tc {cs:List Int}(hc:∀ c ∈ cs, 2 <= c /\ c <= 3){f:Int}{raw:List Int}(hr:∀ x ∈ raw, 0 <= x):∀ v k x, (eo cs f raw v)[k]? = some x -> 0 <= x /\ x < cs.getD k 2 := by
  have cp:∀ k, 2 <= cs.getD k 2 := fun k => by
    rw[QM]
    cases hk:cs[k]? with
    | none => exact Int.le_refl _
    | some c => exact(hc c (an hk)).1
  intro v
  induction v with
  | zero => intro k x h; simp [eo]at h
  | succ v ih =>
    intro k x h
    unfold eo at h
    rcases Q3 k v with hk | hk
    · rw[Q0 (by rw[jZ]; exact hk)]at h
      exact ih k x h
    · have := get_lt h
      rw[List.length_append, Sy, jZ]at this
      obtain rfl:k = v := by omega
      rw[Q2 (by rw[jZ]; exact Nat.le_refl _), jZ, R7]at h
      obtain rfl := Option.some.inj h
      exact⟨RU _ (by have := cp k; omega), RF _ (by have := cp k; omega)⟩
theorem LS {cs:List Int}(hc:∀ c ∈ cs, 2 <= c /\ c <= 3){f:Int}{raw:List Int}(hr:∀ x ∈ raw, 0 <= x)(v:Nat):∀ x ∈ eo cs f raw v, 0 <= x := fun x hx => by
  obtain⟨k, hk⟩ := Ub hx
  exact(tc hc hr v k x hk).1
theorem wI {d:D25}:(eJ d).length <= 40 /\ ∀ r ∈ eJ d, r.length = (bU d).length := by
  refine⟨by unfold eJ; rw[QX, QV]; omega, fun r hr => ?_⟩
  obtain⟨q, _, rfl⟩ := Q6.1 hr
  exact jZ ..
def lh (n:Nat)(xs:List (List Int)):Prop := ∀ r ∈ xs, r.length = n
theorem lh.set {n:Nat}{xs:List (List Int)}(h:lh n xs){i:Nat}{r:List Int}(hr:r.length = n):lh n (xs.set i r) := fun q hq => by
  rcases Ru hq with h' | rfl
  · exact h q h'
  · exact hr
theorem Bg {n:Nat}{xs:List (List Int)}(h:lh n xs)(m:Int):(gV xs m).length = xs.length /\ lh n (gV xs m) := by
  refine⟨by simp [gV], ?_⟩
  unfold gV
  intro q hq
  rcases Ru hq with h' | rfl
  · exact h q h'
  · rw[Q8]
    rw[QM]
    cases hk:xs[(m / 5 % (xs.length:Int)).toNat]? with
    | none =>
      exfalso
      have hm:xs.set (m / 5 % (xs.length:Int)).toNat (((xs.getD (m / 5 % (xs.length:Int)).toNat []).set (m % ((xs.getD (m / 5 % (xs.length:Int)).toNat []).length:Int)).toNat (-1))) = xs := by
        apply RX
        exact SI.1 hk
      rcases Sf xs.length with h0 | h0
      · rw[QT h0]at hq
        simp at hq
      · have := RF (m / 5) (show (0:Int) < xs.length by omega)
        have := RU (m / 5) (show (xs.length:Int) ≠ 0 by omega)
        have := SI.1 hk
        omega
    | some r => exact h r (an hk)
theorem wJ {n:Nat}(ms:List Int):∀ {xs:List (List Int)}, lh n xs -> (ms.foldl gV xs).length = xs.length /\ lh n (ms.foldl gV xs) := by
  induction ms with
  | nil => intro xs h; exact⟨rfl, h⟩
  | cons m ms ih =>
    intro xs h
    obtain⟨a, b⟩ := Bg h m
    obtain⟨c, e⟩ := ih b
    exact⟨c.trans a, e⟩
theorem LU (d:D25):(js d).length <= 40 /\ lh (bU d).length (js d) := by
  obtain⟨a, b⟩ := wI (d := d)
  obtain⟨c, e⟩ := wJ d.miss (xs := eJ d) b
  exact⟨by unfold js; omega, e⟩
end Go.Proofs
namespace Go.Hx
variable {P:Program} {G:Nat -> Option (List AVal)}
def AHeap.eP (H:AHeap)(n ob:Nat)(b:Blk):AHeap := ⟨fun id => if n <= id then none else if id = ob then some b else H.get id, H.next⟩
theorem Cj {H:AHeap}{n ob:Nat}{b:Blk}(h:ob < n):(H.eP n ob b).get ob = some b := by simp [AHeap.eP, Nat.not_le.2 h]
theorem tG {H:AHeap}{n ob id:Nat}{b:Blk}(h:id < n)(h2:id ≠ ob):(H.eP n ob b).get id = H.get id := by simp [AHeap.eP, Nat.not_le.2 h, h2]
theorem OP {H : AHeap} (hc : Clo H) {n ob g : Nat} {e : TypeId} {cells cells' : List AVal} (hob : H.get ob = some (.arr g e cells)) (hlt : ob < n) (hl : cells'.length = cells.length)
    (hcell:∀ i (h:i < cells.length) (h':i < cells'.length), Fz (fun id => n <= id) H H.next cells[i] cells'[i]):FzH (fun id => n <= id) H (H.eP n ob (.arr g e cells')) where
  gone id hs := by simp [AHeap.eP, hs]
  kept id b hs hb := by
    have hbb := hc.below id b hb
    refine⟨hc.lt id b hb, ?_⟩
    by_cases h:id = ob
    · subst h
      rw[hob]at hb
      cases hb
      exact⟨.arr g e cells', by simp [AHeap.eP, hs], rfl, rfl, hl, hcell⟩
    · refine⟨b, by simp [AHeap.eP, hs, h, hb], ?_⟩
      cases b with
      | rsv => trivial
      | mp => rfl
      | arr g e cells => exact⟨rfl, rfl, rfl, fun i h _ => .dead (hbb i h)⟩
      | loop st pend n env ps asg body => exact⟨rfl, rfl, rfl, rfl, rfl, rfl, rfl, fun t ht => .dead (hbb t ht)⟩
  none id hs hb := by
    by_cases h:id = ob
    · subst h; rw[hob]at hb; cases hb
    · simp [AHeap.eP, hs, h, hb]
theorem cH.eP (hG : el G) {s : St} {n ob g : Nat} {e : TypeId} {cells cells' : List AVal} (hob : s.H.get ob = some (.arr g e cells)) (hlt : ob < n) (hl : cells'.length = cells.length)
    (hcell:∀ i (h:i < cells.length) (h':i < cells'.length), Fz (fun id => n <= id) s.H s.H.next cells[i] cells'[i]):cH P G s ⟨s.ρ, s.H.eP n ob (.arr g e cells')⟩ := by
  intro n' wb Γ a w hs
  exact cH.freeze (s := s) (s' := ⟨s.ρ, s.H.eP n ob (.arr g e cells')⟩) hG (OP hs.heap.clo hob hlt hl hcell) (fun t => .dead (hs.env t).nG) n' wb Γ a w hs
theorem iq.upd {lo:Nat}{H:AHeap}{e1 e0:TypeId}{v:AVal}{rows:List (List AVal)}(h:iq lo H e1 e0 v rows){k:Nat}{b:Blk}(hk:k < lo):iq lo (H.upd k b) e1 e0 v rows := by
  obtain⟨cs, c1, c2, c3⟩ := h
  refine⟨cs, c1.keep (Nat.le_refl _) (by rw[aV]; exact Nat.le_refl _) fun id _ h1 _ _ _ => by rw[ao, QQ (by omega)], c2, fun j r c hr hc => (c3 j r c hr hc).keep (Nat.le_refl _) (by rw[aV]; exact Nat.le_refl _) fun id _ h1 _ _ _ => by rw[ao, QQ (by omega)]⟩
end Go.Hx
namespace Go.Proofs
open Go.Hx
def wF (n:Nat)(bs:List Int)(from':Int):List Int := (List.range n).map fun (k:Nat) => if bs.length = 0 then 0 else bs.getD ((from' + (k:Int)) % (bs.length:Int)).toNat 0 % 8
def OS (g s:Int)(st:List Int × Nat)(m:Nat):List Int × Nat := if 0 < st.1.getD m 0 then (st.1.set m (g * st.1.getD m 0 / s), m) else st
def qi (g:Int)(c:List Int)(m:Nat):List Int × Nat := (List.range m).foldl (OS g c.sum) (c, 0)
def OT (g:Int)(n:Nat)(bs:List Int)(from':Int):List Int := (qi g (wF n bs from') n).1.set (qi g (wF n bs from') n).2 ((qi g (wF n bs from') n).1.getD (qi g (wF n bs from') n).2 0 + (g - (qi g (wF n bs from') n).1.sum))
structure RInv (g:Int)(c:List Int)(m:Nat)(d:List Int)(last:Nat):Prop where
  dl:d.length = c.length
  d0:∀ x ∈ d, 0 <= x
  dd:d.drop m = c.drop m
  dg:(d.take m).sum <= g
  ds:c.sum * (d.take m).sum <= g * (c.take m).sum
  la:last < c.length
structure DrP where
  card:Int
  par:Int
  w:List Int
def DrP.cells (x:DrP):List AVal := [.lit (.int .u8 x.card), .lit (.int .u8 x.par), .vec x.w.length (dA x.w)]
def Cn (l:List DrP):List AVal := (l.map DrP.cells).flatten
def DrP.Ok (x:DrP):Prop := U8 x.card /\ U8 x.par /\ (x.w.length:Int) < 2 ^ 63 /\ ∀ b ∈ x.w, U8 b
def OY (g:Int)(ps:List DrP)(ord:List Int):AVal := .agg [.lit (.int .u8 g), .vec ps.length (Cn ps), .vec ord.length (dA ord)]
theorem xC {S:Nat -> Prop}{H:AHeap}{nx:Nat}(l:List (List Int)):Fz S H nx (aD l) (aD l) := .vec rfl fun i hi _ => by simp only[QY]; exact .ik _
theorem Co {lo:Nat}{H:AHeap}{e:TypeId}{v:AVal}{cs:List AVal}(h:aF lo H e v cs){d:Option TypeDesc}{t:TypeId}(hd:d = some (.slice t)):nH d H v = some (.lit (.int .i64 cs.length)) := by
  subst hd
  rcases h with ⟨rfl, rfl⟩ | ⟨id, g, _, _, rfl, h4⟩
  · rfl
  · rw[zP, zQ, aq h4]; rfl
theorem OZ {ns:List NodeP}{P:List Int}(hP:IsPerm ns.length P)(hall:∀ v:Nat, v < ns.length -> (v:Int) ∈ P)(hr:∀ (j v:Nat) (x:NodeP), P[j]? = some (v:Int) -> ns[v]? = some x -> ∀ q ∈ x.parents, 0 <= q /\ ∃ k, k < j /\ P[k]? = some q):gX (aW ns) := by
  intro v hv
  have hl:(aW ns).length = ns.length := by simp [aW]
  rw[hl]at hv
  obtain⟨j, hj⟩ := Q4.1 (hall v hv)
  have h0:∀ p ∈ P.take j, 0 <= p := fun p hp => (hP.rng p (Rs hp)).1
  have sub:∀ (k u:Nat) (x:NodeP), k <= j -> P[k]? = some (u:Int) -> ns[u]? = some x -> Sub ((aW ns).getD u 0) (bV (P.take j)) := fun k u x hk hu hx i hi => by
    rw[aH (lS hx)]at hi
    have hp0:∀ p ∈ x.parents, 0 <= p := fun p hp => (hr k u x hu hx p hp).1
    rw[kg hp0]at hi
    obtain⟨_, k', hk', hq⟩ := hr k u x hu hx _ (of_decide_eq_true hi)
    rw[kg h0]
    refine Rk ?_
    exact Q4.2 ⟨k', by rw[RD (by omega)]; exact hq⟩
  have hcl:ki (aW ns) (bV (P.take j)) := fun u hu ht => by
    rw[hl]at hu
    rw[kg h0]at ht
    obtain⟨k, hk⟩ := Q4.1 (of_decide_eq_true ht)
    have hkl := get_lt hk
    rw[QV]at hkl
    rw[RD (by omega)]at hk
    obtain⟨x, hx⟩ := get_of_lt hu
    exact sub k u x (by omega) hk hx
  obtain⟨x, hx⟩ := get_of_lt hv
  have h1 := qg hcl (aW ns).length (sub j v x (Nat.le_refl _) hj hx)
  cases hb:(er (aW ns) ((aW ns).getD v 0)).testBit v with
  | false => rfl
  | true =>
    exfalso
    have h2 := h1 v hb
    rw[kg h0]at h2
    obtain⟨k, hk⟩ := Q4.1 (of_decide_eq_true h2)
    have hkl := get_lt hk
    rw[QV]at hkl
    rw[RD (by omega)]at hk
    have e:P[k]? = P[j]? := by rw[hk, hj]
    have := (Sh (get_lt hk) hP.nd).1 e
    omega
theorem wK {lo : Nat} {H' : AHeap} {v : AVal} {l : List Int} (x : Int) (h : aF lo H' 3 v (ints l)) (hlo : lo ≤ H'.next) (hl : l.length < 2 ^ 40) :
    ∃ v' H2, bC Tryd.prog (ext H' [.arr 0 3 [.lit (.int .i64 x)]]) (H'.next + 1) 22 22 v (.own H'.next 0 0 1 1) = some (v', H2) /\ aF lo H2 3 v' (ints (l ++ [x])) /\ H'.next <= H2.next /\ (∀ k, k < H'.next -> (∀ g n, v ≠ .own k g 0 n 1) -> H2.get k = H'.get k) := by
  obtain⟨v', H2, hA, hO, hn2, hp⟩ := jQ (P := Tryd.prog) (H := H') (t := 22) (x := ab x) (n := H'.next + 1) Tryd.underlying22 Tryd.lj Tryd.ll rfl (by rw[Tryd.lk, aX]; omega) h hlo rfl
  simp only[ab]at hA
  exact⟨v', H2, hA, by simpa [ints, ab] using hO, hn2, hp⟩
theorem te {lo:Nat}{H:AHeap}{e1 e0:TypeId}{v:AVal}{rows:List (List AVal)}(h:cX lo H e1 e0 v rows):v.one = true /\ v.cells = [v] := let ⟨_, a, _⟩ := h; ⟨a.one, a.cells⟩
theorem tf {lo:Nat}{H:AHeap}{e1 e0:TypeId}{v:AVal}{rows:List (List AVal)}(h:cX lo H e1 e0 v rows){k:Nat}{b:Blk}(hk:k < lo):cX lo (H.upd k b) e1 e0 v rows :=
  let ⟨cs, a, b', c, e⟩ := h
  have u:∀ {u:AVal} {e:TypeId} {l:List AVal}, aF lo H e u l -> aF lo (H.upd k b) e u l := fun h => h.keep (Nat.le_refl _) (by rw[aV]; exact Nat.le_refl _) fun i _ h1 _ _ _ => by rw[ao, QQ (by omega)]
  ⟨cs, u a, b', fun j r q h1 h2 => u (c j r q h1 h2), e⟩
abbrev Bh (d:D25):Blk := .arr 0 37 [.vec d.cards.length (dA d.cards), .vec d.cases.length (jX d.cases), .lit (.int .u8 d.follow), .vec d.miss.length (dA d.miss)]
abbrev gW (a b:AVal):Blk := .arr 0 50 [a, b]
set_option maxHeartbeats 4000000 in
theorem LV (d:D25)(hd:d.Ok)(H:AHeap)(K:ARes -> AHeap -> Prop)(hK:K (.ret (dT (bU d) (js d))) H):ah Tryd.prog G0 15 [.agg d.cells] H K := by
  refine ah.clo ⟨_, Tryd.func15, rfl, rfl⟩ fun hcl => ?_
  refine ah.dP (n := 139) (rs := [.cell 2 50]) Tryd.func15 rfl rfl rfl (by decide) (by simp) ?_
  refine W.sq ?_
  simp (config := { maxSteps := 1000000 }) only[go_sem, D25.cells, aa]
  refine W.sq ?_
  simp (config := { maxSteps := 1000000 }) only[go_sem, aa]
  obtain⟨H1, hH1⟩:∃ H1, H1 = ext H [Bh d, gW (.lit (.slice none 0 0)) (.lit (.slice none 0 0)), gW (.lit (.slice none 0 0)) (.lit (.slice none 0 0))] := ⟨_, rfl⟩
  have b0:H1.get H.next = some (Bh d) := by rw[hH1]; exact ez ..
  have b1:H1.get (H.next + 1) = some (gW (.lit (.slice none 0 0)) (.lit (.slice none 0 0))) := by rw[hH1]; exact bP H _ 1 (by simp)
  have b2:H1.get (H.next + 2) = some (gW (.lit (.slice none 0 0)) (.lit (.slice none 0 0))) := by rw[hH1]; exact bP H _ 2 (by simp)
  have n1:H1.next = H.next + 3 := by rw[hH1]; rfl
  have o1:Over H H1 := by rw[hH1]; exact .ext _ _
  refine W.env fun E hE => ?_
  have e1:E 1 = .ptr H.next 0 0 := by rw[hE]; simp (config := { maxSteps := 1000000 }) only[go_sem, aa]
  have e2:E 2 = .ptr (H.next + 1) 0 0 := by rw[hE]; simp (config := { maxSteps := 1000000 }) only[go_sem, aa]
  have e3:E 3 = .ptr (H.next + 2) 0 0 := by rw[hE]; simp (config := { maxSteps := 1000000 }) only[go_sem, aa]
  clear hE
  rw[<- hH1]
  clear hH1
  refine W.eH (fun s' => s'.ρ 1 = .ptr H.next 0 0 /\ s'.ρ 2 = .ptr (H.next + 1) 0 0 /\ s'.ρ 3 = .ptr (H.next + 2) 0 0 /\ H.next + 3 <= s'.H.next /\ (∀ id, id < H.next + 2 -> s'.H.get id = H1.get id) /\ ∃ cv, s'.H.get (H.next + 2) = some (gW cv (.lit (.slice none 0 0))) /\ aF (H.next + 3) s'.H 3 cv (ints (jY d.cards))) ?_ ?_
  · refine W.sq ?_
    simp (config := { maxSteps := 1000000 }) only[go_sem, aa]
    refine W.block ?_
    refine W.aR 34359736336 (by rfl) (fun ρ Hx => ∃ (k:Nat) (cv:AVal), ρ 4 = ab k /\ k <= d.cards.length /\ k <= 5 /\ H.next + 3 <= Hx.next /\ (∀ id, id < H.next + 2 -> Hx.get id = H1.get id) /\ Hx.get (H.next + 2) = some (gW cv (.lit (.slice none 0 0))) /\ aF (H.next + 3) Hx 3 cv (ints ((d.cards.take k).map fun x => 2 + x % 2))) (fun ρ H => 5 - (iv (ρ 4)).toNat) ?_ ?_
    · simp (config := { maxSteps := 1000000 }) only[go_sem, aa]
      exact⟨0, _, rfl, by omega, by omega, by omega, b2, .nil⟩
    rintro ρ Hx ⟨k, cv, h4, hk, hk5, hn, hold, hb2, hO⟩
    refine W.vs ?_
    have l0 := aq ((hold _ (by omega)).trans b0)
    have l2 := aq hb2
    by_cases c1:(k:Int) < d.cards.length
    rotate_left
    · simp (config := { maxSteps := 1000000 }) only[go_sem, e1, e2, e3, h4, l0, c1, aJ, aa]
      rw[QP (by omega)]at hO
      refine⟨by omega, hold, cv, hb2, ?_⟩
      unfold jY
      rw[QP (by omega)]
      exact hO
    by_cases c2:(k:Int) < 5
    rotate_left
    · simp (config := { maxSteps := 1000000 }) only[go_sem, e1, e2, e3, h4, l0, c1, c2, aJ, aa]
      obtain rfl:k = 5 := by omega
      exact⟨by omega, hold, cv, hb2, hO⟩
    obtain⟨x, hx⟩ := get_of_lt (l := d.cards) (i := k) (by omega)
    have x8 := hd.c8 x (an hx)
    unfold U8 at x8
    have hx' := sZ hx
    have hxn := aM hx'
    have m2:x.tmod 2 = x % 2 := Ra x8.1
    have u1:IntKind.u8.wrap (x % 2) = x % 2 := TA _ (by omega)
    have u2 := QL (x % 2) (by omega)
    have u3 := QL (2 + x % 2) (by omega)
    have w1 := QL ((k:Int) + 1) (by omega)
    obtain⟨cv2, H3, hA, hO3, hn3, hp⟩ := wK (2 + x % 2) hO hn (by rw[QX, QV]; omega)
    have hcells := hO3.cells
    have hone := hO3.one
    have g3 := (hp _ (by omega) (hO.ne (by omega))).trans hb2
    have l3 := aq g3
    simp (config := { maxSteps := 1000000 }) only[go_sem, e1, e2, e3, h4, l0, c1, c2, aJ, aa]
    refine W.draw 11 [0, 1, 0, 4, 0, 28, 60, 124, 252, 508, 1020] Tryd.mixed (by kernel_rfl) (by kernel_rfl) ?_
    simp (config := { maxSteps := 1000000 }) only[go_sem, e1, e2, e3, h4, l0, l2, c1, hx', hxn, m2, u1, u2, u3, w1, hA, l3, hcells, hone]
    repeat (refine And.intro (by first | omega | (simp; done) | (simp; omega) | (intros; omega) | exact⟨rfl, by omega, by omega, kL _⟩) ?_)
    refine⟨by rw[aV]; omega, ⟨k + 1, cv2, rfl, by omega, by omega, by rw[aV]; omega, fun id h => by rw[ao, QQ (by omega), hp id (by omega) (hO.ne (by omega))]; exact hold id h, by rw[ao, QN rfl], ?_⟩, by omega⟩
    rw[aU hx, RN]
    exact hO3.keep (Nat.le_refl _) (by rw[aV]; omega) fun id g h1 _ _ _ => by rw[ao, QQ (by omega)]
  rintro⟨ρ1, Ha⟩ ⟨p1, p2, p3, hn, hold, cv, hb2, hO⟩
  simp only at p1 p2 p3 hn hold hb2 hO
  refine W.eH (fun s' => s'.ρ 1 = .ptr H.next 0 0 /\ s'.ρ 2 = .ptr (H.next + 1) 0 0 /\ s'.ρ 3 = .ptr (H.next + 2) 0 0 /\ H.next + 3 <= s'.H.next /\ (∀ id, id < H.next + 2 -> s'.H.get id = H1.get id) /\ s'.H.get (H.next + 2) = some (gW (ag (bU d)) (.lit (.slice none 0 0)))) (W.tU (Q' := fun e s' => e = .normal /\ s'.ρ 1 = .ptr H.next 0 0 /\ s'.ρ 2 = .ptr (H.next + 1) 0 0 /\ s'.ρ 3 = .ptr (H.next + 2) 0 0 /\ H.next + 3 <= s'.H.next /\ (∀ id, id < H.next + 2 -> s'.H.get id = H1.get id) /\ ∃ cv, s'.H.get (H.next + 2) = some (gW cv (.lit (.slice none 0 0))) /\ aF (H.next + 3) s'.H 3 cv (ints (bU d))) ?_ ?_) ?_
  · have l2 := aq hb2
    have hone := hO.one
    have hlen := Co hO (d := some (.slice 3)) rfl
    rw[aX]at hlen
    refine W.vs ?_
    by_cases hc:jY d.cards = []
    · have hl0:((jY d.cards).length:Int) = 0 := by rw[hc]; rfl
      have l2e:∀ L, (ext Ha L).live (H.next + 2) 0 = _ := fun L => (jb (by omega)).trans l2
      simp (config := { maxSteps := 1000000 }) only[go_sem, p1, p2, p3, l2, l2e, hlen, hl0, aa]
      refine⟨by rw[aV, dk]; omega, fun id h => by rw[ao, QQ (by omega), jN _ _ _ (by omega)]; exact hold id h, .own Ha.next 0 0 1 1, by rw[ao, QN rfl], ?_⟩
      unfold bU
      rw[QN hc]
      exact .inr ⟨Ha.next, 0, hn, by rw[aV, dk]; simp, rfl, by rw[ao, QQ (by omega)]; exact cQ⟩
    · have hl0:¬ ((jY d.cards).length:Int) = 0 := fun h => hc (QT (by omega))
      simp (config := { maxSteps := 1000000 }) only[go_sem, p1, p2, p3, l2, hlen, hl0, aa]
      refine⟨hn, hold, cv, hb2, ?_⟩
      unfold bU
      rw[QQ hc]
      exact hO
  · rintro e ⟨ρ2, Hb⟩ ⟨rfl, q1, q2, q3, qn, qold, cv2, qb, qO⟩
    simp only at q1 q2 q3 qn qold qb qO
    refine⟨⟨ρ2, Hb.eP (H.next + 3) (H.next + 2) (gW (ag (bU d)) (.lit (.slice none 0 0)))⟩, cH.eP bz qb (by omega) rfl (fun i hi _ => ?_), Nat.le_refl _, trivial, rfl, q1, q2, q3, qn, fun id h => by rw[tG (by omega) (by omega)]; exact qold id h, Cj (by omega)⟩
    match i, hi with
    | 0, _ => exact qO.jP fun i h => h
    | 1, _ => exact .lit _
  rintro⟨ρ2, Hb⟩ ⟨p1, p2, p3, hn, hold, hb2⟩
  simp only at p1 p2 p3 hn hold hb2
  obtain⟨cs, hcs⟩:∃ cs, cs = bU d := ⟨_, rfl⟩
  obtain⟨n, hnl⟩:∃ n, n = cs.length := ⟨_, rfl⟩
  have n5:1 <= n /\ n <= 5 := by rw[hnl, hcs]; exact wH d
  have crng:∀ c ∈ cs, 2 <= c /\ c <= 3 := by rw[hcs]; exact pW d
  have hrow:eJ d = (d.cases.take 40).map fun r => eo cs d.follow r n := by unfold eJ; rw[<- hcs, <- hnl]
  rw[<- hcs]at hb2
  have clen := LP (l := d.cases) fun r hr => (hd.x8 r hr).1
  have f8 := hd.f8
  unfold U8 at f8
  have fm:d.follow.tmod 8 = d.follow % 8 := Ra f8.1
  have fu:IntKind.u8.wrap (d.follow % 8) = d.follow % 8 := TA _ (by omega)
  have fi := QL (d.follow % 8) (by omega)
  refine W.eH (fun s' => s'.ρ 1 = .ptr H.next 0 0 /\ s'.ρ 2 = .ptr (H.next + 1) 0 0 /\ s'.ρ 3 = .ptr (H.next + 2) 0 0 /\ H.next + 3 <= s'.H.next /\ (∀ id, id < H.next + 2 -> s'.H.get id = H1.get id) /\ ∃ xv, s'.H.get (H.next + 2) = some (gW (ag cs) xv) /\ cX (H.next + 3) s'.H 22 3 xv ((eJ d).map ints)) ?_ ?_
  · refine W.sq ?_
    simp (config := { maxSteps := 1000000 }) only[go_sem, aa]
    refine W.block ?_
    refine W.aR 633825300114114698549328347616 (by rfl) (fun ρ Hi => ∃ (i:Nat) (xv:AVal), ρ 5 = ab i /\ i <= d.cases.length /\ i <= 40 /\ Hb.next <= Hi.next /\ (∀ id, id < H.next + 2 -> Hi.get id = H1.get id) /\ Hi.get (H.next + 2) = some (gW (ag cs) xv) /\ cX (H.next + 3) Hi 22 3 xv (((d.cases.take i).map fun r => eo cs d.follow r n).map ints)) (fun ρ H => 40 - (iv (ρ 5)).toNat) ?_ ?_
    · simp (config := { maxSteps := 1000000 }) only[go_sem, aa]
      exact⟨0, _, rfl, by omega, by omega, hold, hb2, .nil⟩
    rintro ρ Hi ⟨i, xv, h5, hi, hi4, hni', holdi, hbi, hD⟩
    have hni:H.next + 3 <= Hi.next := by omega
    refine W.env fun E hE => ?_
    have a1:E 1 = .ptr H.next 0 0 := by rw[hE]; simp (config := { maxSteps := 1000000 }) only[go_sem, p1, aa]
    have a2:E 2 = .ptr (H.next + 1) 0 0 := by rw[hE]; simp (config := { maxSteps := 1000000 }) only[go_sem, p2, aa]
    have a3:E 3 = .ptr (H.next + 2) 0 0 := by rw[hE]; simp (config := { maxSteps := 1000000 }) only[go_sem, p3, aa]
    have a5:E 5 = ab i := by rw[hE]; simp (config := { maxSteps := 1000000 }) only[go_sem, h5, aa]
    clear hE
    have l0 := aq ((holdi _ (by omega)).trans b0)
    have l2 := aq hbi
    by_cases c1:(i:Int) < d.cases.length
    rotate_left
    · refine W.vs ?_
      simp (config := { maxSteps := 1000000 }) only[go_sem, a1, a2, a3, a5, l0, c1, aJ, aa]
      rw[QP (by omega)]at hD
      refine⟨by omega, holdi, xv, hbi, ?_⟩
      rw[hrow, QP (by omega)]
      exact hD
    by_cases c2:(i:Int) < 40
    rotate_left
    · refine W.vs ?_
      simp (config := { maxSteps := 1000000 }) only[go_sem, a1, a2, a3, a5, l0, c1, c2, aJ, aa]
      obtain rfl:i = 40 := by omega
      refine⟨by omega, holdi, xv, hbi, ?_⟩
      rw[hrow]
      exact hD
    obtain⟨raw, hraw⟩ := get_of_lt (l := d.cases) (i := i) (by omega)
    obtain⟨r5, r8⟩ := hd.x8 raw (an hraw)
    have rnn:∀ x ∈ raw, 0 <= x := fun x hx => (r8 x hx).1
    refine W.sq ?_
    simp (config := { maxSteps := 1000000 }) only[go_sem, a1, a2, a3, a5, l0, c1, c2, aJ, aa]
    refine W.seq (W.block ?_)
    refine W.sq ?_
    simp (config := { maxSteps := 1000000 }) only[go_sem, aa]
    refine W.eH (fun s' => s'.ρ 1 = .ptr H.next 0 0 /\ s'.ρ 2 = .ptr (H.next + 1) 0 0 /\ s'.ρ 3 = .ptr (H.next + 2) 0 0 /\ s'.ρ 5 = ab i /\ Over Hi s'.H /\ aF Hi.next s'.H 3 (s'.ρ 6) (ints (eo cs d.follow raw n))) ?_ ?_
    · refine W.sq ?_
      simp (config := { maxSteps := 1000000 }) only[go_sem, aa]
      refine W.block ?_
      refine W.aR 9903520314278538599565623744 (by rfl) (fun ρ2 Hj => ∃ v:Nat, ρ2 7 = ab v /\ v <= n /\ Over Hi Hj /\ aF Hi.next Hj 3 (ρ2 6) (ints (eo cs d.follow raw v))) (fun ρ2 H => n - (iv (ρ2 7)).toNat) ?_ ?_
      · simp (config := { maxSteps := 1000000 }) only[go_sem, aa]
        exact⟨0, rfl, by omega, .refl _, .nil⟩
      rintro ρ3 Hj ⟨v, h7, hv, ov, hO⟩
      refine W.env fun E2 hE2 => ?_
      have d1:E2 1 = .ptr H.next 0 0 := by rw[hE2]; simp (config := { maxSteps := 1000000 }) only[go_sem, a1, aa]
      have d2:E2 2 = .ptr (H.next + 1) 0 0 := by rw[hE2]; simp (config := { maxSteps := 1000000 }) only[go_sem, a2, aa]
      have d3:E2 3 = .ptr (H.next + 2) 0 0 := by rw[hE2]; simp (config := { maxSteps := 1000000 }) only[go_sem, a3, aa]
      have d5:E2 5 = ab i := by rw[hE2]; simp (config := { maxSteps := 1000000 }) only[go_sem, a5, aa]
      have d7:E2 7 = ab v := by rw[hE2]; simp (config := { maxSteps := 1000000 }) only[go_sem, h7, aa]
      obtain⟨cv, hcv⟩:∃ cv, cv = ρ3 6 := ⟨_, rfl⟩
      have d6:E2 6 = cv := by rw[hE2, hcv]; simp (config := { maxSteps := 1000000 }) only[go_sem, aa]
      rw[<- hcv]at hO
      clear hE2
      have m0 := (ov.live (g := 0) (by omega:H.next < Hi.next)).trans l0
      have m2 := (ov.live (g := 0) (by omega:H.next + 2 < Hi.next)).trans l2
      have ovn := ov.next
      by_cases c3:(v:Int) < cs.length
      rotate_left
      · refine W.vs ?_
        simp (config := { maxSteps := 1000000 }) only[go_sem, d1, d2, d3, d5, d6, d7, m0, m2, c3, aa]
        obtain rfl:v = n := by omega
        exact⟨ov, hO⟩
      obtain⟨x, hx⟩ := get_of_lt (l := raw) (i := v) (by omega)
      obtain⟨c, hc⟩ := get_of_lt (l := cs) (i := v) (by omega)
      have x8 := r8 x (an hx)
      unfold U8 at x8
      have hxc := LO (fun r hr => (hd.x8 r hr).1) hraw hx
      have hxn := aM hxc
      have v5:(v:Int) < 5 := by omega
      have ux := QL x (by omega)
      refine W.sq ?_
      simp (config := { maxSteps := 1000000 }) only[go_sem, d1, d2, d3, d5, d6, d7, m0, m2, c3, aa]
      refine W.seq (W.block ?_)
      refine W.sq ?_
      simp (config := { maxSteps := 1000000 }) only[go_sem, d1, d2, d3, d5, d6, d7, m0, m2, c1, hxc, hxn, v5, ux, aa]
      have xm:x.tmod 8 = x % 8 := Ra x8.1
      have cl := jZ cs d.follow raw v
      obtain⟨y, hy⟩:∃ y, y = (if 0 < v /\ raw.getD v 0 % 8 < d.follow % 8 then (eo cs d.follow raw v).getD (v - 1) 0 else raw.getD v 0) := ⟨_, rfl⟩
      have hxd := aH (d := 0) hx
      have y0:0 <= y := by
        rw[hy]
        split
        · exact LR (LS crng rnn v) _
        · rw[hxd]; exact x8.1
      have yb:y < 256 := by
        rw[hy]
        split
        · rw[QM]
          cases hk:(eo cs d.follow raw v)[v - 1]? with
          | none => decide
          | some z =>
            have h1 := (tc crng rnn v _ z hk).2
            rw[QM]at h1
            cases hk2:cs[v - 1]? with
            | none => rw[hk2]at h1; simp at h1 ⊢; omega
            | some q => rw[hk2]at h1; have := crng q (an hk2); simp at h1 ⊢; omega
        · rw[hxd]; exact x8.2
      refine W.eH (fun s' => s'.ρ 1 = .ptr H.next 0 0 /\ s'.ρ 2 = .ptr (H.next + 1) 0 0 /\ s'.ρ 3 = .ptr (H.next + 2) 0 0 /\ s'.ρ 5 = ab i /\ s'.ρ 6 = cv /\ s'.ρ 7 = ab v /\ s'.ρ 8 = ab y /\ s'.H = Hj) ?_ ?_
      · refine W.vs ?_
        rw[hxd]at hy
        by_cases g1:(v:Int) > 0
        rotate_left
        · rw[QQ (by omega)]at hy
          simp (config := { maxSteps := 1000000 }) only[go_sem, d1, d2, d3, d5, d6, d7, m0, m2, g1, aJ, hy, aa]
        by_cases g2:x % 8 < d.follow % 8
        rotate_left
        · rw[QQ (by omega)]at hy
          simp (config := { maxSteps := 1000000 }) only[go_sem, d1, d2, d3, d5, d6, d7, m0, m2, g1, xm, fm, fu, fi, g2, aJ, hy, aa]
        rw[QN (by omega)]at hy
        obtain⟨z, hz⟩ := get_of_lt (l := eo cs d.follow raw v) (i := v - 1) (by omega)
        rw[aH hz]at hy
        rcases hO with ⟨_, e⟩ | ⟨ic, gc, _, _, e, hgc⟩
        · have := congrArg List.length e
          rw[aX, cl, List.length_nil]at this
          omega
        · rw[aX, cl]at e
          have lc := aq hgc
          have zn := aM hz
          have wv := QL ((v - 1:Nat):Int) (by omega)
          have ev:(v:Int) - 1 = ((v - 1:Nat):Int) := by omega
          have vl:((v - 1:Nat):Int) < v := by omega
          rw[e]at d6
          simp (config := { maxSteps := 1000000 }) only[go_sem, d1, d2, d3, d5, d6, d7, m0, m2, g1, xm, fm, fu, fi, g2, aJ, wv, ev, lc, hz, zn, vl, hy, e, aa]
      rintro⟨ρ4, H4⟩ ⟨r1, r2, r3, r5', r6, r7, r8', rfl⟩
      simp only at r1 r2 r3 r5' r6 r7 r8'
      have c23 := crng c (an hc)
      have cz:¬ c = 0 := by omega
      have cn := aM hc
      have ym:y.tmod c = y % c := Ra y0
      have ymr := RF y (show 0 < c by omega)
      have ymn := RU y (show c ≠ 0 by omega)
      have uy := QL (y % c) (by omega)
      have w1 := QL ((v:Int) + 1) (by omega)
      obtain⟨cv2, H5, hA, hO5, hn5, hp⟩ := wK (y % c) hO ovn (by rw[cl]; omega)
      refine W.vs ?_
      simp (config := { maxSteps := 1000000 }) only[go_sem, r1, r2, r3, r5', r6, r7, r8', m0, m2, c3, hc, cn, cz, ym, uy, hA]
      refine W.vs ?_
      simp (config := { maxSteps := 1000000 }) only[go_sem, r7, w1, aa]
      have o5:Over Hi H5 := ⟨by omega, fun id h => (hp id (by omega) (hO.ne h)).trans (ov.old id h)⟩
      refine⟨by omega, ⟨v + 1, rfl, by omega, o5, ?_⟩, by rw[h7]; simp only[ab, cL]; omega⟩
      rw[show eo cs d.follow raw (v + 1) = eo cs d.follow raw v ++ [y % c] by rw[hy]; show _ ++ [_ % cs.getD v 2] = _; rw[aH hc]]
      exact hO5
    rintro⟨ρ4, Hk⟩ ⟨r1, r2, r3, r5', ov, hO⟩
    simp only at r1 r2 r3 r5' ov hO
    obtain⟨rv, hrv⟩:∃ rv, ρ4 6 = rv := ⟨_, rfl⟩
    rw[hrv]at hO
    have ovn := ov.next
    have w1 := QL ((i:Int) + 1) (by omega)
    obtain⟨xv2, H5, hA, hD5, hn5, hp⟩ := cX.app (P := Tryd.prog) (n := Hk.next + 1) (t := 48) Tryd.underlying48 Tryd.tj Tryd.tl Tryd.tk (by decide) (by rw[QX, QX, QV]; omega) hD ov hni hO rfl
    have k2 := (ov.live (g := 0) (by omega:H.next + 2 < Hi.next)).trans l2
    have k2e:∀ L, (ext Hk L).live (H.next + 2) 0 = _ := fun L => (jb (by omega)).trans k2
    have k5:H5.live (H.next + 2) 0 = _ := aq ((hp _ (by omega) (by omega)).trans ((ov.old _ (by omega)).trans hbi))
    obtain⟨xone, xcells⟩ := te hD5
    refine W.vs ?_
    have rvo := hO.one
    have rvc := hO.cells
    simp (config := { maxSteps := 1000000 }) only[go_sem, r1, r2, r3, r5', hrv, k2, k2e, hA, k5, xone, xcells, rvo, rvc]
    refine W.vs ?_
    simp (config := { maxSteps := 1000000 }) only[go_sem, r5', w1, aa]
    refine⟨by rw[aV]; omega, ⟨i + 1, xv2, rfl, by omega, by omega, by rw[aV]; omega, fun id h => by rw[ao, QQ (by omega), hp id (by omega) (by omega), ov.old id (by omega)]; exact holdi id h, by rw[ao, QN rfl], ?_⟩, by rw[h5]; simp only[ab, cL]; omega⟩
    rw[aU hraw, RN, RN]
    exact tf hD5 (by omega)
  rintro⟨ρ5, Hc⟩ ⟨p1, p2, p3, hn, hold, xv, hb2, hD⟩
  simp only at p1 p2 p3 hn hold hb2 hD
  refine W.sq ?_
  simp (config := { maxSteps := 1000000 }) only[go_sem, aa]
  have cfit := wI (d := d)
  rw[<- hcs]at cfit
  refine W.aR 348449143726407161286381483309382296929792 (by rfl) (fun ρ Hi => ∃ (i:Nat) (xv:AVal) (xs:List (List Int)), ρ 9 = ab i /\ i <= d.miss.length /\ xs = (d.miss.take i).foldl gV (eJ d) /\ Hc.next <= Hi.next /\ (∀ id, id < H.next + 2 -> Hi.get id = H1.get id) /\ Hi.get (H.next + 2) = some (gW (ag cs) xv) /\ cX (H.next + 3) Hi 22 3 xv (xs.map ints)) (fun ρ H => d.miss.length - (iv (ρ 9)).toNat) ?_ ?_
  · simp (config := { maxSteps := 1000000 }) only[go_sem, aa]
    exact⟨0, _, _, rfl, by omega, rfl, hold, hb2, hD⟩
  rintro ρ Hi ⟨i, xv, xs, h9, hi, hxs, hni', holdi, hbi, hDi⟩
  have hni:H.next + 3 <= Hi.next := by omega
  refine W.vs ?_
  have l0 := aq ((holdi _ (by omega)).trans b0)
  have l1 := aq ((holdi _ (by omega)).trans b1)
  have l2 := aq hbi
  obtain⟨xone, xcells⟩ := te hDi
  obtain⟨mlen, mrow⟩ := wJ (n := cs.length) (d.miss.take i) (xs := eJ d) cfit.2
  rw[<- hxs]at mlen mrow
  have fin:js d = xs -> az Tryd.prog G0 H K (.agg [ag cs, xv]) (Hi.upd (H.next + 1) (gW (ag cs) xv)) := fun hm => by
    rw[<- hcs, hm]at hK
    refine az.cC bz hcl ⟨by rw[aV]; omega, fun id h => by rw[ao, QQ (by omega), holdi id (by omega)]; exact o1.old id h⟩ (wC (.ik _) (Cw (tf hDi (by omega)).Cu fun i hi => by omega)) hK
  have hlen:∃ dd, dd = some (TypeDesc.slice 22) /\ nH dd Hi xv = some (.lit (.int .i64 xs.length)) := by
    obtain⟨ocs, oG, oL, _, _⟩ := hDi
    have := Co oG (d := some (.slice 22)) rfl
    rw[oL, QX]at this
    exact⟨_, rfl, this⟩
  obtain⟨_, rfl, hlen⟩ := hlen
  by_cases c1:(i:Int) < d.miss.length
  rotate_left
  · simp (config := { maxSteps := 1000000 }) only[go_sem, p1, p2, p3, h9, l0, l1, l2, c1, xone, xcells, aJ, aa]
    refine W.vs ?_
    simp (config := { maxSteps := 1000000 }) only[go_sem, p1, p2, p3, h9, l0, l1, l2, c1, xone, xcells, aJ, aa]
    exact fin (by rw[hxs, QP (by omega)]; rfl)
  by_cases c2:(xs.length:Int) > 0
  rotate_left
  · simp (config := { maxSteps := 1000000 }) only[go_sem, p1, p2, p3, h9, l0, l1, l2, c1, c2, hlen, xone, xcells, aJ, aa]
    refine W.vs ?_
    simp (config := { maxSteps := 1000000 }) only[go_sem, p1, p2, p3, h9, l0, l1, l2, c1, xone, xcells, aJ, aa]
    refine fin ?_
    have h1 := (wJ (n := cs.length) d.miss (xs := eJ d) cfit.2).1
    rw[QT (l := xs) (by omega)]
    exact QT (by unfold js; omega)
  obtain⟨m, hm⟩ := get_of_lt (l := d.miss) (i := i) (by omega)
  have m8 := hd.m8 m (an hm)
  unfold U8 at m8
  have hm' := sZ hm
  have hmn := aM hm'
  have kr := RF (m / 5) (show (0:Int) < xs.length by omega)
  have kn := RU (m / 5) (show (xs.length:Int) ≠ 0 by omega)
  obtain⟨k, hk⟩ := Rf kn
  obtain⟨r, hr⟩ := get_of_lt (l := xs) (i := k) (by omega)
  have rl := mrow r (an hr)
  have jr := RF m (show (0:Int) < r.length by omega)
  have jn := RU m (show (r.length:Int) ≠ 0 by omega)
  obtain⟨j, hj⟩ := Rf jn
  obtain⟨idt, gt, idr, gr, cells, hxv, hgt, hcl2, it1, it2, hck, hgr, ir1, ir2, hset⟩ := cX.row hDi (by decide) (k := k) (r := ints r) (by rw[List.getElem?_map, hr]; rfl) (by intro e; have := congrArg List.length e; rw[aX, List.length_nil]at this; omega)
  rw[QX]at hxv hcl2
  rw[aX]at hck
  have lt := aq hgt
  have lr := aq hgr
  have cne := aM hck
  have q5:m.tdiv 5 = m / 5 := RS m8.1
  have u1:IntKind.u8.wrap (m / 5) = m / 5 := TA _ (by omega)
  have u2 := QL (m / 5) (by omega)
  have u3:(m / 5).tmod (xs.length:Int) = k := by rw[Ra (by omega)]; exact hk
  have u4 := QL (k:Int) (by omega)
  have u5 := QL m (by omega)
  have u6:m.tmod (r.length:Int) = j := by rw[Ra (by omega)]; exact hj
  have u7 := QL (j:Int) (by omega)
  have x0:¬ (xs.length:Int) = 0 := by omega
  have r0:¬ (r.length:Int) = 0 := by omega
  have kl:(k:Int) < xs.length := by omega
  have jl:(j:Int) < r.length := by omega
  have ml := hd.ml
  have w1 := QL ((i:Int) + 1) (by omega)
  rw[hxv]at l2 hlen
  simp (config := { maxSteps := 1000000 }) only[go_sem, p1, p2, p3, h9, l0, l1, l2, c1, c2, hlen, aJ, aa]
  refine W.draw 13 [0, 1, 0, 4, 0, 28, 60, 124, 252, 0, 512, 1536, 4092] Tryd.mixed (by kernel_rfl) (by kernel_rfl) ?_
  simp (config := { maxSteps := 1000000 }) only[go_sem, p1, p2, p3, h9, l0, l1, l2, c1, hm', hmn, q5, u1, u2, u3, u4, u5, u6, u7, x0, r0, kl, jl, lt, lr, hck, cne, w1, aa]
  refine⟨by omega, by rw[aV]; omega, ⟨i + 1, xv, xs.set k (r.set j (-1)), rfl, by omega, ?_, by rw[aV]; omega, fun id h => by rw[ao, QQ (by omega)]; exact holdi id h, ?_, ?_⟩, by omega⟩
  · rw[aU hm, R9, <- hxs]
    show _ = gV xs m
    unfold gV
    simp only[hk, SH, Int.toNat_natCast, aH hr, hj]
  · rw[ao, QQ (by omega), hbi, hxv]; rfl
  · rw[fo (by omega), Tf]
    exact hset (ints (r.set j (-1))) (by rw[aX, aX, Q8])
end Go.Proofs
namespace Go.Hx
variable {P:Program} {G:Nat -> Option (List AVal)}
theorem Qt {H:AHeap}(hc:Clo H):FzH (fun _ => False) H H where
  gone id hs := hs.elim
  kept id b _ hb := by
    have hbb := hc.below id b hb
    refine⟨hc.lt id b hb, b, hb, ?_⟩
    cases b with
    | rsv => trivial
    | mp => rfl
    | arr g e cells => exact⟨rfl, rfl, rfl, fun i h _ => .dead (hbb i h)⟩
    | loop st pend n env ps asg body => exact⟨rfl, rfl, rfl, rfl, rfl, rfl, rfl, fun t ht => .dead (hbb t ht)⟩
  none id _ hb := hb
theorem ah.Qu {H : AHeap} {f : FuncId} {args args' : List AVal} {K : ARes → AHeap → Prop} (hG : el G) (hl : args'.length = args.length) (hv : ∀ i (h : i < args.length) (h' : i < args'.length), Fz (fun _ => False) H H.next args[i] args'[i])
    (h:ah P G f args' H K):ah P G f args H K := by
  refine⟨h.1, fun Γ w cargs R hr => ?_⟩
  have F := Qt R.clo
  have R0 := F.rel hG R
  have E0:Evo Γ H w (eh (fun _ => False) Γ) H w := F.aT
  refine(h.2 _ w cargs R0 ⟨by have := hr.1; omega, fun i h1 h2 => (hv i (by omega) h1).sound R F (hr.2 i (by omega) h2)⟩).mono ?_
  rintro e w' ⟨r, H', Γ', h1, h2, h3, h4, h5⟩
  exact⟨r, H', Γ', h1, h2, h3, E0.trans (Nat.le_refl _) h4, h5⟩
end Go.Hx
namespace Go.Hx
variable {P:Program}
structure OwnM (lo:Nat)(H:AHeap)(e1 e0:TypeId)(v:AVal)(ids:List Nat)(rows:List (List AVal)):Prop where
  len:ids.length = rows.length
  nd:ids.Nodup
  rng:∀ i ∈ ids, lo <= i /\ i < H.next
  top:aF lo H e1 v (List.zipWith (fun i n => AVal.own i 0 0 n 1) ids (rows.map List.length))
  row:∀ (k id:Nat) (r:List AVal), ids[k]? = some id -> rows[k]? = some r -> H.get id = some (.arr 0 e0 r)
theorem OwnM.nil {lo:Nat}{H:AHeap}{e1 e0:TypeId}:OwnM lo H e1 e0 (.lit (.slice none 0 0)) [] [] :=
  ⟨rfl, .nil, fun i h => (by cases h), .nil, fun k id r h => (by simp at h)⟩
theorem OwnM.keep {lo:Nat}{H H':AHeap}{e1 e0:TypeId}{v:AVal}{ids:List Nat}{rows:List (List AVal)}(h:OwnM lo H e1 e0 v ids rows)(hn:H.next <= H'.next)(hk:∀ id, lo <= id -> id < H.next -> H'.get id = H.get id):OwnM lo H' e1 e0 v ids rows :=
  ⟨h.len, h.nd, fun i hi => ⟨(h.rng i hi).1, by have := (h.rng i hi).2; omega⟩, h.top.keep (Nat.le_refl _) hn fun id _ h1 h2 _ _ => hk id h1 h2, fun k id r h1 h2 => by
    have := h.rng id (an h1)
    rw[hk id this.1 this.2]
    exact h.row k id r h1 h2⟩
theorem OwnM.app {lo n : Nat} {H : AHeap} {e1 e0 : TypeId} {v : AVal} {ids : List Nat} {rows : List (List AVal)} {r : List AVal} {t : TypeId} {z : List AVal} (ht : P.underlying t = some (.slice e1)) (hz : P.cellsOf e1 = 1) (hzero : bH P e1 = some z) (hby : P.bytesOf e1 = 24) (hne : e1 ≠ e0)
    (hb:rows.length < 2 ^ 40) (h:OwnM lo H e1 e0 v ids rows) (hlo:lo <= H.next) (hn:n = H.next + 2):
    ∃ v' H', bC P (ext (ext H [.arr 0 e0 r]) [.arr 0 e1 [.own H.next 0 0 r.length 1]]) n t t v (.own (H.next + 1) 0 0 1 1) = some (v', H') /\ OwnM lo H' e1 e0 v' (ids ++ [H.next]) (rows ++ [r]) /\ H.next <= H'.next /\ (∀ k, k < H.next -> k < lo -> H'.get k = H.get k) := by
  obtain⟨Hb, hHb⟩:∃ Hb, Hb = ext H [.arr 0 e0 r] := ⟨_, rfl⟩
  have nb:Hb.next = H.next + 1 := by rw[hHb]; rfl
  have ob:Over H Hb := by rw[hHb]; exact .ext _ _
  have gb:Hb.get H.next = some (.arr 0 e0 r) := by rw[hHb]; exact cQ
  have htop := h.top.over ob
  obtain⟨v', H', hA, hO, hL, hp⟩ := jQ (P := P) (H := Hb) (t := t) (x := .own H.next 0 0 r.length 1) (n := n) ht hz hzero rfl (by rw[hby]; simp [h.len]; omega) htop (by omega) (by omega)
  rw[nb, hHb]at hA
  have old:∀ id g, lo <= id -> id < Hb.next -> Hb.get id = some (.arr g e0 r) -> H'.get id = Hb.get id := fun id g h1 h2 h3 => hp id h2 fun g' m he => by
    rcases htop with ⟨hv, _⟩ | ⟨i, g2, _, _, hv, h4⟩
    · rw[hv]at he; cases he
    · rw[hv]at he
      obtain rfl:i = id := (AVal.own.inj he).1
      rw[h4]at h3
      cases h3
      exact hne rfl
  have oldr:∀ id g q, lo <= id -> id < Hb.next -> Hb.get id = some (.arr g e0 q) -> H'.get id = Hb.get id := fun id g q h1 h2 h3 => hp id h2 fun g' m he => by
    rcases htop with ⟨hv, _⟩ | ⟨i, g2, _, _, hv, h4⟩
    · rw[hv]at he; cases he
    · rw[hv]at he
      obtain rfl:i = id := (AVal.own.inj he).1
      rw[h4]at h3
      cases h3
      exact hne rfl
  refine⟨v', H', hA, ⟨by simp [h.len], List.nodup_append.2 ⟨h.nd, by simp, fun a ha b hb => by
    obtain rfl := List.mem_singleton.1 hb
    have := (h.rng a ha).2
    omega⟩, fun i hi => ?_, ?_, fun k id q h1 h2 => ?_⟩, by omega, fun k hk hkl => ?_⟩
  · rcases Q1.1 hi with h1 | h1
    · have := h.rng i h1; omega
    · obtain rfl := List.mem_singleton.1 h1; omega
  · rw[RN, List.zipWith_append (by rw[QX]; exact h.len)]
    exact hO
  · have hk := Rn.1 h1
    obtain⟨hk, _⟩ := hk
    rw[List.length_append, Sy]at hk
    rcases Q3 k ids.length with hlt | hge
    · rw[Q0 hlt]at h1
      rw[Q0 (by rw[<- h.len]; exact hlt)]at h2
      have hr := h.rng id (an h1)
      have hg := h.row k id q h1 h2
      rw[oldr id 0 q hr.1 (by omega) ((ob.old id hr.2).trans hg), ob.old id hr.2]
      exact hg
    · obtain rfl:k = ids.length := by omega
      rw[Q2 (Nat.le_refl _), R7]at h1
      rw[h.len, Q2 (Nat.le_refl _), R7]at h2
      cases h1
      cases h2
      rw[oldr H.next 0 r hlo (by omega) gb]
      exact gb
  · rw[hp k (by omega) fun g m he => ?_, ob.old k hk]
    rcases htop with ⟨hv, _⟩ | ⟨i, g2, a1, _, hv, h4⟩
    · rw[hv]at he; cases he
    · rw[hv]at he
      have := (AVal.own.inj he).1
      omega
theorem OwnM.C8 {lo:Nat}{H:AHeap}{e1 e0:TypeId}{v:AVal}{ids:List Nat}{rows:List (List AVal)}(h:OwnM lo H e1 e0 v ids rows)(h0:rows ≠ []):∃ id g, lo <= id /\ id < H.next /\ v = .own id g 0 rows.length 1 /\ H.get id = some (.arr g e1 (List.zipWith (fun i n => AVal.own i 0 0 n 1) ids (rows.map List.length))) /\ (e1 ≠ e0 -> id ∉ ids) := by
  have hzl:(List.zipWith (fun i n => AVal.own i 0 0 n 1) ids (rows.map List.length)).length = rows.length := by simp [h.len]
  rcases h.top with ⟨hv, h4⟩ | ⟨i, g, a, b, hv, h4⟩
  · rw[h4]at hzl
    exact absurd (QT hzl.symm) h0
  · refine⟨i, g, a, b, by rw[hv, hzl], h4, fun hne hm => ?_⟩
    obtain⟨k, hk⟩ := Q4.1 hm
    have hkl:k < rows.length := by rw[<- h.len]; exact(Rn.1 hk).1
    have := h.row k i _ hk (QK hkl)
    rw[h4]at this
    exact hne (Blk.arr.inj (Option.some.inj this)).2.1
theorem OwnM.store {lo:Nat}{H:AHeap}{e1 e0:TypeId}{v:AVal}{ids:List Nat}{rows:List (List AVal)}(h:OwnM lo H e1 e0 v ids rows)(hne:e1 ≠ e0){k id:Nat}{r r':List AVal}(hk:ids[k]? = some id)(hr:rows[k]? = some r)(hl:r'.length = r.length):OwnM lo (H.upd id (.arr 0 e0 r')) e1 e0 v ids (rows.set k r') := by
  have hid := h.rng id (an hk)
  have h0:rows ≠ [] := fun e => by rw[e]at hr; simp at hr
  refine⟨by rw[Q8]; exact h.len, h.nd, fun i hi => by rw[aV]; exact h.rng i hi, ?_, fun j id' q h1 h2 => ?_⟩
  · have e : (rows.set k r').map List.length = rows.map List.length := by
      rw[Tf, hl]
      apply Q9
      intro i
      rw[Rg]
      split
      · rename_i hi
        subst hi
        have hkl := (Rn.1 hr).1
        rw[QN (by rw[QX]; exact hkl), List.getElem?_map, hr]
        rfl
      · rfl
    rw[e]
    obtain⟨i, g, a, b, _, h4, h5⟩ := h.C8 h0
    refine h.top.keep (Nat.le_refl _) (by rw[aV]; exact Nat.le_refl _) fun i2 g2 _ _ h3 _ => ?_
    rw[ao, QQ]
    rintro rfl
    rw[h.row k i2 r hk hr]at h3
    cases h3
    exact hne rfl
  · rw[ao]
    by_cases hj:j = k
    · subst hj
      rw[hk]at h1
      cases h1
      rw[Rj (Rn.1 hr).1]at h2
      cases h2
      rw[QN rfl]
    · rw[Rl (fun e => hj e.symm)]at h2
      rw[QQ, h.row j id' q h1 h2]
      rintro rfl
      exact hj ((Sh (Rn.1 h1).1 h.nd).1 (by rw[h1, hk]))
theorem OwnM.fz {S : Nat → Prop} {lo nx : Nat} {H : AHeap} {e1 e0 : TypeId} {v : AVal} {ids : List Nat} {rows : List (List AVal)} (h : OwnM lo H e1 e0 v ids rows) (hS : ∀ i, lo ≤ i → S i) (hr : ∀ r ∈ rows, ∀ c ∈ r, Fz S H nx c c) :
    Fz S H nx v (.vec rows.length (rows.map fun r => .vec r.length r)) := by
  have hz:(List.zipWith (fun i n => AVal.own i 0 0 n 1) ids (rows.map List.length)).length = rows.length := by simp [h.len]
  have := h.top.fz (S := S) (nx := nx) (cs' := rows.map fun r => .vec r.length r) hS (by simp [h.len]) fun i hi hi' => by
    simp only[QY, Ua]
    have hil:i < rows.length := by omega
    have hii:i < ids.length := by rw[h.len]; exact hil
    refine .frz (hS _ (h.rng _ (Rz hii)).1) (h.row i _ _ (QK hii) (QK hil)) (by simp) fun j hj h2 h' => ?_
    have e0:(0:Nat) + j = j := Nat.zero_add j
    have h3 := hr rows[i] (Rz hil) _ (Rz h')
    simpa only[e0] using h3
  rw[QX]at this
  exact this
end Go.Hx
namespace Go.Hx
variable {P:Program} {G:Nat -> Option (List AVal)}
def AHeap.fU (H:AHeap)(n ob:Nat)(b:Blk):AHeap := ⟨fun id => if id = ob then some b else if n <= id then none else H.get id, H.next⟩
theorem AV {H:AHeap}{n ob:Nat}{b:Blk}:(H.fU n ob b).get ob = some b := by simp [AHeap.fU]
theorem AW {H:AHeap}{n ob id:Nat}{b:Blk}(h:id < n)(h2:id ≠ ob):(H.fU n ob b).get id = H.get id := by simp [AHeap.fU, Nat.not_le.2 h, h2]
theorem K6 {H : AHeap} (hc : Clo H) {n ob g : Nat} {e : TypeId} {cells cells' : List AVal} (hob : H.get ob = some (.arr g e cells)) (hl : cells'.length = cells.length)
    (hcell:∀ i (h:i < cells.length) (h':i < cells'.length), Fz (fun id => n <= id /\ id ≠ ob) H H.next cells[i] cells'[i]):FzH (fun id => n <= id /\ id ≠ ob) H (H.fU n ob (.arr g e cells')) where
  gone id hs := by simp [AHeap.fU, hs.1, hs.2]
  kept id b hs hb := by
    have hbb := hc.below id b hb
    refine⟨hc.lt id b hb, ?_⟩
    by_cases h:id = ob
    · subst h
      rw[hob]at hb
      cases hb
      exact⟨.arr g e cells', AV, rfl, rfl, hl, hcell⟩
    · have hn:¬ n <= id := fun hn => hs ⟨hn, h⟩
      refine⟨b, by simp [AHeap.fU, h, hn, hb], ?_⟩
      cases b with
      | rsv => trivial
      | mp => rfl
      | arr g e cells => exact⟨rfl, rfl, rfl, fun i h _ => .dead (hbb i h)⟩
      | loop st pend n env ps asg body => exact⟨rfl, rfl, rfl, rfl, rfl, rfl, rfl, fun t ht => .dead (hbb t ht)⟩
  none id hs hb := by
    by_cases h:id = ob
    · subst h; rw[hob]at hb; cases hb
    · have hn:¬ n <= id := fun hn => hs ⟨hn, h⟩
      simp [AHeap.fU, h, hn, hb]
theorem cH.fU (hG : el G) {s : St} {n ob g : Nat} {e : TypeId} {cells cells' : List AVal} (hob : s.H.get ob = some (.arr g e cells)) (hl : cells'.length = cells.length)
    (hcell:(∀ c ∈ cells, Below s.H.next c) -> ∀ i (h:i < cells.length) (h':i < cells'.length), Fz (fun id => n <= id /\ id ≠ ob) s.H s.H.next cells[i] cells'[i]):cH P G s ⟨s.ρ, s.H.fU n ob (.arr g e cells')⟩ := by
  intro n' wb Γ a w hs
  exact cH.freeze (s := s) (s' := ⟨s.ρ, s.H.fU n ob (.arr g e cells')⟩) hG (K6 hs.heap.clo hob hl (hcell fun c hc => by
    obtain⟨i, hi, rfl⟩ := List.mem_iff_getElem.1 hc
    exact hs.heap.clo.below ob _ hob i hi)) (fun t => .dead (hs.env t).nG) n' wb Γ a w hs
theorem K7 {H : AHeap} {t e : TypeId} {n : Nat} {src : List AVal} {z : List AVal} (ht : P.underlying t = some (.slice e)) (hz : P.cellsOf e = 1) (hzero : bH P e = some z) (h0 : 0 < src.length)
    (hb:src.length * P.bytesOf e <= 2 ^ 46 /\ src.length <= 2 ^ 46) (hn:n = H.next):bC P H n t t (.lit (.slice none 0 0)) (.vec src.length src) = some (.own n 0 0 src.length 1, ext H [.arr 0 e src]) := by
  have hsrc:cr H 1 (.vec src.length src) = some (src.length, src) := by
    unfold cr; simp
  unfold bC
  rw[ht]
  simp only[hzero, hz, Option.bind_some]
  rw[hsrc]
  simp only[Option.bind_some]
  rw[QQ (by omega), QN hb, rF hn]
  rfl
theorem OwnM.K8 {lo n : Nat} {H : AHeap} {e1 e0 : TypeId} {v : AVal} {ids : List Nat} {rows : List (List AVal)} {r : List AVal} {t : TypeId} {z : List AVal} (h : OwnM lo H e1 e0 v ids rows) (ht : P.underlying t = some (.slice e1)) (hz : P.cellsOf e1 = 1) (hzero : bH P e1 = some z) (hby : P.bytesOf e1 = 24) (hne : e1 ≠ e0)
    (hb:rows.length < 2 ^ 40) (hlo:lo <= H.next) (hn:n = H.next + 2):
    ∃ v' H', bC P (ext (ext H [.arr 0 e0 r]) [.arr 0 e1 [.own H.next 0 0 r.length 1]]) n t t v (.own (H.next + 1) 0 0 1 1) = some (v', H') /\ OwnM lo H' e1 e0 v' (ids ++ [H.next]) (rows ++ [r]) /\ H.next <= H'.next /\ (∀ k, k < H.next -> (∀ g n, v ≠ .own k g 0 n 1) -> H'.get k = H.get k) := by
  obtain⟨v', H', hA, hO, hn', _⟩ := h.app (P := P) (r := r) ht hz hzero hby hne hb hlo hn
  have nb:(ext H [.arr 0 e0 r]).next = H.next + 1 := rfl
  obtain⟨v2, H2, hA2, _, _, hp⟩ := jQ (P := P) (H := ext H [.arr 0 e0 r]) (t := t) (x := .own H.next 0 0 r.length 1) (n := n) ht hz hzero rfl (by rw[hby]; simp [h.len]; omega) (h.top.over (.ext _ _)) (by rw[nb]; omega) (by rw[nb]; omega)
  rw[nb]at hA2
  have e:(v2, H2) = (v', H') := Option.some.inj (hA2.symm.trans hA)
  cases e
  exact⟨_, _, hA, hO, hn', fun k hk hne => (hp k (by rw[nb]; omega) hne).trans (jN _ _ _ hk)⟩
theorem OwnM.ne {lo:Nat}{H:AHeap}{e1 e0:TypeId}{v:AVal}{ids:List Nat}{rows:List (List AVal)}(h:OwnM lo H e1 e0 v ids rows){k g':Nat}{e:TypeId}{c:List AVal}(hk:H.get k = some (.arr g' e c))(he:e ≠ e1):∀ g n, v ≠ .own k g 0 n 1 := fun g n hv => by
  rcases h.top with ⟨h1, _⟩ | ⟨i, g2, _, _, h1, h2⟩
  · rw[h1]at hv; cases hv
  · rw[h1]at hv
    obtain rfl := (AVal.own.inj hv).1
    rw[hk]at h2
    cases h2
    exact he rfl
theorem W.sW {n:Nat}{rd:Option Nat}{Q:AX -> St -> Prop}{s:St}{x y:Code}(Φ:St -> Prop)(h:W P G n rd x (fun ax s' => ax = .normal /\ Φ s') s)(h2:∀ s', Φ s' -> W P G n rd y Q s'):W P G n rd (.seq x y) Q s :=
  W.seq (h.mono fun ax s' ⟨e, hp⟩ => by subst e; exact h2 s' hp)
theorem cH.same {s:St}:cH P G s s := by
  intro n wb Γ a w hs
  exact⟨Γ, hs, .refl _ _ _, fun _ _ h _ => h⟩
end Go.Hx
namespace Go.Proofs
open Go.Hx
structure NodO (lo:Nat)(H:AHeap)(pv rv:AVal)(ids:List Nat)(x:NodeP):Prop where
  par:aF lo H 3 pv (ints x.parents)
  rows:OwnM lo H 22 3 rv ids (x.rows.map ints)
  dj:∀ id g n, pv = .own id g 0 n 1 -> id ∉ ids
  nil:x.rows = [] -> rv = .lit (.slice none 0 0)
theorem NodO.keep {lo:Nat}{H H':AHeap}{pv rv:AVal}{ids:List Nat}{x:NodeP}(h:NodO lo H pv rv ids x)(hn:H.next <= H'.next)(hk:∀ id, lo <= id -> id < H.next -> H'.get id = H.get id):NodO lo H' pv rv ids x :=
  ⟨h.par.keep (Nat.le_refl _) hn fun id _ h1 h2 _ _ => hk id h1 h2, h.rows.keep hn hk, h.dj, h.nil⟩
theorem NodO.over {lo:Nat}{H H':AHeap}{pv rv:AVal}{ids:List Nat}{x:NodeP}(h:NodO lo H pv rv ids x)(o:Over H H'):NodO lo H' pv rv ids x := h.keep o.next fun id _ h2 => o.old id h2
theorem NodO.keepE {lo:Nat}{H H':AHeap}{pv rv:AVal}{ids:List Nat}{x:NodeP}(h:NodO lo H pv rv ids x)(hn:H.next <= H'.next)(hk:∀ id g e c, lo <= id -> id < H.next -> H.get id = some (.arr g e c) -> e ≠ 91 -> H'.get id = H.get id):NodO lo H' pv rv ids x :=
  ⟨h.par.keep (Nat.le_refl _) hn fun id g h1 h2 h3 _ => hk id g _ _ h1 h2 h3 (by decide), ⟨h.rows.len, h.rows.nd, fun i hi => ⟨(h.rows.rng i hi).1, by have := (h.rows.rng i hi).2; omega⟩, h.rows.top.keep (Nat.le_refl _) hn fun id g h1 h2 h3 _ => hk id g _ _ h1 h2 h3 (by decide), fun k id r h1 h2 => by
    have h3 := h.rows.rng id (an h1)
    have h4 := h.rows.row k id r h1 h2
    rw[hk id _ _ _ h3.1 h3.2 h4 (by decide)]
    exact h4⟩, h.dj, h.nil⟩
theorem sX {lo:Nat}{H:AHeap}{e1 e0:TypeId}{v:AVal}{ids:List Nat}{rows:List (List AVal)}(h:OwnM lo H e1 e0 v ids rows):v.one = true /\ v.cells = [v] := ⟨h.top.one, h.top.cells⟩
theorem AY {S : Nat → Prop} {lo nx : Nat} {H : AHeap} {e : TypeId} {v : AVal} {cs cs' : List AVal} (h : aF lo H e v cs) (hS : ∀ i g, lo ≤ i → i < H.next → H.get i = some (.arr g e cs) → S i) (hl : cs'.length = cs.length)
    (hc:∀ i (h:i < cs.length) (h':i < cs'.length), Fz S H nx cs[i] cs'[i]):Fz S H nx v (.vec cs'.length cs') := by
  rcases h with ⟨rfl, rfl⟩ | ⟨id, g, h1, h2, rfl, h4⟩
  · obtain rfl := QT hl
    exact .nil
  · rw[hl]
    refine .frz (hS id g h1 h2 h4) h4 (by omega) fun j hj h2 h' => ?_
    simp only[Nat.zero_add]at h2 ⊢
    exact hc j h2 h'
def sY (S:Nat -> Prop)(lo:Nat)(H:AHeap):Prop := ∀ i g e c, lo <= i -> i < H.next -> H.get i = some (.arr g e c) -> e ≠ 91 -> S i
theorem NodO.K9 {S:Nat -> Prop}{lo nx:Nat}{H:AHeap}{pv rv:AVal}{ids:List Nat}{x:NodeP}(h:NodO lo H pv rv ids x)(hS:sY S lo H):Fz S H nx pv (ag x.parents) := by
  have := AY (S := S) (nx := nx) (cs' := ints x.parents) h.par (fun i g h1 h2 h3 => hS i g _ _ h1 h2 h3 (by decide)) rfl fun i hi _ => by simp only[ints, QY]; exact .lit _
  rw[aX]at this
  exact this
theorem NodO.La {S:Nat -> Prop}{lo nx:Nat}{H:AHeap}{pv rv:AVal}{ids:List Nat}{x:NodeP}(h:NodO lo H pv rv ids x)(hS:sY S lo H):Fz S H nx rv (aD x.rows) := by
  have hl := h.rows.len
  rw[QX]at hl
  have := AY (S := S) (nx := nx) (cs' := x.rows.map ag) h.rows.top (fun i g h1 h2 h3 => hS i g _ _ h1 h2 h3 (by decide)) (by simp [hl]) fun i hi hi' => by
    have hil:i < x.rows.length := by simpa using hi'
    have hii:i < ids.length := by omega
    simp only[QY, Ua, aX]
    have hid := h.rows.rng _ (Rz hii)
    have hrow := h.rows.row i _ _ (QK hii) (show (x.rows.map ints)[i]? = some (ints x.rows[i]) by rw[List.getElem?_map, QK hil]; rfl)
    refine .frz (hS _ _ _ _ hid.1 hid.2 hrow (by decide)) hrow (by simp [aX]) fun j hj h2 h' => ?_
    simp only[ints, QY]
    have e0:0 + j = j := Nat.zero_add j
    simp only[e0]
    exact .lit _
  rw[QX]at this
  exact this
theorem NodO.Lb {S:Nat -> Prop}{lo nx:Nat}{H:AHeap}{pv rv:AVal}{ids:List Nat}{x:NodeP}(h:NodO lo H pv rv ids x)(hS:sY S lo H):Fz S H nx rv (eW x) := by
  unfold eW
  split
  · rename_i e
    rw[h.nil e]
    exact .lit _
  · exact h.La hS
theorem NodO.low {lo lo':Nat}{H:AHeap}{pv rv:AVal}{ids:List Nat}{x:NodeP}(h:NodO lo H pv rv ids x)(hl:lo' <= lo):NodO lo' H pv rv ids x :=
  ⟨h.par.keep hl (Nat.le_refl _) fun _ _ _ _ _ _ => rfl, ⟨h.rows.len, h.rows.nd, fun i hi => ⟨by have := (h.rows.rng i hi).1; omega, (h.rows.rng i hi).2⟩, h.rows.top.keep hl (Nat.le_refl _) fun _ _ _ _ _ _ => rfl, h.rows.row⟩, h.dj, h.nil⟩
end Go.Proofs
namespace Go.Hx
theorem OwnM.elem {lo:Nat}{H:AHeap}{e1 e0:TypeId}{v:AVal}{ids:List Nat}{rows:List (List AVal)}(h:OwnM lo H e1 e0 v ids rows){i:Nat}(hi:i ∈ ids):∃ r, H.get i = some (.arr 0 e0 r) := by
  obtain⟨k, hk⟩ := Q4.1 hi
  have hl := (Rn.1 hk).1
  rw[h.len]at hl
  exact⟨_, h.row k i _ hk (QK hl)⟩
end Go.Hx
namespace Go.Proofs
open Go.Hx
structure SmallN (m:Nat)(ns:List NodeP):Prop where
  len:ns.length <= m
  node:∀ x ∈ ns, x.parents.length <= m /\ x.rows.length <= m /\ ∀ r ∈ x.rows, r ≠ [] /\ r.length <= m
theorem SmallN.mono {m m':Nat}{ns:List NodeP}(h:SmallN m ns)(hm:m <= m'):SmallN m' ns :=
  ⟨Ry h.len hm, fun x hx => by
    obtain⟨a, b, c⟩ := h.node x hx
    exact⟨by omega, by omega, fun r hr => ⟨(c r hr).1, by have := (c r hr).2; omega⟩⟩⟩
theorem SmallN.set {m:Nat}{ns:List NodeP}{A:Nat}{y:NodeP}(h:SmallN m ns)(hy:y.parents.length <= m /\ y.rows.length <= m /\ ∀ r ∈ y.rows, r ≠ [] /\ r.length <= m):SmallN m (ns.set A y) :=
  ⟨by rw[Q8]; exact h.len, fun x hx => by
    rcases Ru hx with h1 | rfl
    · exact h.node x h1
    · exact hy⟩
def dm (ns:List NodeP)(A:Nat)(c pv rv:AVal):List AVal := (((dY ns).set (A * 3) c).set (A * 3 + 1) pv).set (A * 3 + 2) rv
theorem A0 (ns:List NodeP)(A:Nat)(c pv rv:AVal):(dm ns A c pv rv).length = ns.length * 3 := by unfold dm; simp [lL]
theorem Le {ns:List NodeP}{A:Nat}(h:A < ns.length)(c pv rv:AVal):(dm ns A c pv rv)[A * 3]? = some c := by
  unfold dm
  rw[Rl (by omega), Rl (by omega), Rj (by rw[lL]; omega)]
theorem A1 {ns:List NodeP}{A:Nat}(h:A < ns.length)(c pv rv:AVal):(dm ns A c pv rv)[A * 3 + 2]? = some rv := by
  unfold dm
  rw[Rj (by rw[Q8, Q8, lL]; omega)]
theorem Lf {ns:List NodeP}{A i:Nat}(h0:i ≠ A * 3)(h1:i ≠ A * 3 + 1)(h2:i ≠ A * 3 + 2)(c pv rv:AVal):(dm ns A c pv rv)[i]? = (dY ns)[i]? := by
  unfold dm
  rw[Rl (by omega), Rl (by omega), Rl (by omega)]
theorem Lg {ns:List NodeP}{A:Nat}(h:A < ns.length)(c pv rv:AVal):¬ dm ns A c pv rv = [] := fun e => by
  have := Le h c pv rv
  rw[e]at this
  simp at this
theorem Lh {ns:List NodeP}{A:Nat}{x:NodeP}(h:ns[A]? = some x)(pv rv:AVal):((dY ns).set (A * 3 + 1) pv).set (A * 3 + 2) rv = dm ns A (ab x.card) pv rv := by
  unfold dm
  rw[tK (ox h)]
theorem Li {S : Nat → Prop} {lo nx z n : Nat} {H : AHeap} {e : TypeId} {v : AVal} {cs cs' : List AVal} (h : dK lo H e z v n cs) (hS : ∀ i, lo ≤ i → S i) (hl : cs'.length = cs.length)
    (hc:∀ i (h:i < cs.length) (h':i < cs'.length), Fz S H nx cs[i] cs'[i]):Fz S H nx v (.vec n cs') := by
  rcases h with ⟨rfl, rfl, rfl⟩ | ⟨id, g, h1, _, rfl, h3, h4⟩
  · obtain rfl := QT hl
    exact .nil
  · refine .frz (hS id h1) h4 (by omega) fun j hj h2 h' => ?_
    simp only[Nat.zero_add]at h2 ⊢
    exact hc j h2 h'
theorem Lj {S:Nat -> Prop}{H:AHeap}{nx A:Nat}{ns:List NodeP}{c:Int}{pv rv pv' rv':AVal}(hp:Fz S H nx pv pv')(hr:Fz S H nx rv rv'):∀ i (h:i < (dm ns A (ab c) pv rv).length) (h':i < (dm ns A (ab c) pv' rv').length), Fz S H nx (dm ns A (ab c) pv rv)[i] (dm ns A (ab c) pv' rv')[i] := by
  unfold dm
  intro i h h'
  simp only[List.getElem_set]
  by_cases h2:A * 3 + 2 = i
  · rw[QN h2, QN h2]; exact hr
  · rw[QQ h2, QQ h2]
    by_cases h1:A * 3 + 1 = i
    · rw[QN h1, QN h1]; exact hp
    · rw[QQ h1, QQ h1]
      by_cases h0:A * 3 = i
      · rw[QN h0]; exact .lit _
      · rw[QQ h0]; exact OO ns _ (Rz _)
theorem Lk {S : Nat → Prop} {lo nx : Nat} {H H' : AHeap} {v : AVal} {ids : List Nat} {rows : List (List Int)} {R idt gt : Nat} {w : AVal} {r' : List Int} {cells : List AVal} (h : OwnM lo H 22 3 v ids (rows.map ints)) (hS : ∀ i, lo ≤ i → S i) (hR : R < rows.length) (ht : lo ≤ idt)
    (hcell:cells.length = rows.length) (hsame:∀ (j id:Nat) (r:List Int), j ≠ R -> ids[j]? = some id -> rows[j]? = some r -> cells[j]? = some (.own id 0 0 r.length 1) /\ H'.get id = H.get id) (hw:cells[R]? = some w) (hg:H'.get idt = some (.arr gt 22 cells)) (hfw:Fz S H' nx w (ag r')):
    Fz S H' nx (.own idt gt 0 rows.length 1) (aD (rows.set R r')) := by
  have hl := h.len
  rw[QX]at hl
  have:Fz S H' nx (.own idt gt 0 rows.length 1) (.vec rows.length ((rows.set R r').map ag)) := by
    refine .frz (hS idt ht) hg (by simp) fun j hj h2 h' => ?_
    simp only[Nat.zero_add]at h2 ⊢
    have hjr:j < rows.length := by omega
    have e1 := QK h2
    generalize cells[j] = u at e1 ⊢
    rw[QY, List.getElem_set]
    split
    · rename_i e
      subst e
      rw[hw]at e1
      cases e1
      exact hfw
    · rename_i e
      have hij:j < ids.length := by omega
      obtain⟨c1, c2⟩ := hsame j _ _ (fun h => e h.symm) (QK hij) (QK hjr)
      rw[c1]at e1
      cases e1
      have hid := h.rng _ (Rz hij)
      have hrow := h.row j _ _ (QK hij) (show (rows.map ints)[j]? = some (ints rows[j]) by rw[List.getElem?_map, QK hjr]; rfl)
      rw[<- c2]at hrow
      refine .frz (hS _ hid.1) hrow (by simp [aX]) fun i hi h3 h4 => ?_
      have e0:0 + i = i := Nat.zero_add i
      simp only[e0, ints, QY]
      exact .lit _
  have e:aD (rows.set R r') = .vec rows.length ((rows.set R r').map ag) := by unfold aD; rw[Q8]
  rw[e]
  exact this
structure RowAt (lo:Nat)(H:AHeap)(rv:AVal)(ids:List Nat)(rows:List (List Int))(R:Nat)(q:List Int)(idt gt:Nat)(cells:List AVal)(idr:Nat):Prop where
  rv:rv = .own idt gt 0 rows.length 1
  top:H.get idt = some (.arr gt 22 cells)
  tlo:lo <= idt /\ idt < H.next
  len:cells.length = rows.length
  at':cells[R]? = some (.own idr 0 0 q.length 1)
  row:H.get idr = some (.arr 0 3 (ints q))
  rlo:lo <= idr /\ idr < H.next
  ne:idt ≠ idr
  id:ids[R]? = some idr
  q:rows[R]? = some q
  cell:∀ (j i:Nat) (r:List Int), ids[j]? = some i -> rows[j]? = some r -> cells[j]? = some (.own i 0 0 r.length 1)
  nm:idt ∉ ids
theorem OwnM.rowAt {lo:Nat}{H:AHeap}{rv:AVal}{ids:List Nat}{rows:List (List Int)}(h:OwnM lo H 22 3 rv ids (rows.map ints)){R:Nat}{q:List Int}(hq:rows[R]? = some q):∃ idt gt cells idr, RowAt lo H rv ids rows R q idt gt cells idr := by
  have hR := get_lt hq
  have hl := h.len
  rw[QX]at hl
  have h0:rows.map ints ≠ [] := by intro e; have := congrArg List.length e; simp at this; rw[this]at hR; simp at hR
  obtain⟨idt, gt, a, b, c, d, f⟩ := h.C8 h0
  obtain⟨idr, hidr⟩ := get_of_lt (show R < ids.length by omega)
  have hrow := h.row R idr (ints q) hidr (by rw[List.getElem?_map, hq]; rfl)
  have hcell:∀ (j i:Nat) (r:List Int), ids[j]? = some i -> rows[j]? = some r -> (List.zipWith (fun i n => AVal.own i 0 0 n 1) ids ((rows.map ints).map List.length))[j]? = some (.own i 0 0 r.length 1) := fun j i r h1 h2 => by
    rw[List.getElem?_zipWith, h1, List.getElem?_map, List.getElem?_map, h2]
    simp [aX]
  refine⟨idt, gt, _, idr, by rw[c, QX], d, ⟨a, b⟩, by simp [hl], hcell R idr q hidr hq, hrow, h.rng _ (an hidr), ?_, hidr, hq, hcell, f (by decide)⟩
  rintro rfl
  exact f (by decide) (an hidr)
theorem RowAt.Ll {S : Nat → Prop} {lo nx : Nat} {H H' : AHeap} {rv : AVal} {ids : List Nat} {rows : List (List Int)} {R : Nat} {q : List Int} {idt gt : Nat} {cells : List AVal} {idr : Nat} (h : RowAt lo H rv ids rows R q idt gt cells idr) (hM : OwnM lo H 22 3 rv ids (rows.map ints)) (hS : ∀ i, lo ≤ i → S i) {w : AVal} {q' : List Int}
    (ht:H'.get idt = some (.arr gt 22 (cells.set R w))) (hk:∀ i ∈ ids, i ≠ idr -> H'.get i = H.get i) (hw:Fz S H' nx w (ag q')):Fz S H' nx rv (aD (rows.set R q')) := by
  have hR := get_lt h.q
  rw[h.rv]
  refine Lk (gt := gt) hM hS hR h.tlo.1 (by rw[Q8]; exact h.len) (fun j i r hj h1 h2 => ⟨by rw[Rl (fun e => hj e.symm)]; exact h.cell j i r h1 h2, hk i (an h1) ?_⟩) (by rw[Rj (by rw[h.len]; exact hR)]) ht hw
  rintro rfl
  exact hj ((Sh (get_lt h1) hM.nd).1 (by rw[h1, h.id]))
theorem NodesQ.take {e:Nat -> Prop}{ns:List NodeP}{cs:List AVal}(h:NodesQ e ns cs)(k:Nat):NodesQ e (ns.take k) (cs.take (k * 3)) := by
  refine⟨by rw[QV, QV, h.len]; omega, fun v x hx => ?_⟩
  have hv := get_lt hx
  rw[QV]at hv
  rw[RD (by omega)]at hx
  obtain⟨rv, a, b, c, d⟩ := h.node v x hx
  exact⟨rv, by rw[RD (by omega)]; exact a, by rw[RD (by omega)]; exact b, by rw[RD (by omega)]; exact c, d⟩
theorem SmallN.take {m:Nat}{ns:List NodeP}(h:SmallN m ns)(k:Nat):SmallN m (ns.take k) := ⟨by rw[QV]; have := h.len; omega, fun x hx => h.node x (Rs hx)⟩
end Go.Proofs
