/- Own work: contracts. -/
import Derived.Test.YtikgmgmphkalkaaDoorConA
import Derived.Test.YtikgmgmphkalkaaDoorLibD
set_option linter.all false
set_option maxRecDepth 100000
namespace Go.Proofs
open Go.Hx
def qw (x:NodeP):AVal := .agg [.lit (.int .i64 x.card), .vec x.parents.length (ints x.parents), aD x.rows]
def lU (rows:List (List Int)):List (List AVal) := rows.zipIdx.map fun p => [ab p.2, ag p.1]
theorem CT {rows:List (List Int)}{k:Nat}{x:List AVal}(h:(lU rows)[k]? = some x):∃ r, rows[k]? = some r /\ x = [ab k, ag r] := by
  unfold lU at h
  rw[List.getElem?_map, Ts]at h
  cases hr:rows[k]? with
  | none => rw[hr]at h; simp at h
  | some r => rw[hr]at h; simp at h; exact⟨r, rfl, h.symm⟩
theorem PT {rows:List (List Int)}{k:Nat}{r:List Int}(h:rows[k]? = some r):(lU rows)[k]? = some [ab k, ag r] := by
  unfold lU; rw[List.getElem?_map, Ts, h]; simp
theorem CU (rows:List (List Int)):(lU rows).length = rows.length := by simp [lU]
theorem PU (x:NodeP)(hl:(x.rows.length:Int) < 2 ^ 40)(b:Nat):C4 Tryd.prog G0 116 [] [.ptr b 0 0] (lU x.rows) (fun H => H.get b = some (.arr 0 91 [.lit (.int .i64 x.card), .vec x.parents.length (ints x.parents), aD x.rows])) := by
  intro idy J Stop H K hS hJ0 hY hK hSt
  have l0 := aq (hS 0 H hJ0)
  show ah _ _ _ ([.yld idy] ++ [.ptr b 0 0]) _ _
  refine ah.cu (n := 19) (rs := []) Tryd.func116 rfl rfl rfl (by decide) (by kernel_rfl) (by simp) ?_
  simp (config := { maxSteps := 1000000 }) only[go_sem, l0, aD, aa]
  refine W.aR 524056 (by rfl) (fun ρ H' => ∃ k:Nat, ρ 8 = ab k /\ k <= x.rows.length /\ J k H' /\ H.next <= H'.next) (fun ρ H => x.rows.length - (iv (ρ 8)).toNat) ?_ ?_
  · simp (config := { maxSteps := 1000000 }) only[go_sem, aa]
    exact⟨0, rfl, by omega, hJ0⟩
  rintro ρ H' ⟨k, h8, hk, hj, hn⟩
  refine W.vs ?_
  by_cases hb:(k:Int) < x.rows.length
  · obtain⟨r, hr⟩ := get_of_lt (l := x.rows) (i := k) (by omega)
    have hne := aM hr
    have w1 := QL ((k:Int) + 1) (by omega)
    simp (config := { maxSteps := 1000000 }) only[go_sem, h8, hb, hr, hne, aa]
    refine hY k [ab k, ag r] H' _ (PT hr) hj hn (fun H2 hj2 hn2 => ⟨trivial, ?_⟩) (fun H2 hs2 hn2 => ⟨trivial, ?_⟩)
    · simp (config := { maxSteps := 1000000 }) only[go_sem, h8, w1, aa]
      exact⟨by omega, ⟨k + 1, by simp, by omega, hj2, by omega⟩, by omega⟩
    · simp (config := { maxSteps := 1000000 }) only[go_sem, aa]
      exact az.mk (by omega) (hSt H2 hs2 (by omega))
  · simp (config := { maxSteps := 1000000 }) only[go_sem, h8, hb, aa]
    have ek:k = (lU x.rows).length := by rw[CU]; omega
    subst ek
    exact az.mk (by omega) (hK H' hj hn)
theorem PV (x : NodeP) (H : AHeap) (K : ARes → AHeap → Prop) (hK : K (.ret (.clo 116 [] [.ptr H.next 0 0])) (ext H [.arr 0 91 [.lit (.int .i64 x.card), .vec x.parents.length (ints x.parents), aD x.rows]])) :
    ah Tryd.prog G0 114 [qw x] H K := by
  refine ah.cu (n := 4) (rs := [.tmp 2]) Tryd.func114 rfl rfl rfl (by decide) (by kernel_rfl) (by simp) ?_
  simp (config := { maxSteps := 1000000 }) only[go_sem, qw, aa]
  exact az.mk (by simp [dk]) hK
theorem xR {l:List Int}{g:Int}(h:∀ w ∈ l, 0 <= w):0 <= l.sum := by
  induction l with
  | nil => simp
  | cons a l ih =>
    have h1 := ih fun w hw => h w (by simp [hw])
    have h2 := h a (by simp)
    simp only[RA]; omega
theorem PW {l:List Int}(h:∀ w ∈ l, 0 <= w):∀ w ∈ l, w <= l.sum := by
  induction l with
  | nil => intro w hw; cases hw
  | cons a l ih =>
    intro w hw
    have h1 := xR (g := 0) fun w hw => h w (RB a hw)
    have h2 := h a (by simp)
    simp only[RA]
    rcases List.mem_cons.1 hw with rfl | hw
    · omega
    · have := ih (fun w hw => h w (by simp [hw])) w hw
      omega
noncomputable def jD (g:Int)(ns:List NodeP)(x:NodeP):Bool := @decide (fK g ns x) (Classical.propDecidable _)
theorem CV {g:Int}{ns:List NodeP}{x:NodeP}(h:fK g ns x):jD g ns x = true := by unfold jD; exact @decide_eq_true _ (Classical.propDecidable _) h
theorem PX {g:Int}{ns:List NodeP}{x:NodeP}(h:¬ fK g ns x):jD g ns x = false := by unfold jD; exact @decide_eq_false _ (Classical.propDecidable _) h
theorem PY {g:Int}{ns:List NodeP}{x:NodeP}:jD g ns x = true ↔ fK g ns x := by unfold jD; exact @decide_eq_true_iff _ (Classical.propDecidable _)
set_option maxHeartbeats 2000000 in
theorem PZ (g : Int) (hg : 1 ≤ g ∧ g ≤ 60) (ns : List NodeP) (sets : List Nat) (x : NodeP) (hin : fJ x.parents ns.length) (hsm : eX (aO ns x)) (hx1 : (x.rows.length : Int) < 2 ^ 38) (hx2 : ∀ r ∈ x.rows, (r.length : Int) < 2 ^ 38) (H : AHeap) (K : ARes → AHeap → Prop)
    (hK:K (.ret (.lit (.bool (jD g ns x)))) H):ah Tryd.prog G0 106 [.agg [.lit (.int .i64 g), ep ns, ag (aA ns), bS sets, .lit (.slice none 0 0)], qw x] H K := by
  refine ah.clo ⟨_, Tryd.func106, rfl, rfl⟩ fun hcl => ?_
  have l12 := hsm.1
  have pl:(aO ns x).length = x.parents.length := fq _ _
  have no:¬ fK g ns x -> ∀ H', Over H H' -> az Tryd.prog G0 H K (.lit (.bool false)) H' := fun h H' ov => az.cC bz hcl ov (.lit _) (by rw[PX h]at hK; exact hK)
  refine ah.cu (n := 66) (rs := [.cell 4 4]) Tryd.func106 rfl rfl rfl (by decide) (by kernel_rfl) (by simp) ?_
  simp (config := { maxSteps := 1000000 }) only[go_sem, ep, qw, aa]
  obtain⟨H1, hH1⟩:∃ H1, H1 = ext H [.arr 0 153 [.lit (.int .i64 g), .vec ns.length (aK ns), .vec (aA ns).length (ints (aA ns)), .vec sets.length (sets.map bq), .lit (.slice none 0 0)], .arr 0 91 [.lit (.int .i64 x.card), .vec x.parents.length (ints x.parents), aD x.rows], .arr 0 4 [.lit (.bool false)]] := ⟨_, rfl⟩
  have l1:H1.live H.next 0 = some (153, [.lit (.int .i64 g), .vec ns.length (aK ns), .vec (aA ns).length (ints (aA ns)), .vec sets.length (sets.map bq), .lit (.slice none 0 0)]) := by rw[hH1]; exact aq (ez ..)
  have l2:H1.live (H.next + 1) 0 = some (91, [.lit (.int .i64 x.card), .vec x.parents.length (ints x.parents), aD x.rows]) := by rw[hH1]; exact aq (bP H _ 1 (by simp))
  have g3:H1.get (H.next + 2) = some (.arr 0 4 [.lit (.bool false)]) := by rw[hH1]; exact bP H _ 2 (by simp)
  have n1:H1.next = H.next + 3 := by rw[hH1]; rfl
  have o1:Over H H1 := by rw[hH1]; exact .ext _ _
  rw[<- hH1]
  refine W.aR 268370080 (by rfl) (fun ρ H' => H' = H1 /\ ∃ k:Nat, ρ 16 = ab k /\ k <= x.parents.length /\ ρ 5 = ab (aQ ((aO ns x).take k))) (fun ρ H => x.parents.length - (iv (ρ 16)).toNat) ?_ ?_
  · simp (config := { maxSteps := 1000000 }) only[go_sem, aa]
    exact⟨0, rfl, by omega, by simp [kf]⟩
  rintro ρ H' ⟨rfl, k, h16, hk, h5⟩
  refine W.vs ?_
  by_cases hb:(k:Int) < x.parents.length
  · obtain⟨q, hq⟩ := get_of_lt (l := x.parents) (i := k) (by omega)
    obtain⟨j, rfl, y, hy⟩ := lG (l := ns) (hin q (an hq)).1 (hin q (an hq)).2
    have hne2 := aM hq
    have hyc := da hy
    have hne3 := aM hyc
    have hj:(j:Int) < (aA ns).length := by have := get_lt hyc; omega
    have pk:(aO ns x)[k]? = some y.card := by
      rw[show (aO ns x)[k]? = _ from lR hq, Int.toNat_natCast, aH hyc]
    have b1 := (hsm.take (k + 1)).prod
    rw[aU pk, iz]at b1
    have w1 := QL ((k:Int) + 1) (by omega)
    have w2 := QL (aQ ((aO ns x).take k) * y.card) (by omega)
    simp (config := { maxSteps := 1000000 }) only[go_sem, h16, h5, l1, l2, hb, hq, hne2, hj, hyc, hne3, w1, w2, aa]
    exact⟨⟨k + 1, by simp, by omega, by rw[aU pk, iz]⟩, by omega⟩
  rw[QP (by omega)]at h5
  by_cases c1:(x.rows.length:Int) = aQ (aO ns x)
  rotate_left
  · simp (config := { maxSteps := 1000000 }) only[go_sem, h16, h5, l1, l2, hb, c1, aD, aa]
    have l3 := aq g3
    simp (config := { maxSteps := 1000000 }) only[go_sem, l3, aa]
    exact no (fun h => c1 h.1) _ (o1.upd (by omega) _)
  simp (config := { maxSteps := 1000000 }) only[go_sem, h16, h5, l1, l2, hb, c1, aD, aa]
  refine aG.clo (PV x _ _ ⟨trivial, ?_⟩)
  simp (config := { maxSteps := 1000000 }) only[go_sem, aa]
  obtain⟨H2, hH2⟩:∃ H2, H2 = ext H' [.arr 0 91 [.lit (.int .i64 x.card), .vec x.parents.length (ints x.parents), aD x.rows]] := ⟨_, rfl⟩
  rw[<- hH2]
  have o2:Over H' H2 := by rw[hH2]; exact .ext _ _
  have n2:H2.next = H.next + 4 := by rw[hH2, dk, n1]; rfl
  have hbx:H2.get H'.next = some (.arr 0 91 [.lit (.int .i64 x.card), .vec x.parents.length (ints x.parents), aD x.rows]) := by rw[hH2]; exact cQ
  refine W.env fun E hE => ?_
  have e2:E 2 = .ptr H.next 0 0 := by rw[hE]; simp (config := { maxSteps := 1000000 }) only[go_sem, aa]
  have e3:E 3 = .ptr (H.next + 1) 0 0 := by rw[hE]; simp (config := { maxSteps := 1000000 }) only[go_sem, aa]
  have e4:E 4 = .ptr (H.next + 2) 0 0 := by rw[hE]; simp (config := { maxSteps := 1000000 }) only[go_sem, aa]
  have i1:H2.live H.next 0 = some (153, [.lit (.int .i64 g), .vec ns.length (aK ns), .vec (aA ns).length (ints (aA ns)), .vec sets.length (sets.map bq), .lit (.slice none 0 0)]) := (o2.live (by omega)).trans l1
  have i2:H2.live (H.next + 1) 0 = some (91, [.lit (.int .i64 x.card), .vec x.parents.length (ints x.parents), aD x.rows]) := (o2.live (by omega)).trans l2
  have i3:H2.get (H.next + 2) = some (.arr 0 4 [.lit (.bool false)]) := (o2.old _ (by omega)).trans g3
  refine W.Qn (f := 116) (first := []) (cap := [.ptr H'.next 0 0]) (by show E 34 = _; rw[hE]; rfl) (PU x (by omega) H'.next)
    (fun k Hx => Over H2 Hx /\ ∀ r ∈ x.rows.take k, jC g x.card r) (fun c Hx => c = .ret /\ Over H Hx /\ H.next + 4 <= Hx.next /\ Hx.get (H.next + 2) = some (.arr 0 4 [.lit (.bool false)]) /\ ¬ fK g ns x)
    (fun k Hx h => by rw[h.1.old _ (by omega)]; exact hbx) (fun k Hx b h => ⟨h.1.upd (Nat.le_refl _) b, h.2⟩) (fun c Hx b h => ⟨h.1, h.2.1.upd (by omega) b, h.2.2.1, by rw[ao, QQ (by omega)]; exact h.2.2.2.1, h.2.2.2.2⟩)
    (fun b => ⟨.ext _ _, by simp⟩) (by decide) (fun y hy => by
      obtain⟨k, hk⟩ := Q4.1 hy
      obtain⟨r, _, rfl⟩ := CT hk
      rfl) (fun _ _ _ => trivial) (fun _ _ _ => trivial) (fun k y Hx B Bb hy hj hn hB hBb => ?_) (fun Hx hj hn => ?_) (fun Hx hs hn => ?_) (fun i Hx hs hn => by cases hs.1)
  · obtain⟨r, hr, rfl⟩ := CT hy
    refine W.vs ?_
    simp (config := { maxSteps := 1000000 }) only[go_sem, kM, dz, tT, Ss, List.foldl_nil, Te, List.zip_nil_right, hB, aa]
    obtain⟨H3, hH3⟩:∃ H3, H3 = Hx.upd H2.next Bb := ⟨_, rfl⟩
    rw[<- hH3]
    obtain⟨st, pd, n', en, ps', as', bo, hBe⟩ := hBb
    have o3:Over H2 H3 := by rw[hH3]; exact hj.1.upd (Nat.le_refl _) Bb
    have o4:Over H H3 := (o1.trans o2).trans o3
    have n3:H3.next = Hx.next := by rw[hH3]; rfl
    have j1 := (o3.live (g := 0) (by omega:H.next < H2.next)).trans i1
    have j2 := (o3.live (g := 0) (by omega:H.next + 1 < H2.next)).trans i2
    have j3 := (o3.old _ (by omega:H.next + 2 < H2.next)).trans i3
    have j4 := aq j3
    have jB:H3.get H2.next = some Bb := by rw[hH3, ao, QN rfl]
    have nB:¬ H2.next = H.next + 2 := by omega
    have hrm := an hr
    have hrl := hx2 r hrm
    have nope:¬ jC g x.card r -> ¬ fK g ns x := fun h h' => h (h'.2 r hrm)
    have stop : ¬ jC g x.card r → (H3.upd (H.next + 2) (Blk.arr 0 4 [.lit (.bool false)])).get H2.next = some Bb ∧ Hx.next ≤ (H3.upd (H.next + 2) (Blk.arr 0 4 [.lit (.bool false)])).next ∧ Over H (H3.upd (H.next + 2) (Blk.arr 0 4 [.lit (.bool false)])) ∧
        H.next + 4 <= (H3.upd (H.next + 2) (Blk.arr 0 4 [.lit (.bool false)])).next /\ (H3.upd (H.next + 2) (Blk.arr 0 4 [.lit (.bool false)])).get (H.next + 2) = some (.arr 0 4 [.lit (.bool false)]) /\ ¬ fK g ns x := fun h =>
      ⟨by rw[ao, QQ nB]; exact jB, by rw[aV]; omega, o4.upd (by omega) _, by rw[aV]; omega, by rw[ao, QN rfl], nope h⟩
    refine W.vs ?_
    simp (config := { maxSteps := 1000000 }) only[go_sem, dz, e2, e3, e4, j1, j2, aa]
    refine W.aR 144110790029349888 (by rfl) (fun ρ2 H4 => H4 = H3 /\ ∃ i:Nat, ρ2 42 = ab i /\ i <= r.length /\ (∀ w ∈ r.take i, 0 <= w) /\ (r.take i).sum <= g /\ ρ2 10 = ab (g - (r.take i).sum)) (fun ρ2 H => r.length - (iv (ρ2 42)).toNat) ?_ ?_
    · simp (config := { maxSteps := 1000000 }) only[go_sem, aa]
      exact⟨0, rfl, by omega, by simp, by simp; omega, by simp⟩
    rintro ρ2 H4 ⟨rfl, i, h42, hi, hw0, hws, h10⟩
    refine W.vs ?_
    have s0 := xR (g := g) hw0
    by_cases hb2:(i:Int) < r.length
    · obtain⟨a, ha⟩ := get_of_lt (l := r) (i := i) (by omega)
      have ham := an ha
      have hane := aM ha
      by_cases d1:a < 0
      · simp (config := { maxSteps := 1000000 }) only[go_sem, h42, h10, hb2, ha, hane, d1, dz, e2, e3, e4, j4, aJ, mH, aa]
        exact stop fun h => by have := h.2.1 a ham; omega
      by_cases d2:a > g - (r.take i).sum
      · simp (config := { maxSteps := 1000000 }) only[go_sem, h42, h10, hb2, ha, hane, d1, d2, dz, e2, e3, e4, j4, aJ, mH, aa]
        refine stop fun h => ?_
        have h1:r.sum = (r.take (i + 1)).sum + (r.drop (i + 1)).sum := by rw[<- TO, RW]
        rw[aU ha, tO]at h1
        have h2 := xR (g := g) (l := r.drop (i + 1)) fun w hw => (h.2.1 w (Tq hw)).1
        have := h.2.2
        omega
      have w1 := QL ((i:Int) + 1) (by omega)
      have w2 := QL (g - (r.take i).sum - a) (by omega)
      simp (config := { maxSteps := 1000000 }) only[go_sem, h42, h10, hb2, ha, hane, d1, d2, w1, w2, dz, aJ, aa]
      refine⟨⟨_, _, _, _, _, _, _, by rw[jB, hBe]⟩, ⟨i + 1, by simp, by omega, fun w hw => ?_, by rw[aU ha, tO]; omega, ?_⟩, by omega⟩
      · rw[aU ha]at hw
        rcases Q1.1 hw with hw | hw
        · exact hw0 w hw
        · obtain rfl := List.mem_singleton.1 hw; omega
      · rw[aU ha, tO]; show ab _ = ab _; congr 1; omega
    · rw[QP (by omega)]at hw0 hws h10 s0
      by_cases d1:(r.length:Int) = x.card
      rotate_left
      · simp (config := { maxSteps := 1000000 }) only[go_sem, h42, h10, hb2, d1, dz, e2, e3, e4, j2, j4, aJ, mH, aa]
        exact stop fun h => d1 h.1
      have hb2':¬ (i:Int) < x.card := by omega
      by_cases d2:g - r.sum = 0
      rotate_left
      · simp (config := { maxSteps := 1000000 }) only[go_sem, h42, h10, hb2, hb2', d1, d2, dz, e2, e3, e4, j2, j4, aJ, mH, aa]
        exact stop fun h => by have := h.2.2; omega
      simp (config := { maxSteps := 1000000 }) only[go_sem, h42, h10, hb2, hb2', d1, d2, dz, e2, e3, e4, j2, j4, aJ, mH, aa]
      refine⟨jB, by omega, o3, fun y hy => ?_⟩
      rw[aU hr]at hy
      rcases Q1.1 hy with hy | hy
      · exact hj.2 y hy
      · obtain rfl := List.mem_singleton.1 hy
        exact⟨d1, fun w hw => ⟨hw0 w hw, by have := PW hw0 w hw; omega⟩, by omega⟩
  · have hok : fK g ns x := ⟨c1, by
      have := hj.2
      rw[CU, List.take_length]at this
      exact this⟩
    have j4 := aq ((hj.1.old _ (by omega:H.next + 2 < H2.next)).trans i3)
    rw[CV hok]at hK
    simp (config := { maxSteps := 1000000 }) only[go_sem, e4, j4, aa]
    exact az.cC bz hcl (((o1.trans o2).trans hj.1).upd (by omega) _) (.lit _) hK
  · obtain⟨_, o4, n4, g4, hno⟩ := hs
    have j4 := aq g4
    simp (config := { maxSteps := 1000000 }) only[go_sem, e4, j4, aa]
    exact no hno _ o4
end Go.Proofs
namespace Go.Hx
theorem aF.P0 {lo:Nat}{H:AHeap}{e:TypeId}{v:AVal}{l:List Int}(h:aF lo H e v (ints l)):Fresh H v (ag l) := by
  rcases h with ⟨rfl, h⟩ | ⟨id, g, h1, h2, rfl, h4⟩
  · have : l = [] := by cases l with
      | nil => rfl
      | cons a l => simp [ints]at h
    subst this
    exact .nil
  · have e:ag l = .vec (ints l).length (ints l) := by rw[aX]; rfl
    rw[e]
    refine .own h4 (by simp) fun j hj h2 h' => ?_
    simp only[Nat.zero_add, ints, QY]
    exact .lit _
theorem Fz.xS {H:AHeap}{id g n nx:Nat}{e:TypeId}{cs:List AVal}(hg:H.get id = some (.arr g e cs))(hn:n = cs.length)(hl:∀ c ∈ cs, ∃ v, c = .lit v):Fz (fun _ => True) H nx (.own id g 0 n 1) (.vec n cs) := by
  refine .frz trivial hg (by omega) fun j hj h2 h' => ?_
  simp only[Nat.zero_add]
  obtain⟨v, hv⟩ := hl _ (Rz h')
  rw[hv]; exact .lit _
end Go.Hx
namespace Go.Proofs
open Go.Hx
def dh (l:List Nat):List Int := l.map fun (v:Nat) => (v:Int)
theorem P1 {n j:Nat}{p:Nat -> Bool}(hj:j < n)(h1:∀ v, v < j -> p v = false)(h2:p j = true):(List.range n).find? p = some j := by
  rw[List.find?_eq_some_iff_getElem]
  refine⟨h2, j, by simpa using hj, by simp, fun k hk => ?_⟩
  simp only[List.getElem_range]
  simp [h1 k hk]
theorem P2 {n:Nat}{p:Nat -> Bool}(h1:∀ v, v < n -> p v = false):(List.range n).find? p = none := by
  rw[List.find?_eq_none]
  intro x hx
  simp [h1 x (QW.1 hx)]
set_option maxHeartbeats 1000000 in
theorem P3 (ps : List Nat) (hl : ps.length ≤ 60) (hp : ∀ p ∈ ps, p < 2 ^ 64) (H : AHeap) (K : ARes → AHeap → Prop)
    (hK:∀ v H', Over H H' -> (match eM ps with | some o => aF H.next H' 3 v (ints (dh o)) | none => v = .lit (.slice none 0 0)) -> K (.ret (.tup [v, .lit (.bool (eM ps).isSome)])) H'):ah Tryd.prog G0 107 [bS ps] H K := by
  have no:∀ H', eM ps = none -> Over H H' -> az Tryd.prog G0 H K (.tup [.lit (.slice none 0 0), .lit (.bool false)]) H' := fun H' h ov => az.mk ov.next (by
    have := hK (.lit (.slice none 0 0)) H' ov
    rw[h]at this
    exact this rfl)
  refine ah.cu (n := 44) (rs := [.tmp 2, .tmp 3]) Tryd.func107 rfl rfl rfl (by decide) (by kernel_rfl) (by simp) ?_
  simp (config := { maxSteps := 1000000 }) only[go_sem, aa]
  refine⟨by omega, ?_⟩
  refine W.aR 8796093020412 (by rfl) (fun ρ H' => ∃ (out:List Nat) (done:Nat), ρ 5 = bq done /\ done < 2 ^ 64 /\ out.length <= ps.length /\ H.next + 1 <= H'.next /\ Over H H' /\ aF H.next H' 3 (ρ 4) (ints (dh out)) /\ (∃ id g, ρ 4 = .own id g 0 out.length 1) /\ jx ps (ps.length - out.length) out done = eM ps)
    (fun ρ H => ps.length - (match ρ 4 with | .own _ _ _ n _ => n | _ => 0)) ?_ ?_
  · simp (config := { maxSteps := 1000000 }) only[go_sem, aa]
    exact⟨[], 0, by simp, by decide, SX _, .ext _ _, .inr ⟨H.next, 0, Nat.le_refl _, by simp [dk], rfl, ez H _ []⟩, ⟨_, _, rfl⟩, rfl⟩
  rintro ρ H' ⟨out, done, h5, hd, ho, hn0, ov, h4, ⟨id, gn, h4e⟩, ht⟩
  refine W.vs ?_
  have lv:H'.live id gn = some (3, ints (dh out)) := by
    rcases h4 with ⟨h, _⟩ | ⟨i, g, h1, h2, h3, h4⟩
    · rw[h4e]at h; cases h
    · rw[h4e]at h3
      have := AVal.own.inj h3
      obtain⟨rfl, rfl, _⟩ := this
      exact aq h4
  by_cases hb:(out.length:Int) < ps.length
  · simp (config := { maxSteps := 1000000 }) only[go_sem, h4e, h5, lv, hb, aa]
    have hk1:ps.length - out.length = (ps.length - (out.length + 1)) + 1 := by omega
    refine W.aR 8796092760304 (by rfl) (fun ρ2 H2 => H2 = H' /\ ∃ j:Nat, ρ2 18 = ab j /\ j <= ps.length /\ ρ2 4 = .own id gn 0 out.length 1 /\ ρ2 5 = bq done /\ ∀ v, v < j -> lH ps done v = false) (fun ρ2 H => ps.length - (iv (ρ2 18)).toNat) ?_ ?_
    · simp (config := { maxSteps := 1000000 }) only[go_sem, h4e, h5, aa]
      exact⟨0, rfl, by omega, fun v h => absurd h (Q5 _)⟩
    rintro ρ2 H2 ⟨rfl, j, h18, hj, h4', h5', hno⟩
    refine W.vs ?_
    by_cases hb2:(j:Int) < ps.length
    · obtain⟨p, hpj⟩ := get_of_lt (l := ps) (i := j) (by omega)
      have hp1 := hp p (an hpj)
      have hne := aM hpj
      have s1 := fun t x y => tS (P := Tryd.prog) (t := t) (x := x) (y := y) (k' := .i64) (s := j) hd
      have s2 := fun t x y => xW (P := Tryd.prog) (t := t) (x := x) (y := y) (s := j) hd
      have s3 := fun t x y => C1 (P := Tryd.prog) (t := t) (x := x) (y := y) (a := p) (b := done)
      have w1 := QL ((j:Int) + 1) (by omega)
      have cont:lH ps done j = false -> ∀ v, v < j + 1 -> lH ps done v = false := fun h v hv => by
        rcases Q3 v j with h' | h'
        · exact hno v h'
        · obtain rfl:v = j := by omega
          exact h
      have fe:lH ps done j = (!done.testBit j && decide (g9 p done = 0)) := by unfold lH; rw[aH hpj]
      cases hbit:done.testBit j
      rotate_left
      · simp (config := { maxSteps := 1000000 }) only[go_sem, h18, h4', h5', hb2, hpj, hne, s1, s2, s3, hbit, aJ, w1, aa]
        exact⟨⟨j + 1, by simp, by omega, cont (by rw[fe, hbit]; rfl)⟩, by omega⟩
      by_cases hz:g9 p done = 0
      rotate_left
      · have hz':¬ ((g9 p done:Nat):Int) = 0 := by omega
        simp (config := { maxSteps := 1000000 }) only[go_sem, h18, h4', h5', hb2, hpj, hne, s1, s2, s3, hbit, hz', aJ, w1, aa]
        exact⟨⟨j + 1, by simp, by omega, cont (by rw[fe, hbit]; simp [hz])⟩, by omega⟩
      have hz':((g9 p done:Nat):Int) = 0 := by omega
      have hnx:kj ps done = some j := P1 (by omega) hno (by rw[fe, hbit]; simp [hz])
      obtain⟨v', H3, hA, ov2, hO, hn2, _⟩ := xX (j:Int) ov h4 (by simp [dh]; omega)
      rw[h4e]at hA
      have b2:(2:Nat) ^ j < 2 ^ 64 := Sm (by decide) (by omega)
      have s4 := fun t x y => oJ (P := Tryd.prog) (t := t) (x := x) (y := y) (k' := .i64) (s := j) (by omega)
      have s5 := fun t x y => oI (P := Tryd.prog) (t := t) (x := x) (y := y) hd b2
      simp (config := { maxSteps := 1000000 }) only[go_sem, h18, h4', h5', hb2, hpj, hne, s1, s2, s3, s4, s5, hbit, hz', aJ, hA]
      have hO':aF H.next H3 3 v' (ints (dh (out ++ [j]))) := by
        have e:dh (out ++ [j]) = dh out ++ [(j:Int)] := by simp [dh]
        rw[e]; exact hO
      have hv':∃ id g, v' = .own id g 0 (out.length + 1) 1 := by
        rcases hO' with ⟨_, h⟩ | ⟨i, g, _, _, h3, _⟩
        · simp [ints, dh]at h
        · exact⟨i, g, by rw[h3, aX]; simp [dh]⟩
      obtain⟨i2, g2, rfl⟩ := hv'
      refine⟨by omega, ⟨out ++ [j], done ||| 2 ^ j, rfl, TD hd b2, by simp; omega, by omega, ov2, hO', ⟨i2, g2, by simp⟩, ?_⟩, by simp only; omega⟩
      rw[<- ht, hk1]
      conv => rhs; unfold jx
      rw[hnx]
      simp
    · simp (config := { maxSteps := 1000000 }) only[go_sem, h18, hb2, aa]
      refine no _ ?_ ov
      rw[<- ht, hk1]
      unfold jx
      have:kj ps done = none := P2 fun v hv => hno v (by omega)
      rw[this]
  · simp (config := { maxSteps := 1000000 }) only[go_sem, h4e, h5, lv, hb, aa]
    have hz:ps.length - out.length = 0 := by omega
    rw[hz]at ht
    have ht':eM ps = some out := ht.symm
    have := hK (.own id gn 0 out.length 1) H' ov
    rw[ht']at this
    refine az.mk ov.next (this ?_)
    rw[h4e]at h4; exact h4
theorem P4 (ps : List Nat) (hl : ps.length ≤ 60) (hp : ∀ p ∈ ps, p < 2 ^ 64) (H : AHeap) (v : AVal) (hv : Fz (fun _ => True) H 0 v (bS ps)) (K : ARes → AHeap → Prop)
    (hK:K (.ret (.tup [ag (dh ((eM ps).getD [])), .lit (.bool (eM ps).isSome)])) H):ah Tryd.prog G0 107 [v] H K := by
  refine(ah.frame (H := H) (args := [v]) (args' := [bS ps]) (v' := .tup [ag (dh ((eM ps).getD [])), .lit (.bool (eM ps).isSome)]) bz rfl (fun i hi _ => match i, hi with | 0, _ => hv) (P3 ps hl hp bT _ fun u H' ov hu => ⟨_, rfl, ?_⟩)).mono ?_
  · refine .tup rfl fun i hi _ => ?_
    match i, hi with
    | 0, _ =>
      show Fresh H' u _
      cases ht:eM ps with
      | none => rw[ht]at hu; simp only at hu; rw[hu]; show Fresh H' _ (ag []); exact .nil
      | some o => rw[ht]at hu; exact aF.P0 hu
    | 1, _ => exact .lit _
  · rintro r H' ⟨rfl, rfl⟩
    exact hK
def xT:AVal := .agg [.lit (.int .i64 0), ag [], ag [], ag [], ag []]
def xU (g:Int)(ns:List NodeP):AVal := .agg [.lit (.int .i64 g), ep ns, ag (aA ns), bS (aW ns), ag (dh ((eM (aW ns)).getD []))]
structure RdS (g:Int)(ns:List NodeP)(H H':AHeap)(c:List Int)(s:List Nat):Prop where
  nx:H.next + 5 <= H'.next
  ov:Over H H'
  b0:H'.get H.next = some (.arr 0 61 [.lit (.int .i64 g), .vec ns.length (aK ns)])
  b1:H'.get (H.next + 1) = some (.arr 0 153 [.lit (.int .i64 0), .lit (.slice none 0 0), .lit (.slice none 0 0), .lit (.slice none 0 0), .lit (.slice none 0 0)])
  b2:H'.get (H.next + 2) = some (.arr 0 3 (ints c))
  b3:H'.get (H.next + 3) = some (.arr 0 100 (s.map bq))
  b4:H'.get (H.next + 4) = some (.arr 0 153 [.lit (.int .i64 g), .vec ns.length (aK ns), .own (H.next + 2) 0 0 ns.length 1, .own (H.next + 3) 0 0 ns.length 1, .lit (.slice none 0 0)])
  cl:c.length = ns.length
  sl:s.length = ns.length
theorem RdS.over {g:Int}{ns:List NodeP}{H H' H2:AHeap}{c:List Int}{s:List Nat}(h:RdS g ns H H' c s)(o:Over H' H2):RdS g ns H H2 c s where
  nx := Ry h.nx o.next
  ov := h.ov.trans o
  b0 := (o.old _ (by have := h.nx; omega)).trans h.b0
  b1 := (o.old _ (by have := h.nx; omega)).trans h.b1
  b2 := (o.old _ (by have := h.nx; omega)).trans h.b2
  b3 := (o.old _ (by have := h.nx; omega)).trans h.b3
  b4 := (o.old _ (by have := h.nx; omega)).trans h.b4
  cl := h.cl
  sl := h.sl
theorem RdS.P5 {g:Int}{ns:List NodeP}{H H':AHeap}{c:List Int}{s:List Nat}(h:RdS g ns H H' c s){k:Nat}(hk:k < c.length)(x:Int):RdS g ns H (H'.upd (H.next + 2) (.arr 0 3 (setAt (ints c) k [.lit (.int .i64 x)]))) (c.set k x) s where
  nx := h.nx
  ov := h.ov.upd (by omega) _
  b0 := by rw[ao, QQ (by omega)]; exact h.b0
  b1 := by rw[ao, QQ (by omega)]; exact h.b1
  b2 := by rw[ao, QN rfl, fo hk]
  b3 := by rw[ao, QQ (by omega)]; exact h.b3
  b4 := by rw[ao, QQ (by omega)]; exact h.b4
  cl := by simpa using h.cl
  sl := h.sl
theorem CW {l:List Nat}{i:Nat}{x:Nat}(h:i < l.length):setAt (l.map bq) i [.lit (.int .u64 (x:Int))] = (l.set i x).map bq := by
  rw[xV (by simpa using h)]
  simp [bq]
theorem RdS.P6 {g:Int}{ns:List NodeP}{H H':AHeap}{c:List Int}{s:List Nat}(h:RdS g ns H H' c s){k:Nat}(hk:k < s.length)(x:Nat):RdS g ns H (H'.upd (H.next + 3) (.arr 0 100 (setAt (s.map bq) k [.lit (.int .u64 (x:Int))]))) c (s.set k x) where
  nx := h.nx
  ov := h.ov.upd (by omega) _
  b0 := by rw[ao, QQ (by omega)]; exact h.b0
  b1 := by rw[ao, QQ (by omega)]; exact h.b1
  b2 := by rw[ao, QQ (by omega)]; exact h.b2
  b3 := by rw[ao, QN rfl, CW hk]
  b4 := by rw[ao, QQ (by omega)]; exact h.b4
  cl := h.cl
  sl := by simpa using h.sl
theorem RdS.l0 {g:Int}{ns:List NodeP}{H H':AHeap}{c:List Int}{s:List Nat}(h:RdS g ns H H' c s):H'.live H.next 0 = some (61, [.lit (.int .i64 g), .vec ns.length (aK ns)]) := aq h.b0
theorem RdS.l1 {g:Int}{ns:List NodeP}{H H':AHeap}{c:List Int}{s:List Nat}(h:RdS g ns H H' c s):H'.live (H.next + 1) 0 = some (153, [.lit (.int .i64 0), .lit (.slice none 0 0), .lit (.slice none 0 0), .lit (.slice none 0 0), .lit (.slice none 0 0)]) := aq h.b1
theorem RdS.l2 {g:Int}{ns:List NodeP}{H H':AHeap}{c:List Int}{s:List Nat}(h:RdS g ns H H' c s):H'.live (H.next + 2) 0 = some (3, ints c) := aq h.b2
theorem RdS.l3 {g:Int}{ns:List NodeP}{H H':AHeap}{c:List Int}{s:List Nat}(h:RdS g ns H H' c s):H'.live (H.next + 3) 0 = some (100, s.map bq) := aq h.b3
theorem RdS.l4 {g:Int}{ns:List NodeP}{H H':AHeap}{c:List Int}{s:List Nat}(h:RdS g ns H H' c s):H'.live (H.next + 4) 0 = some (153, [.lit (.int .i64 g), .vec ns.length (aK ns), .own (H.next + 2) 0 0 ns.length 1, .own (H.next + 3) 0 0 ns.length 1, .lit (.slice none 0 0)]) := aq h.b4
theorem CX {S:Nat -> Prop}{H:AHeap}{nx:Nat}(ns:List NodeP):Fz S H nx (.vec ns.length (aK ns)) (.vec ns.length (aK ns)) := by
  refine .vec rfl fun i hi _ => ?_
  have:∀ (l:List NodeP) (c:AVal), c ∈ aK l -> Fz S H nx c c := by
    intro l c hc
    unfold aK at hc
    obtain⟨r, hr, hc⟩ := R8.1 hc
    obtain⟨x, _, rfl⟩ := Q6.1 hr
    unfold NodeP.cells at hc
    simp only[List.mem_cons, List.not_mem_nil, or_false]at hc
    rcases hc with rfl | rfl | rfl
    · exact .lit _
    · exact .ik _
    · exact .aD _
  exact this ns _ (Rz _)
theorem P7 (g : Int) (hg : 1 ≤ g ∧ g ≤ 60) (ns : List NodeP) (sets : List Nat) (x : NodeP) (hin : fJ x.parents ns.length) (hsm : eX (aO ns x)) (hx1 : (x.rows.length : Int) < 2 ^ 38) (hx2 : ∀ r ∈ x.rows, (r.length : Int) < 2 ^ 38) (H : AHeap) (ci si : Nat)
    (h2:H.get ci = some (.arr 0 3 (ints (aA ns)))) (h3:H.get si = some (.arr 0 100 (sets.map bq))) (hs:sets.length = ns.length) (K:ARes -> AHeap -> Prop)
    (hK:K (.ret (.lit (.bool (jD g ns x)))) H):ah Tryd.prog G0 106 [.agg [.lit (.int .i64 g), .vec ns.length (aK ns), .own ci 0 0 ns.length 1, .own si 0 0 ns.length 1, .lit (.slice none 0 0)], .agg [.lit (.int .i64 x.card), .vec x.parents.length (ints x.parents), aD x.rows]] H K := by
  refine(ah.frame (H := H) (args := [.agg [.lit (.int .i64 g), .vec ns.length (aK ns), .own ci 0 0 ns.length 1, .own si 0 0 ns.length 1, .lit (.slice none 0 0)], .agg [.lit (.int .i64 x.card), .vec x.parents.length (ints x.parents), aD x.rows]]) (args' := [.agg [.lit (.int .i64 g), ep ns, ag (aA ns), bS sets, .lit (.slice none 0 0)], qw x]) (v' := .lit (.bool (jD g ns x))) bz rfl (fun i hi _ => ?_) (PZ g hg ns sets x hin hsm hx1 hx2 bT _ ⟨_, rfl, .lit _⟩)).mono ?_
  · match i, hi with
    | 0, _ =>
      refine .agg rfl fun i hi _ => ?_
      match i, hi with
      | 0, _ => exact .lit _
      | 1, _ => exact CX _
      | 2, _ =>
        have := Fz.xS (nx := 0) h2 (n := ns.length) (by rw[aX, dE]) (fun c hc => by
          obtain⟨z, _, rfl⟩ := Q6.1 hc
          exact⟨_, rfl⟩)
        show Fz _ _ _ _ (.vec (aA ns).length (ints (aA ns)))
        rw[dE]; exact this
      | 3, _ =>
        have := Fz.xS (nx := 0) h3 (n := ns.length) (by simp [hs]) (fun c hc => by
          obtain⟨z, _, rfl⟩ := Q6.1 hc
          exact⟨_, rfl⟩)
        show Fz _ _ _ _ (.vec sets.length (sets.map bq))
        rw[hs]; exact this
      | 4, _ => exact .lit _
    | 1, _ =>
      refine .agg rfl fun i hi _ => ?_
      match i, hi with
      | 0, _ => exact .lit _
      | 1, _ => exact .ik _
      | 2, _ => exact .aD _
  · rintro r H' ⟨rfl, rfl⟩
    exact hK
theorem P8 {ns:List NodeP}{k:Nat}{x:NodeP}(hx:ns[k]? = some x)(h0:∀ q ∈ x.parents, 0 <= q)(hm:(k:Int) ∈ x.parents):¬ gX (aW ns) := fun h => by
  have hk := get_lt (lS hx)
  have := h k hk
  rw[aH (lS hx)]at this
  have h1 := xq (aW ns) (aW ns).length (bV x.parents) k (by rw[kg h0]; exact Rk hm)
  unfold er at this
  rw[h1]at this; cases this
set_option maxHeartbeats 4000000 in
theorem P9 (g:Int)(ns:List NodeP)(hf:ku ns)(H:AHeap)(K:ARes -> AHeap -> Prop)(hK:K (.ret (if fw g ns then .tup [xU g ns, ab 0] else .tup [xT, ab 50])) H):ah Tryd.prog G0 87 [dp g ns] H K := by
  refine ah.clo ⟨_, Tryd.func87, rfl, rfl⟩ fun hcl => ?_
  have no:¬ NetOk g ns -> ∀ H', Over H H' -> az Tryd.prog G0 H K (.tup [.agg [.lit (.int .i64 0), .lit (.slice none 0 0), .lit (.slice none 0 0), .lit (.slice none 0 0), .lit (.slice none 0 0)], .lit (.int .i64 50)]) H' := fun h H' ov => by
    rw[CR h]at hK
    refine az.cC (v' := .tup [xT, ab 50]) bz hcl ov (.tup rfl fun i hi _ => ?_) hK
    match i, hi with
    | 0, _ =>
      refine .agg rfl fun i hi _ => ?_
      match i, hi with
      | 0, _ => exact .lit _
      | 1, _ => exact .nil
      | 2, _ => exact .nil
      | 3, _ => exact .nil
      | 4, _ => exact .nil
    | 1, _ => exact .lit _
  refine ah.cu (n := 140) (rs := [.cell 2 153, .tmp 3]) Tryd.func87 rfl rfl rfl (by decide) (by kernel_rfl) (by simp) ?_
  simp (config := { maxSteps := 1000000 }) only[go_sem, dp, ep, aa]
  have l1 := aq (ez H (.arr 0 61 [.lit (.int .i64 g), .vec ns.length (aK ns)]) [.arr 0 153 [.lit (.int .i64 0), .lit (.slice none 0 0), .lit (.slice none 0 0), .lit (.slice none 0 0), .lit (.slice none 0 0)]])
  by_cases c1:g < 1
  · simp (config := { maxSteps := 1000000 }) only[go_sem, l1, c1, aJ, aa]
    exact no (fun h => by have := h.g1; omega) _ (.ext _ _)
  by_cases c2:g > 60
  · simp (config := { maxSteps := 1000000 }) only[go_sem, l1, c1, c2, aJ, aa]
    exact no (fun h => by have := h.g1; omega) _ (.ext _ _)
  by_cases c3:(ns.length:Int) < 1
  · simp (config := { maxSteps := 1000000 }) only[go_sem, l1, c1, c2, c3, aJ, aa]
    exact no (fun h => by have := h.n1; omega) _ (.ext _ _)
  by_cases c4:(ns.length:Int) > 8
  · simp (config := { maxSteps := 1000000 }) only[go_sem, l1, c1, c2, c3, c4, aJ, aa]
    exact no (fun h => by have := h.n1; omega) _ (.ext _ _)
  simp (config := { maxSteps := 1000000 }) only[go_sem, l1, c1, c2, c3, c4, aJ, aa]
  refine W.draw 11 [0, 0, 2, 6, 14, 0, 32, 96, 224, 511, 0] Tryd.mixed (by kernel_rfl) (by kernel_rfl) ?_
  simp (config := { maxSteps := 1000000 }) only[go_sem, l1, aa]
  repeat (refine And.intro (by first | omega | (simp; done) | (simp; omega) | (intros; omega) | exact⟨rfl, by omega, by omega, kL _⟩) ?_)
  obtain⟨Hb, hHb⟩:∃ Hb, Hb = ext (ext H [.arr 0 61 [.lit (.int .i64 g), .vec ns.length (aK ns)], .arr 0 153 [.lit (.int .i64 0), .lit (.slice none 0 0), .lit (.slice none 0 0), .lit (.slice none 0 0), .lit (.slice none 0 0)], .arr 0 3 (List.replicate ns.length (.lit (.int .i64 0))), .arr 0 100 (List.replicate ns.length (.lit (.int .u64 0)))]) [.arr 0 153 [.lit (.int .i64 g), .vec ns.length (aK ns), .own (H.next + 2) 0 0 ns.length 1, .own (H.next + 3) 0 0 ns.length 1, .lit (.slice none 0 0)]] := ⟨_, rfl⟩
  rw[<- hHb]
  have R0:RdS g ns H Hb (List.replicate ns.length 0) (List.replicate ns.length 0) := by
    rw[hHb, Ji]
    exact⟨by simp [dk], .ext _ _, ez .., bP H _ 1 (by simp), by rw[bP H _ 2 (by simp)]; simp [ints, ab], by rw[bP H _ 3 (by simp)]; simp [bq], bP H _ 4 (by simp), by simp, by simp⟩
  have hcard:∀ {k:Nat}, (∀ x ∈ ns.take k, 1 <= x.card /\ x.card <= 4) -> eX ((aA ns).take k) := fun {k} h => xQ (by simp [aA]; omega) fun c hc => by
    rw[show (aA ns).take k = aA (ns.take k) by simp [aA]]at hc
    obtain⟨y, hy, rfl⟩ := Q6.1 hc
    exact h y hy
  refine W.aR 37778930737057254867176 (by rfl) (fun ρ H' => ∃ (k:Nat) (c:List Int), ρ 50 = ab k /\ k <= ns.length /\ ρ 5 = ab (aQ ((aA ns).take k)) /\ RdS g ns H H' c (List.replicate ns.length 0) /\ Hb.next <= H'.next /\ c.take k = (aA ns).take k /\ ∀ x ∈ ns.take k, 1 <= x.card /\ x.card <= 4) (fun ρ H => ns.length - (iv (ρ 50)).toNat) ?_ ?_
  · simp (config := { maxSteps := 1000000 }) only[go_sem, aa]
    exact⟨0, _, rfl, by omega, by simp [kf], R0, by simp⟩
  rintro ρ H' ⟨k, c, h50, hk, h5, R, hn, hc, hall⟩
  refine W.vs ?_
  have q0 := R.l0
  have q1 := R.l1
  have q2 := R.l2
  have q4 := R.l4
  have rn := R.nx
  by_cases hb:(k:Int) < ns.length
  · obtain⟨x, hx⟩ := get_of_lt (l := ns) (i := k) (by omega)
    have hxm := an hx
    have hne := jv hx
    have e0 := oo hx
    have e1:k * 3 + 3 <= (aK ns).length := by rw[iy]; omega
    have R2 := R.over (.ext H' [.arr 0 91 [.lit (.int .i64 x.card), .vec x.parents.length (ints x.parents), aD x.rows]])
    have p1 := R2.l1
    have p2 := R2.l2
    have p4 := R2.l4
    have nb1:¬ H.next + 1 = H'.next := by omega
    have nb2:¬ H.next + 2 = H'.next := by omega
    have nb4:¬ H.next + 4 = H'.next := by omega
    by_cases d1:x.card < 1
    · simp (config := { maxSteps := 1000000 }) only[go_sem, h50, q4, p1, hb, hne, e0, e1, d1, aJ, aa]
      exact no (fun h => by have := (h.node x hxm).1; omega) _ (R2.ov.upd (by omega) _)
    by_cases d2:x.card > 4
    · simp (config := { maxSteps := 1000000 }) only[go_sem, h50, q4, p1, hb, hne, e0, e1, d1, d2, aJ, aa]
      exact no (fun h => by have := (h.node x hxm).1; omega) _ (R2.ov.upd (by omega) _)
    have hall':∀ y ∈ ns.take (k + 1), 1 <= y.card /\ y.card <= 4 := fun y hy => by
      rw[aU hx]at hy
      rcases Q1.1 hy with hy | hy
      · exact hall y hy
      · obtain rfl := List.mem_singleton.1 hy; exact⟨by omega, by omega⟩
    have b2 := (hcard hall').prod
    rw[aU (da hx), iz]at b2
    have w1 := QL ((k:Int) + 1) (by omega)
    have w2 := QL (aQ ((aA ns).take k) * x.card) (by omega)
    have hkc:k < c.length := by rw[R.cl]; omega
    have p0:∀ b, ((ext H' [.arr 0 91 [.lit (.int .i64 x.card), .vec x.parents.length (ints x.parents), aD x.rows]]).upd (H.next + 2) b).live H'.next 0 = some (91, [.lit (.int .i64 x.card), .vec x.parents.length (ints x.parents), aD x.rows]) := fun b => by
      rw[mG (by omega)]; exact aq cQ
    simp (config := { maxSteps := 1000000 }) only[go_sem, h50, h5, q4, p1, p2, p4, p0, hb, hne, e0, e1, d1, d2, w1, w2, aJ, aa]
    exact⟨by omega, by rw[aV, dk]; omega, ⟨k + 1, _, by simp, by omega, by rw[aU (da hx), iz], R2.P5 hkc x.card, by rw[aV, dk]; omega, C3 hc hkc (da hx), fun y hy => hall' y hy⟩, by omega⟩
  have ek:k = ns.length := by omega
  subst ek
  rw[QP (Nat.le_refl _)]at hall
  rw[QP (by rw[dE]; omega)]at h5
  have ec:c = aA ns := by
    rw[QP (by rw[R.cl]; omega), QP (by rw[dE]; omega)]at hc
    exact hc
  subst ec
  by_cases c5:aQ (aA ns) > 1024
  · simp (config := { maxSteps := 1000000 }) only[go_sem, h50, h5, q1, hb, c5, aJ, aa]
    exact no (fun h => by have := h.size; omega) _ (R.ov.upd (by omega) _)
  simp (config := { maxSteps := 1000000 }) only[go_sem, h50, h5, q4, hb, c5, aJ, aa]
  refine W.aR 340282366920933627760096148915069392648 (by rfl) (fun ρ' H2 => ∃ (k:Nat) (s:List Nat), ρ' 82 = ab k /\ k <= ns.length /\ RdS g ns H H2 (aA ns) s /\ H'.next <= H2.next /\ s.take k = (aW ns).take k /\ (∀ j, k <= j -> s.getD j 0 = 0) /\ ∀ x ∈ ns.take k, cD x.parents ns.length /\ fK g ns x) (fun ρ' H => ns.length - (iv (ρ' 82)).toNat) ?_ ?_
  · simp (config := { maxSteps := 1000000 }) only[go_sem, aa]
    refine⟨0, _, rfl, by omega, R, rfl, fun j _ => ?_, by simp⟩
    rw[QM, SR]; split <;> rfl
  rintro ρ' H2 ⟨k, s, h82, hk2, R2, hn2, hs, hs0, hall2⟩
  refine W.vs ?_
  have r2 := R2.nx
  have q4 := R2.l4
  by_cases hb2:(k:Int) < ns.length
  rotate_left
  · have es : s = aW ns := by
      rw[QP (by rw[R2.sl]; omega), QP (by simp [aW]; omega)]at hs
      exact hs
    subst es
    rw[QP (by omega)]at hall2
    have hlt:∀ p ∈ aW ns, p < 2 ^ ns.length := CS fun x hx q hq => (hall2 x hx).1.2 q hq
    have hsl:(aW ns).length = ns.length := by simp [aW]
    have hlt64:∀ p ∈ aW ns, p < 2 ^ 64 := fun p hp => QU (hlt p hp) (Rb (by decide) (by omega))
    have hto := OI (ps := aW ns) (by rw[hsl]; exact hlt) (by omega)
    simp (config := { maxSteps := 1000000 }) only[go_sem, h82, q4, hb2, aa]
    have fzs := Fz.xS (nx := 0) R2.b3 (n := ns.length) (by simp [R2.sl]) (fun c hc => by
      obtain⟨z, _, rfl⟩ := Q6.1 hc
      exact⟨_, rfl⟩)
    refine aG.clo (P4 (aW ns) (by omega) hlt64 _ _ (by show Fz _ _ _ _ (.vec (aW ns).length _); rw[hsl]; exact fzs) _ ⟨trivial, ?_⟩)
    have q1 := R2.l1
    cases hso:(eM (aW ns)).isSome
    · simp (config := { maxSteps := 1000000 }) only[go_sem, q1, aa]
      exact no (fun h => by rw[hto.2 h.acyc]at hso; cases hso) _ (R2.ov.upd (by omega) _)
    have hok:NetOk g ns := ⟨by omega, by omega, fun x hx => ⟨hall x hx, (hall2 x hx).1⟩, by omega, hto.1 hso, fun x hx => (hall2 x hx).2⟩
    rw[qu hok]at hK
    have q1b:∀ b, (H2.upd (H.next + 4) b).live (H.next + 1) 0 = _ := fun b => (mG (by omega)).trans q1
    simp (config := { maxSteps := 1000000 }) only[go_sem, q1b, q4, aa]
    have ovf:Over H ((H2.upd (H.next + 4) (.arr 0 153 [.lit (.int .i64 g), .vec ns.length (aK ns), .own (H.next + 2) 0 0 ns.length 1, .own (H.next + 3) 0 0 ns.length 1, .vec (dh ((eM (aW ns)).getD [])).length (ints (dh ((eM (aW ns)).getD [])))])).upd (H.next + 1) (.arr 0 153 [.lit (.int .i64 g), .vec ns.length (aK ns), .own (H.next + 2) 0 0 ns.length 1, .own (H.next + 3) 0 0 ns.length 1, .vec (dh ((eM (aW ns)).getD [])).length (ints (dh ((eM (aW ns)).getD [])))])) := (R2.ov.upd (by omega) _).upd (by omega) _
    refine az.cC (v' := .tup [xU g ns, ab 0]) bz hcl ovf (.tup rfl fun i hi _ => ?_) hK
    match i, hi with
    | 1, _ => exact .lit _
    | 0, _ =>
      refine .agg rfl fun i hi _ => ?_
      match i, hi with
      | 0, _ => exact .lit _
      | 1, _ => exact CX _
      | 2, _ =>
        have hg2:∀ b b', ((H2.upd (H.next + 4) b).upd (H.next + 1) b').get (H.next + 2) = some (.arr 0 3 (ints (aA ns))) := fun b b' => by rw[ao, QQ (by omega), ao, QQ (by omega)]; exact R2.b2
        show Fz _ _ _ (.own (H.next + 2) 0 0 ns.length 1) (.vec (aA ns).length (ints (aA ns)))
        rw[<- dE ns]
        exact .ints (by show H.next <= _; omega) (hg2 _ _) (by simp) fun i hi => by simp [fC, hi]
      | 3, _ =>
        have hg3:∀ b b', ((H2.upd (H.next + 4) b).upd (H.next + 1) b').get (H.next + 3) = some (.arr 0 100 ((aW ns).map bq)) := fun b b' => by rw[ao, QQ (by omega), ao, QQ (by omega)]; exact R2.b3
        show Fz _ _ _ (.own (H.next + 3) 0 0 ns.length 1) (.vec (aW ns).length ((aW ns).map bq))
        rw[<- hsl]
        refine .frz (by show H.next <= _; omega) (hg3 _ _) (by simp) fun j hj h2 h' => ?_
        simp only[Nat.zero_add, QY]
        exact .lit _
      | 4, _ => exact .ik _
  obtain⟨x, hx⟩ := get_of_lt (l := ns) (i := k) (by omega)
  have hxm := an hx
  have hne := jv hx
  have e0 := oo hx
  have e1:k * 3 + 3 <= (aK ns).length := by rw[iy]; omega
  obtain⟨f1, f2, f3⟩ := hf.2 x hxm
  simp (config := { maxSteps := 1000000 }) only[go_sem, h82, q4, hb2, hne, e0, e1, aa]
  obtain⟨H3, hH3⟩:∃ H3, H3 = ext H2 [.arr 0 91 [.lit (.int .i64 x.card), .vec x.parents.length (ints x.parents), aD x.rows]] := ⟨_, rfl⟩
  have R3:RdS g ns H H3 (aA ns) s := by rw[hH3]; exact R2.over (.ext _ _)
  have nn:H3.next = H2.next + 1 := by rw[hH3]; rfl
  have gN:H3.get H2.next = some (.arr 0 91 [.lit (.int .i64 x.card), .vec x.parents.length (ints x.parents), aD x.rows]) := by rw[hH3]; exact cQ
  rw[<- hH3]
  have hks:k < s.length := by rw[R2.sl]; omega
  have s0:s.set k 0 = s := by
    apply Q9
    intro i
    rw[Rg]
    split
    · rename_i h
      subst h
      have := hs0 k (Nat.le_refl _)
      rw[QM, QK hks]at this
      simp only[Option.getD_some]at this
      rw[QK hks, this]
    · rfl
  refine W.aR 5316911981901723452329847966222259208 (by rfl) (fun ρ2 H4 => ∃ (j:Nat) (b:Int), ρ2 90 = ab j /\ j <= x.parents.length /\ ρ2 10 = ab b /\ cD (x.parents.take j) ns.length /\ (x.parents.take j).getLast?.getD (-1) = b /\ RdS g ns H H4 (aA ns) (s.set k (bV (x.parents.take j))) /\ H3.next <= H4.next /\ H4.get H2.next = some (.arr 0 91 [.lit (.int .i64 x.card), .vec x.parents.length (ints x.parents), aD x.rows]) /\ ¬ (k:Int) ∈ x.parents.take j)
    (fun ρ2 H => x.parents.length - (iv (ρ2 90)).toNat) ?_ ?_
  · simp (config := { maxSteps := 1000000 }) only[go_sem, aa]
    exact⟨0, -1, rfl, by omega, rfl, .nil, rfl, by rw[show bV (x.parents.take 0) = 0 from rfl, s0]; exact R3, gN, by simp⟩
  rintro ρ2 H4 ⟨j, b, h90, hj, h10, hp, hbl, R4, hn4, gN4, hself⟩
  refine W.vs ?_
  have r4 := R4.nx
  have t1 := R4.l1
  have t3 := R4.l3
  have t4 := R4.l4
  have tN := aq gN4
  by_cases hb3:(j:Int) < x.parents.length
  · obtain⟨a, ha⟩ := get_of_lt (l := x.parents) (i := j) (by omega)
    have ham := an ha
    have hane := aM ha
    by_cases d1:a <= b
    · simp (config := { maxSteps := 1000000 }) only[go_sem, h90, h10, hb3, ha, hane, d1, t1, t4, aJ, aa]
      refine no (fun h => ?_) _ (R4.ov.upd (by omega) _)
      have hpl := (h.node x hxm).2
      have h0 := hpl.2 a ham
      rcases Sf j with rfl | hk0
      · simp at hbl; omega
      · obtain⟨i, rfl⟩:∃ i, j = i + 1 := ⟨j - 1, by omega⟩
        obtain⟨b', hbj⟩ := get_of_lt (l := x.parents) (i := i) (by omega)
        rw[xO hbj]at hbl
        have := hpl.lt hbj ha (by omega)
        simp at hbl; omega
    by_cases d2:a >= ns.length
    · simp (config := { maxSteps := 1000000 }) only[go_sem, h90, h10, hb3, ha, hane, d1, d2, t1, t4, aJ, aa]
      exact no (fun h => by have := (h.node x hxm).2.2 a ham; omega) _ (R4.ov.upd (by omega) _)
    have h0:0 <= a := by
      rcases hg:(x.parents.take j).getLast? with _ | b'
      · rw[hg]at hbl; simp at hbl; omega
      · rw[hg]at hbl
        have := hp.2 b' (List.mem_of_getLast? hg)
        simp at hbl; omega
    by_cases d3:a = k
    · have d1':¬ (k:Int) <= b := by omega
      have d2':¬ (k:Int) >= ns.length := by omega
      simp (config := { maxSteps := 1000000 }) only[go_sem, h90, h10, h82, hb3, ha, hane, d1, d2, d1', d2', d3, t1, t4, aJ, aa]
      exact no (fun h => P8 hx (fun q hq => ((h.node x hxm).2.2 q hq).1) (by rw[<- d3]; exact ham) h.acyc) _ (R4.ov.upd (id := H.next + 1) (by omega) _)
    obtain⟨u, rfl⟩ := Rf h0
    have w1 := QL ((j:Int) + 1) (by omega)
    have bm:bV (x.parents.take j) < 2 ^ 64 := xk fun p hp' => by have := hp.2 p hp'; omega
    have v1 := fun t x y => oJ (P := Tryd.prog) (t := t) (x := x) (y := y) (k' := .i64) (s := u) (by omega)
    have v2 := fun t x y => oI (P := Tryd.prog) (t := t) (x := x) (y := y) (b := 2 ^ u) bm (Sm (by decide) (by omega))
    have gs:(s.set k (bV (x.parents.take j)))[k]? = some (bV (x.parents.take j)) := Rj hks
    simp (config := { maxSteps := 1000000 }) only[go_sem, h90, h10, h82, hb3, ha, hane, d1, d2, d3, t1, t4, aJ, aa]
    refine W.draw 7 [0, 1, 0, 7, 15, 0, 32] Tryd.mixed (by kernel_rfl) (by kernel_rfl) ?_
    simp (config := { maxSteps := 1000000 }) only[go_sem, h90, h82, hb2, t3, t4, gs, v1, v2, w1, aa]
    repeat (refine And.intro (by first | omega | (simp; done) | (simp; omega) | (intros; omega) | exact⟨rfl, by omega, by omega, kL _⟩) ?_)
    have R5 := R4.P6 (k := k) (by simpa using hks) (bV (x.parents.take j) ||| 2 ^ u)
    rw[List.set_set]at R5
    have esn:bV (x.parents.take (j + 1)) = bV (x.parents.take j) ||| 2 ^ u := by rw[aU ha, Cc]; rfl
    refine⟨by rw[aV]; omega, ⟨j + 1, u, by simp, by omega, rfl, ?_, by rw[xO ha]; rfl, by rw[esn]; exact R5, by rw[aV]; omega, by rw[ao, QQ (by omega)]; exact gN4, fun hm => ?_⟩, by omega⟩
    · rw[aU ha]
      exact hp.snoc ⟨by omega, by omega⟩ fun b' hb' => by rw[hb']at hbl; simp at hbl; omega
    · rw[aU ha]at hm
      rcases Q1.1 hm with hm | hm
      · exact hself hm
      · exact d3 (List.mem_singleton.1 hm).symm
  · have hb3' := hb3
    rw[QP (by omega)]at hp hself R4
    simp (config := { maxSteps := 1000000 }) only[go_sem, h90, hb3, t4, tN, aa]
    have hin:fJ x.parents ns.length := fun q hq => by have := hp.2 q hq; omega
    refine aG.clo (P7 g ⟨by omega, by omega⟩ ns _ x hin (tM (by omega) hp hall) f2 f3 _ (H.next + 2) (H.next + 3) R4.b2 R4.b3 R4.sl _ ⟨trivial, ?_⟩)
    cases hnb:jD g ns x
    · simp (config := { maxSteps := 1000000 }) only[go_sem, t1, aa]
      exact no (fun h => by rw[CV (h.rows x hxm)]at hnb; cases hnb) _ (R4.ov.upd (by omega) _)
    have w1 := QL ((k:Int) + 1) (by omega)
    simp (config := { maxSteps := 1000000 }) only[go_sem, h82, w1, aa]
    refine⟨by omega, ⟨k + 1, _, by simp, by omega, R4, by omega, ?_, fun i hi => ?_, fun y hy => ?_⟩, by omega⟩
    · have h1 := lS hx
      rw[aU h1, aU (Rj hks), Ug (Nat.le_refl k), hs]
    · rw[QM, Rl (by omega), <- QM]
      exact hs0 i (by omega)
    · rw[aU hx]at hy
      rcases Q1.1 hy with hy | hy
      · exact hall2 y hy
      · obtain rfl := List.mem_singleton.1 hy; exact⟨hp, PY.1 hnb⟩
theorem Qa (g:Int)(ns:List NodeP)(hf:ku ns)(H:AHeap)(K:ARes -> AHeap -> Prop)(hK:K (.ret (ab (if fw g ns then 0 else 50))) H):ah Tryd.prog G0 66 [dp g ns] H K := by
  refine ah.clo ⟨_, Tryd.func66, rfl, rfl⟩ fun hcl => ?_
  refine ah.cu (n := 11) (rs := [.tmp 2]) Tryd.func66 rfl rfl rfl (by decide) (by kernel_rfl) (by simp) ?_
  simp (config := { maxSteps := 1000000 }) only[go_sem, dp, ep, aa]
  refine aG.clo (P9 g ns hf _ _ ⟨trivial, ?_⟩)
  cases hb:fw g ns
  · rw[hb]at hK
    simp (config := { maxSteps := 1000000 }) only[go_sem, xT, uP, List.length_nil, aa]
    exact az.cC bz hcl (.ext _ _) (.lit _) hK
  · rw[hb]at hK
    simp (config := { maxSteps := 1000000 }) only[go_sem, xU, ep, aa]
    exact az.cC bz hcl (.ext _ _) (.lit _) hK
def km (D v:Nat):List Nat := (List.range v).filter fun v => D.testBit v
def lK (D v:Nat):Nat := (km D v).length
def ko (d:InfP):List Nat := km d.decs d.nodes.length
theorem Ch (D v:Nat):km D (v + 1) = if D.testBit v then km D v ++ [v] else km D v := by
  unfold km; rw[Sr, List.filter_append]
  cases h:D.testBit v <;> simp [h]
theorem OJ {D v:Nat}:∀ {n:Nat}, v <= n -> ∃ r, km D n = km D v ++ r := by
  intro n
  induction n with
  | zero => intro h; obtain rfl : v = 0 := by omega
            exact⟨[], by simp⟩
  | succ n ih =>
    intro h
    by_cases hv:v = n + 1
    · subst hv; exact⟨[], by simp⟩
    · obtain⟨r, hr⟩ := ih (by omega)
      rw[Ch]
      split
      · exact⟨r ++ [n], by rw[hr, List.append_assoc]⟩
      · exact⟨r, hr⟩
theorem OK {D v n:Nat}(hv:v < n)(hb:D.testBit v = true):(km D n)[lK D v]? = some v := by
  obtain⟨r, hr⟩ := OJ (D := D) (v := v + 1) (n := n) hv
  rw[hr, Ch, QN hb, List.append_assoc]
  unfold lK
  simp
def ow (g card x:Int):List Int := (List.replicate card.toNat 0).set x.toNat g
def xw (ns:List NodeP)(x:NodeP):Nat := (aQ (aO ns x)).toNat
def mA (g:Int)(ns:List NodeP)(c:Nat -> Nat -> Int)(p:Nat)(x:NodeP):List (List Int) := (List.range (xw ns x)).map fun r => ow g x.card (c p r)
def jy (d:InfP)(c:Nat -> Nat -> Int)(k v:Nat)(x:NodeP):NodeP := if d.decs.testBit v = true /\ lK d.decs v < k then { x with rows := x.rows ++ mA d.grain d.nodes c (lK d.decs v) x } else x
def mB (d:InfP)(c:Nat -> Nat -> Int)(k:Nat):List NodeP := d.nodes.zipIdx.map fun p => jy d c k p.2 p.1
def kq (d:InfP)(c:Nat -> Nat -> Int):List NodeP := mB d c (ko d).length
theorem xx (d:InfP)(c:Nat -> Nat -> Int)(k:Nat):(mB d c k).length = d.nodes.length := by simp [mB]
theorem xy {d:InfP}{c:Nat -> Nat -> Int}{k v:Nat}{x:NodeP}(h:d.nodes[v]? = some x):(mB d c k)[v]? = some (jy d c k v x) := by
  unfold mB; rw[List.getElem?_map, Ts, h]; simp
theorem OL {d:InfP}{c:Nat -> Nat -> Int}{k:Nat}:aA (mB d c k) = aA d.nodes := by
  apply Q9
  intro v
  unfold aA
  rw[List.getElem?_map, List.getElem?_map]
  cases h:d.nodes[v]? with
  | none => rw[QR (by rw[xx]; exact SI.1 h)]
  | some x =>
    rw[xy h]
    simp only[Option.map_some, jy]
    split <;> rfl
theorem xz (d:InfP)(c:Nat -> Nat -> Int)(k v:Nat)(x:NodeP):(jy d c k v x).card = x.card /\ (jy d c k v x).parents = x.parents := by unfold jy; split <;> exact⟨rfl, rfl⟩
structure RightN (d:InfP):Prop where
  n1:1 <= d.nodes.length /\ d.nodes.length <= 8
  decs:d.decs >>> d.nodes.length = 0
  card:∀ x ∈ d.nodes, 1 <= x.card /\ x.card <= 4
  dec:∀ v x, d.nodes[v]? = some x -> d.decs.testBit v = true -> x.rows = [] /\ cD x.parents d.nodes.length
structure InfFit (d:InfP):Prop where
  nodes:ku d.nodes
  decs:d.decs < 2 ^ 64
  utils:(d.utils.length:Int) < 2 ^ 38 /\ ∀ u ∈ d.utils, (u.vars.length:Int) < 2 ^ 38 /\ (u.w.length:Int) < 2 ^ 38
end Go.Proofs
namespace Go.Hx
variable {P:Program} {G:Nat -> Option (List AVal)}
theorem Qo {S : Nat → Prop} {H : AHeap} {nx : Nat} {A B : List AVal} {o o' : AVal} (hA : ∀ v, v ∈ A → Fz S H nx v v) (ho : Fz S H nx o o') (hB : ∀ v, v ∈ B → Fz S H nx v v) :
    ∀ i (h:i < (A ++ o :: B).length) (h':i < (A ++ o' :: B).length), Fz S H nx (A ++ o :: B)[i] (A ++ o' :: B)[i] := by
  induction A with
  | nil =>
    intro i h h'
    cases i with
    | zero => exact ho
    | succ i => exact hB _ (Rz (l := B) (by simpa using h))
  | cons a A ih =>
    intro i h h'
    cases i with
    | zero => exact hA a (by simp)
    | succ i => exact ih (fun v hv => hA v (by simp [hv])) i (by simpa using h) (by simpa using h')
theorem W.tU {n:Nat}{rd:Option Nat}{Q Q':AX -> St -> Prop}{c:Code}{s:St}(h:W P G n rd c Q' s)(hw:∀ e s2, Q' e s2 -> ∃ s3, cH P G s2 s3 /\ s2.H.next <= s3.H.next /\ dc s3.H rd /\ Q e s3):W P G n rd c Q s := by
  intro wb Γ a w rb hs hr
  refine wpIn_mono (h wb Γ a w rb hs hr) fun e a' w' hp => ?_
  obtain⟨x, s', Γ', hx, hq, hrel, E, hn, hrd, hfr⟩ := hp
  obtain⟨s3, hw3, hn3, hri, hq3⟩ := hw x s' hq
  obtain⟨Γ3, hs3, E3, hrd3⟩ := hw3 n wb Γ' a' w' hrel
  exact⟨x, s3, Γ3, hx, hq3, hs3, E.trans hn E3, Ry hn hn3, hrd3 rd rb hrd hri, hfr⟩
theorem aF.ne {lo:Nat}{H:AHeap}{e:TypeId}{v:AVal}{cs:List AVal}(h:aF lo H e v cs){k:Nat}(hk:k < lo):∀ g n, v ≠ .own k g 0 n 1 := fun g n he => by
  rcases h with ⟨h, _⟩ | ⟨i2, g2, a1, _, h, _⟩
  · rw[h]at he; cases he
  · rw[h]at he; have := AVal.own.inj he; omega
def dK (lo:Nat)(H:AHeap)(e:TypeId)(z:Nat)(v:AVal)(n:Nat)(cs:List AVal):Prop :=
  (v = .lit (.slice none 0 0) /\ n = 0 /\ cs = []) \/ ∃ id g, lo <= id /\ id < H.next /\ v = .own id g 0 n z /\ cs.length = n * z /\ H.get id = some (.arr g e cs)
theorem dK.nil {lo:Nat}{H:AHeap}{e:TypeId}{z:Nat}:dK lo H e z (.lit (.slice none 0 0)) 0 [] := .inl ⟨rfl, rfl, rfl⟩
theorem dK.keep {lo:Nat}{H H':AHeap}{e:TypeId}{z n:Nat}{v:AVal}{cs:List AVal}(h:dK lo H e z v n cs)(hn:H.next <= H'.next)(hk:∀ id g, lo <= id -> id < H.next -> v = .own id g 0 n z -> H'.get id = H.get id):dK lo H' e z v n cs := by
  rcases h with h | ⟨id, g, h1, h2, h3, h4, h5⟩
  · exact .inl h
  · exact .inr ⟨id, g, h1, by omega, h3, h4, (hk id g h1 h2 h3).trans h5⟩
theorem dK.over {lo:Nat}{H H':AHeap}{e:TypeId}{z n:Nat}{v:AVal}{cs:List AVal}(h:dK lo H e z v n cs)(ho:Over H H'):dK lo H' e z v n cs := h.keep ho.next fun id _ _ h2 _ => ho.old id h2
theorem dK.one {lo:Nat}{H:AHeap}{e:TypeId}{z n:Nat}{v:AVal}{cs:List AVal}(h:dK lo H e z v n cs):v.one = true := by
  rcases h with ⟨rfl, _⟩ | ⟨_, _, _, _, rfl, _⟩ <;> rfl
theorem dK.cells {lo:Nat}{H:AHeap}{e:TypeId}{z n:Nat}{v:AVal}{cs:List AVal}(h:dK lo H e z v n cs):v.cells = [v] := by
  rcases h with ⟨rfl, _⟩ | ⟨_, _, _, _, rfl, _⟩ <;> rfl
theorem dK.ne {lo:Nat}{H:AHeap}{e:TypeId}{z m:Nat}{v:AVal}{cs:List AVal}(h:dK lo H e z v m cs){k:Nat}(hk:k < lo):∀ g n, v ≠ .own k g 0 n z := fun g n he => by
  rcases h with ⟨h, _⟩ | ⟨i2, g2, a1, _, h, _⟩
  · rw[h]at he; cases he
  · rw[h]at he; have := AVal.own.inj he; omega
theorem C5 {H : AHeap} {t e : TypeId} {lo n z m : Nat} {v : AVal} {cs xs : List AVal} {zs : List AVal} (ht : P.underlying t = some (.slice e)) (hz : P.cellsOf e = z) (hzero : bH P e = some zs) (hx : xs.all AVal.one = true) (hxl : xs.length = z)
    (hb:(n + 1) * P.bytesOf e <= 2 ^ 46 /\ n + 1 <= 2 ^ 46) (ho:dK lo H e z v n cs) (hlo:lo <= H.next) (hn:m = H.next + 1):
    ∃ v' H', bC P (ext H [.arr 0 e xs]) m t t v (.own H.next 0 0 1 z) = some (v', H') /\ dK lo H' e z v' (n + 1) (cs ++ xs) /\ H.next <= H'.next /\ (∀ k, k < H.next -> (∀ g n, v ≠ .own k g 0 n z) -> H'.get k = H.get k) := by
  have hne:(ext H [.arr 0 e xs]).next = H.next + 1 := rfl
  have hsrc:cr (ext H [.arr 0 e xs]) z (.own H.next 0 0 1 z) = some (1, xs) := by
    unfold cr
    have := aq (H := ext H [.arr 0 e xs]) (g := 0) (cQ (b := .arr 0 e xs))
    simp [this, <- hxl]
  rcases ho with ⟨rfl, rfl, rfl⟩ | ⟨i, g, h1, h2, rfl, h4, h5⟩
  · refine⟨.own m 0 0 1 z, ext (ext H [.arr 0 e xs]) [.arr 0 e xs], ?_, .inr ⟨m, 0, by omega, by rw[dk, hne, hn]; simp, by simp, by simp [hxl], ?_⟩, by rw[dk, hne]; omega, fun k hk _ => ?_⟩
    · unfold bC; rw[ht]
      simp only[hzero, hz, Option.bind_some]
      rw[hsrc]
      simp only[Option.bind_some]
      rw[QQ (by decide), QN (by simpa using hb), rF (by rw[hn, hne])]
      rfl
    · rw[hn, <- hne]; exact cQ
    · rw[im (by rw[hne]; omega), im hk]
  · have h5':(ext H [.arr 0 e xs]).get i = some (.arr g e cs) := by rw[im h2]; exact h5
    refine⟨.own i (g + 1) 0 (n + 1) z, (ext H [.arr 0 e xs]).upd i (.arr (g + 1) e (cs ++ xs)), ?_, .inr ⟨i, g + 1, h1, by rw[aV, hne]; omega, rfl, by simp [h4, hxl, RI], by rw[ao, QN rfl]⟩, by rw[aV, hne]; omega, fun k hk hne2 => ?_⟩
    · unfold bC; rw[ht]
      have hl := aq h5'
      simp only[hzero, hz, Option.bind_some]
      rw[hsrc]
      simp only[Option.bind_some, hl]
      rw[QN ⟨trivial, trivial, by omega, hb.1, hb.2, hx⟩]
      simp
    · rw[ao, QQ, im hk]
      rintro rfl; exact hne2 _ _ rfl
end Go.Hx
namespace Go.Proofs
open Go.Hx
def eW (x:NodeP):AVal := if x.rows = [] then .lit (.slice none 0 0) else aD x.rows
def NodeP.jc (x:NodeP):List AVal := [ab x.card, ag x.parents, eW x]
def dY (l:List NodeP):List AVal := (l.map NodeP.jc).flatten
theorem lL (l:List NodeP):(dY l).length = l.length * 3 := Ca (f := NodeP.jc) (fun _ => rfl) l
theorem ox {l:List NodeP}{i:Nat}{x:NodeP}(h:l[i]? = some x):(dY l)[i * 3]? = some (ab x.card) := mz (f := NodeP.jc) (z := 3) (fun _ => rfl) l i 0 x h (by omega)
theorem qh {l:List NodeP}{i:Nat}{x:NodeP}(h:l[i]? = some x):(dY l)[i * 3 + 1]? = some (ag x.parents) := mz (f := NodeP.jc) (z := 3) (fun _ => rfl) l i 1 x h (by omega)
theorem tF {l:List NodeP}{i:Nat}{x:NodeP}(h:l[i]? = some x):(dY l)[i * 3 + 2]? = some (eW x) := mz (f := NodeP.jc) (z := 3) (fun _ => rfl) l i 2 x h (by omega)
theorem xA (l:List NodeP)(x:NodeP):dY (l ++ [x]) = dY l ++ [ab x.card, ag x.parents, eW x] := by unfold dY; simp [NodeP.jc]
theorem Ci {x:NodeP}(h:x.rows ≠ []):eW x = aD x.rows := QQ h
theorem OM {l:List NodeP}{i:Nat}{x y:NodeP}(h:l[i]? = some x)(hy:y.card = x.card /\ y.parents = x.parents):dY (l.set i y) = setAt (dY l) (i * 3 + 2) [eW y] := by
  have hi := get_lt h
  have hl := lL l
  rw[xV (by omega)]
  apply Q9
  intro p
  rw[Rg]
  have hp:p = (p / 3) * 3 + p % 3 := by omega
  by_cases hb:p / 3 < l.length
  · by_cases hpi:p / 3 = i
    · have e0:(l.set i y)[p / 3]? = some y := by rw[hpi, Rj hi]
      have c3:p % 3 = 0 \/ p % 3 = 1 \/ p % 3 = 2 := by omega
      rcases c3 with c | c | c
      · rw[QQ (by omega), hp, c, Nat.add_zero, ox e0, ox (by rw[hpi]; exact h), hy.1]
      · rw[QQ (by omega), hp, c, qh e0, qh (by rw[hpi]; exact h), hy.2]
      · rw[QN (by omega), QN (by omega), hp, c, tF e0]
    · obtain⟨z, hz⟩ := get_of_lt hb
      have e0:(l.set i y)[p / 3]? = some z := by rw[Rl (by omega)]; exact hz
      have c3:p % 3 = 0 \/ p % 3 = 1 \/ p % 3 = 2 := by omega
      rcases c3 with c | c | c
      · rw[QQ (by omega), hp, c, Nat.add_zero, ox e0, ox hz]
      · rw[QQ (by omega), hp, c, qh e0, qh hz]
      · rw[QQ (by omega), hp, c, tF e0, tF hz]
  · rw[QR (by rw[lL, Q8]; omega), QQ (by omega), QR (by omega)]
theorem ON {S:Nat -> Prop}{H:AHeap}{nx:Nat}(x:NodeP):Fz S H nx (eW x) (eW x) := by
  unfold eW
  split
  · exact .lit _
  · exact .aD _
theorem OO {S:Nat -> Prop}{H:AHeap}{nx:Nat}(l:List NodeP):∀ c ∈ dY l, Fz S H nx c c := by
  intro c hc
  unfold dY at hc
  obtain⟨r, hr, hc⟩ := R8.1 hc
  obtain⟨x, _, rfl⟩ := Q6.1 hr
  unfold NodeP.jc at hc
  simp only[List.mem_cons, List.not_mem_nil, or_false]at hc
  rcases hc with rfl | rfl | rfl
  · exact .lit _
  · exact .ik _
  · exact ON x
structure NodesQ (e:Nat -> Prop)(ns:List NodeP)(cs:List AVal):Prop where
  len:cs.length = ns.length * 3
  node:∀ (v:Nat) (x:NodeP), ns[v]? = some x -> ∃ rv, cs[v * 3]? = some (ab x.card) /\ cs[v * 3 + 1]? = some (ag x.parents) /\ cs[v * 3 + 2]? = some rv /\ (rv = aD x.rows \/ rv = eW x) /\ (e v -> rv = eW x)
theorem NodesQ.c0 {e:Nat -> Prop}{ns:List NodeP}{cs:List AVal}(h:NodesQ e ns cs){v:Nat}{x:NodeP}(hx:ns[v]? = some x):cs[v * 3]? = some (ab x.card) := (h.node v x hx).elim fun _ h => h.1
theorem NodesQ.c1 {e:Nat -> Prop}{ns:List NodeP}{cs:List AVal}(h:NodesQ e ns cs){v:Nat}{x:NodeP}(hx:ns[v]? = some x):cs[v * 3 + 1]? = some (ag x.parents) := (h.node v x hx).elim fun _ h => h.2.1
theorem NodesQ.ne {e:Nat -> Prop}{ns:List NodeP}{cs:List AVal}(h:NodesQ e ns cs){v:Nat}{x:NodeP}(hx:ns[v]? = some x):¬ cs = [] := fun he => by
  have := h.c0 hx; rw[he]at this; simp at this
theorem NodesQ.part {e:Nat -> Prop}{ns:List NodeP}{cs:List AVal}(h:NodesQ e ns cs){v:Nat}{x:NodeP}(hx:ns[v]? = some x):∃ rv, (cs.drop (v * 3)).take 3 = [ab x.card, ag x.parents, rv] /\ cs[v * 3 + 2]? = some rv /\ (rv = aD x.rows \/ rv = eW x) /\ (e v -> rv = eW x) := by
  obtain⟨rv, a, b, c, d, f⟩ := h.node v x hx
  refine⟨rv, ?_, c, d, f⟩
  have h3 := get_lt c
  rw[Rv (by omega), Rv (by omega), Rv (by omega)]
  simp only[List.take_succ_cons, List.take_zero]
  rw[QK (by omega)]at a b c
  rw[Option.some.inj a, Option.some.inj b, Option.some.inj c]
theorem NodesQ.nil {e:Nat -> Prop}:NodesQ e [] [] := ⟨rfl, fun v x hx => by simp at hx⟩
theorem NodesQ.mono {e e':Nat -> Prop}{ns:List NodeP}{cs:List AVal}(h:NodesQ e ns cs)(he:∀ v, e' v -> e v):NodesQ e' ns cs := ⟨h.len, fun v x hx => by
  obtain⟨r, a, b, c, d, f⟩ := h.node v x hx
  exact⟨r, a, b, c, d, fun h => f (he v h)⟩⟩
theorem tK {α:Type}{l:List α}{i:Nat}{x:α}(h:l[i]? = some x):l.set i x = l := by
  apply Q9
  intro j
  rw[Rg]
  split
  · rename_i hj; subst hj; rw[QN (get_lt h), h]
  · rfl
structure UtilOk (ns:List NodeP)(u:UtilP):Prop where
  vars:cD u.vars ns.length
  size:(u.w.length:Int) = aQ (aI (aA ns) u.vars)
  w:∀ x ∈ u.w, -100 <= x /\ x <= 100
def PE (d:InfP):Prop := d.utils.length <= 4 /\ ∀ u ∈ d.utils, UtilOk d.nodes u
structure InfOk (d:InfP):Prop where
  n:RightN d
  net:NetOk d.grain (kq d fun _ _ => 0)
  utils:PE d
theorem PF (g card x:Int):(ow g card x).length = card.toNat := by simp [ow]
theorem CN {d:InfP}{c:Nat -> Nat -> Int}{y:NodeP}(h:y ∈ kq d c):∃ v x, d.nodes[v]? = some x /\ y = jy d c (ko d).length v x := by
  obtain⟨v, hv⟩ := Q4.1 h
  have hl := get_lt hv
  rw[show (kq d c).length = d.nodes.length from xx _ _ _]at hl
  obtain⟨x, hx⟩ := get_of_lt hl
  have := xy (c := c) (k := (ko d).length) hx
  rw[show mB d c (ko d).length = kq d c from rfl, hv]at this
  exact⟨v, x, hx, Option.some.inj this⟩
structure PolOk (d:InfP)(p:List (List Int)):Prop where
  len:p.length = (ko d).length
  row:∀ (k v:Nat) (x:NodeP) (l:List Int), (ko d)[k]? = some v -> d.nodes[v]? = some x -> p[k]? = some l -> l.length = xw d.nodes x /\ ∀ a ∈ l, 0 <= a /\ a < x.card
end Go.Proofs
namespace Go.Hx
variable {P:Program} {G:Nat -> Option (List AVal)} {n:Nat} {rd:Option Nat} {Q:AX -> St -> Prop}
def C6 (N:Nat)(H1 H2:AHeap):Prop := H1.next <= H2.next /\ ∀ id, id ≠ N -> id < H1.next -> H2.get id = H1.get id
def C7 (P:Program)(G:Nat -> Option (List AVal))(f:FuncId)(first cap:List AVal)(xs:List (List AVal))(N:Nat)(S0:AHeap -> Prop)(S:Nat -> AHeap -> Prop):Prop :=
  ∀ (idy:Nat) (J:Nat -> AHeap -> Prop) (Stop:AHeap -> Prop) (H:AHeap) (K:ARes -> AHeap -> Prop), H.next = N ->
    (∀ k H1, J k H1 -> S0 H1) -> (∀ k H1 H2, J k H1 -> C6 N H1 H2 -> J k H2) -> J 0 H ->
    (∀ k x H1 K1, xs[k]? = some x -> J k H1 -> S k H1 -> N < H1.next -> (∀ H', J (k + 1) H' -> S k H' -> H1.next <= H'.next -> K1 (.ret (.lit (.bool true))) H') -> (∀ H', Stop H' -> H1.next <= H'.next -> K1 (.ret (.lit (.bool false))) H') -> aG P G (.yld idy) x H1 K1) ->
    (∀ H', J xs.length H' -> N <= H'.next -> K (.ret (.tup [])) H') ->
    (∀ H', Stop H' -> N <= H'.next -> K (.ret (.tup [])) H') ->
    ah P G f (first ++ [.yld idy] ++ cap) H K
theorem W.Qp {g : Operand} {ps : Array Tmp} {asg body : Code} {ρ : Env} {H : AHeap} {f : FuncId} {first cap : List AVal} {xs : List (List AVal)} {S0 : AHeap → Prop} {S : Nat → AHeap → Prop} (hg : af G ρ g = .clo f first cap)
    (hit:C7 P G f first cap xs (H.next + 1) S0 S) (J:Nat -> AHeap -> Prop) (Stop:AX -> AHeap -> Prop) (hS:∀ k H1, J k H1 -> S0 H1) (hJw:∀ k H1 H2, J k H1 -> C6 (H.next + 1) H1 H2 -> J k H2) (hlow:∀ k H1, J k H1 -> H.next < H1.next)
    (hJu:∀ k H1 b, J k H1 -> J k (H1.upd H.next b)) (hSu:∀ c H1 b, Stop c H1 -> Stop c (H1.upd H.next b)) (hSk:∀ k H1 b, S k H1 -> S k (H1.upd H.next b))
    (hJ0:∀ b, J 0 (ext H [b])) (hps:ps.toList.all (fun t => decide (t < n)) = true) (hxl:∀ x ∈ xs, x.length = ps.size)
    (hrd:∀ k H1, J k H1 -> dc H1 rd) (hrd2:∀ c H1, Stop c H1 -> dc H1 rd)
    (hround:∀ k x H1 B Bb, xs[k]? = some x -> J k H1 -> S k H1 -> H.next + 1 < H1.next -> H1.get H.next = some B -> (∃ st pd n' en ps' as' bo, Bb = Blk.loop st pd n' en ps' as' bo) ->
      W P G n (some H.next) asg (tT P G n H.next B Bb H1.next body (fun H' => J (k + 1) H' /\ S k H') Stop) ⟨kM (dz ρ n) (ps.toList.zip x), H1⟩)
    (hend:∀ H', J xs.length H' -> H.next + 1 <= H'.next -> Q .normal ⟨ρ, H'⟩)
    (hret:∀ H', Stop .ret H' -> H.next + 1 <= H'.next -> Q .ret ⟨ρ, H'⟩) (hexit:∀ i H', Stop (.exit i) H' -> H.next + 1 <= H'.next -> Q (.exit i) ⟨ρ, H'⟩):
    W P G n rd (.rangeFunc g ps asg body) Q ⟨ρ, H⟩ := by
  refine W.rangeFunc (s := ⟨ρ, H⟩) hg ⟨_, rj _ _, ?_⟩
  obtain⟨B, hB⟩:∃ B, B = Blk.loop .ready none n ρ ps asg body := ⟨_, rfl⟩
  obtain⟨Bb, hBb⟩:∃ B, B = Blk.loop .busy none n ρ ps asg body := ⟨_, rfl⟩
  have nx:(ext H [B]).next = H.next + 1 := rfl
  show ah P G f (first ++ [.yld H.next] ++ cap) (ext H [Blk.loop .ready none n ρ ps asg body]) (rA rd Q ρ H.next)
  rw[<- hB]
  refine hit H.next (fun k H1 => H1.get H.next = some B /\ J k H1) (fun H1 => ∃ c pend, H1.get H.next = some (.loop .done (some pend) n ρ ps asg body) /\ Stop c H1 /\ ((c = .ret /\ pend = .ret) \/ ∃ i, c = .exit i /\ pend = .exit i)) _ _ nx
    (fun k H1 h => hS k H1 h.2) (fun k H1 H2 h hw => ⟨(hw.2 _ (by omega) (hlow _ _ h.2)).trans h.1, hJw _ _ _ h.2 hw⟩) ⟨cQ, hJ0 B⟩ (fun k x H1 K1 hx hj hs hn hgo hst => ?_) (fun H' hj hn => ?_) (fun H' hj hn => ?_)
  · have hxm := hxl x (an hx)
    refine aG.yld (hj.1.trans (congrArg some hB)) hxm hps ?_
    refine(hround k x H1 B Bb hx hj.2 hs hn hj.1 ⟨_, _, _, _, _, _, _, hBb⟩).mono fun e s1 h1 => ?_
    cases e with
    | normal =>
      obtain⟨a1, a2⟩ := h1
      refine⟨Bb, by rw[a1, hB, hBb]; rfl, ?_⟩
      refine a2.mono fun e2 s2 h2 => ?_
      cases e2 with
      | normal =>
        obtain⟨b1, b2, b3, b4⟩ := h2
        exact⟨B, by rw[b1, hB, hBb]; rfl, hgo _ ⟨by rw[ao, QN rfl], hJu _ _ _ b3⟩ (hSk _ _ _ b4) b2⟩
      | ret =>
        obtain⟨b1, b2, b3⟩ := h2
        exact⟨.loop .done (some .ret) n ρ ps asg body, by rw[b1, hBb]; rfl, hst _ ⟨.ret, .ret, by rw[ao, QN rfl], hSu _ _ _ b3, .inl ⟨rfl, rfl⟩⟩ b2⟩
      | exit i =>
        obtain⟨b1, b2, b3⟩ := h2
        exact⟨.loop .done (some (.exit i)) n ρ ps asg body, by rw[b1, hBb]; rfl, hst _ ⟨.exit i, .exit i, by rw[ao, QN rfl], hSu _ _ _ b3, .inr ⟨i, rfl, rfl⟩⟩ b2⟩
      | _ => exact h2.elim
    | _ => exact h1.elim
  · refine⟨hrd _ _ hj.2, (none, .loop .exhausted none n ρ ps asg body), by rw[hj.1, hB]; rfl, ?_⟩
    exact hend _ (hJu _ _ _ hj.2) hn
  · obtain⟨c, pend, h1, h2, h3⟩ := hj
    refine⟨hrd2 _ _ h2, (some pend, .loop .exhausted (some pend) n ρ ps asg body), by rw[h1]; rfl, ?_⟩
    rcases h3 with ⟨rfl, rfl⟩ | ⟨i, rfl, rfl⟩
    · exact hret _ (hSu _ _ _ h2) hn
    · exact hexit i _ (hSu _ _ _ h2) hn
end Go.Hx
namespace Go.Proofs
open Go.Hx
def oy (ns:List NodeP)(x:NodeP)(vals:List Int):List Int := x.rows.getD (dD (aO ns x) (aI vals x.parents)).toNat []
def cA (ns:List NodeP)(vals:List Int)(v:Nat):Int := match ns[v]? with
  | some x => (oy ns x vals).getD (vals.getD v 0).toNat 0
  | none => 1
def df (ns:List NodeP)(vals:List Int):List Int := (List.range ns.length).map (cA ns vals)
def weight (ns:List NodeP)(vals:List Int):Int := aQ (df ns vals)
def QH (ns:List NodeP):Nat := (aQ (aA ns)).toNat
theorem oz (ns:List NodeP)(vals:List Int):(df ns vals).length = ns.length := by simp [df]
theorem mC {ns:List NodeP}{vals:List Int}{v:Nat}(h:v < ns.length):(df ns vals)[v]? = some (cA ns vals v) := by
  unfold df; rw[List.getElem?_map, RO h]; rfl
theorem xN {ns:List NodeP}{x:NodeP}{vals:List Int}(hin:fJ x.parents ns.length)(hf:dq (aA ns) vals):dq (aO ns x) (aI vals x.parents) := by
  refine⟨by unfold aO; rw[fq, fq], fun k c v h1 h2 => ?_⟩
  obtain⟨q, hq⟩ := get_of_lt (l := x.parents) (i := k) (by have := get_lt h2; rw[fq]at this; exact this)
  obtain⟨j, rfl, y, hy⟩ := lG (l := ns) (hin q (an hq)).1 (hin q (an hq)).2
  obtain⟨b, hb⟩ := get_of_lt (l := vals) (i := j) (by rw[hf.1, dE]; exact get_lt hy)
  have e1:(aO ns x)[k]? = some y.card := by rw[show (aO ns x)[k]? = _ from lR hq, Int.toNat_natCast, aH (da hy)]
  have e2:(aI vals x.parents)[k]? = some b := by rw[lR hq, Int.toNat_natCast, aH hb]
  rw[h1]at e1; rw[h2]at e2
  cases e1; cases e2
  exact hf.2 j y.card _ (da hy) hb
structure RowAtW (g:Int)(ns:List NodeP)(x:NodeP)(vals:List Int)(v:Nat)(i:Nat)(r:List Int)(a w:Int):Prop where
  idx:dD (aO ns x) (aI vals x.parents) = i
  row:x.rows[i]? = some r
  val:vals[v]? = some a
  a0:0 <= a
  hw:r[a.toNat]? = some w
  wb:0 <= w /\ w <= g
  eq:cA ns vals v = w
  rv:oy ns x vals = r
  len:(r.length:Int) = x.card
  al:a < r.length
theorem PG {g:Int}{ns:List NodeP}(h:NetOk g ns){v:Nat}{x:NodeP}(hx:ns[v]? = some x){vals:List Int}(hf:dq (aA ns) vals):∃ i r a w, RowAtW g ns x vals v i r a w := by
  have hxm := an hx
  have hin:fJ x.parents ns.length := fun q hq => by have := (h.node x hxm).2.2 q hq; omega
  have hr := ot (xN hin hf)
  obtain⟨r1, r2⟩ := h.rows x hxm
  obtain⟨i, hi⟩ := Rf hr.1
  obtain⟨r, hrr⟩ := get_of_lt (l := x.rows) (i := i) (by rw[<- r1, hi]at hr; omega)
  obtain⟨s1, s2, s3⟩ := r2 r (an hrr)
  obtain⟨a, ha⟩ := get_of_lt (l := vals) (i := v) (by rw[hf.1, dE]; exact get_lt hx)
  have hb := hf.2 v x.card a (da hx) ha
  obtain⟨w, hw⟩ := get_of_lt (l := r) (i := a.toNat) (by omega)
  have rv:oy ns x vals = r := by unfold oy; rw[hi, Int.toNat_natCast, aH hrr]
  exact⟨i, r, a, w, hi, hrr, ha, hb.1, hw, s2 w (an hw), by unfold cA; rw[hx]; simp only; rw[rv, aH ha, aH hw], rv, s1, by omega⟩
theorem Pv {g card a:Int}(hg:0 <= g)(ha:0 <= a /\ a < card):jC g card (ow g card a) := by
  refine⟨by rw[PF]; omega, fun w hw => ?_, ?_⟩
  · unfold ow at hw
    rcases Ru hw with h | h
    · have := Su h; omega
    · omega
  · unfold ow
    have key:∀ (n i:Nat), i < n -> ((List.replicate n (0:Int)).set i g).sum = g := by
      intro n
      induction n with
      | zero => intro i h; omega
      | succ n ih =>
        intro i h
        cases i with
        | zero => simp [Sw]
        | succ i => rw[Sw, List.set_cons_succ, RA, ih i (by omega)]; omega
    exact key _ _ (by omega)
theorem CM (d:InfP)(c:Nat -> Nat -> Int):aA (kq d c) = aA d.nodes := OL
theorem xM (d:InfP)(c:Nat -> Nat -> Int):(kq d c).length = d.nodes.length := xx _ _ _
theorem Pw {d:InfP}{c:Nat -> Nat -> Int}{v:Nat}{x:NodeP}(h:d.nodes[v]? = some x):(kq d c)[v]? = some (jy d c (ko d).length v x) := xy h
theorem Px (d:InfP)(c:Nat -> Nat -> Int)(x:NodeP):aO (kq d c) x = aO d.nodes x := by unfold aO; rw[CM]
theorem Py (d:InfP)(c:Nat -> Nat -> Int):aW (kq d c) = aW d.nodes := by
  apply Q9
  intro v
  unfold aW
  rw[List.getElem?_map, List.getElem?_map]
  rcases Q3 v d.nodes.length with h | h
  · obtain⟨x, hx⟩ := get_of_lt h
    rw[Pw hx, hx]
    simp only[Option.map_some, (xz d c _ v x).2]
  · rw[QR (by rw[xM]; exact h), QR h]
theorem Pz {d:InfP}{v:Nat}{x:NodeP}(hx:d.nodes[v]? = some x)(hb:d.decs.testBit v = true):(ko d)[lK d.decs v]? = some v := OK (get_lt hx) hb
theorem PA {d:InfP}{c:Nat -> Nat -> Int}{v:Nat}{x:NodeP}(hx:d.nodes[v]? = some x)(hb:d.decs.testBit v = true):jy d c (ko d).length v x = { x with rows := x.rows ++ mA d.grain d.nodes c (lK d.decs v) x } :=
  QN ⟨hb, get_lt (Pz hx hb)⟩
theorem PD {d:InfP}{c:Nat -> Nat -> Int}{v k:Nat}{x:NodeP}(hb:¬ d.decs.testBit v = true):jy d c k v x = x := QQ fun h => hb h.1
theorem wC {S:Nat -> Prop}{H:AHeap}{nx:Nat}{cv xv:AVal}{cs:List Int}{xs:List (List Int)}(h1:Fz S H nx cv (ag cs))(h2:Fz S H nx xv (aD xs)):Fz S H nx (.agg [cv, xv]) (dT cs xs) := by
  refine .agg rfl fun i hi _ => ?_
  match i, hi with
  | 0, _ => exact h1
  | 1, _ => exact h2
theorem Lz (l:List Int)(v:Int)(hl:(l.length:Int) < 2 ^ 62)(H:AHeap)(K:ARes -> AHeap -> Prop)(hK:∀ i:Int, (0 <= i ↔ v ∈ l) -> K (.ret (ab i)) H):ah Tryd.prog G0 88 [ag l, ab v] H K := by
  refine ah.cu (n := 19) (rs := [.tmp 4]) Tryd.func88 rfl rfl rfl (by decide) (by kernel_rfl) (by simp) ?_
  simp (config := { maxSteps := 1000000 }) only[go_sem, aa]
  refine W.aR 524080 (by rfl) (fun ρ H' => H' = H /\ ∃ k:Nat, ρ 8 = ab k /\ k <= l.length /\ v ∉ l.take k) (fun ρ H => l.length - (iv (ρ 8)).toNat) ?_ ?_
  · simp (config := { maxSteps := 1000000 }) only[go_sem, aa]
    exact⟨0, rfl, by omega, by simp⟩
  rintro ρ H' ⟨rfl, k, h8, hk, hno⟩
  refine W.vs ?_
  by_cases hb:(k:Int) < l.length
  · obtain⟨x, hx⟩ := get_of_lt (l := l) (i := k) (by omega)
    have hne := aM hx
    by_cases d:v = x
    · simp (config := { maxSteps := 1000000 }) only[go_sem, h8, hb, hx, hne, d, aa]
      exact az.mk (Nat.le_refl _) (hK k ⟨fun _ => by rw[d]; exact an hx, fun _ => by omega⟩)
    have w1 := QL ((k:Int) + 1) (by omega)
    simp (config := { maxSteps := 1000000 }) only[go_sem, h8, hb, hx, hne, d, w1, aa]
    refine⟨⟨k + 1, rfl, by omega, fun hm => ?_⟩, by omega⟩
    rw[aU hx]at hm
    rcases Q1.1 hm with hm | hm
    · exact hno hm
    · exact d (List.mem_singleton.1 hm)
  · simp (config := { maxSteps := 1000000 }) only[go_sem, h8, hb, aa]
    rw[QP (by omega)]at hno
    exact az.mk (Nat.le_refl _) (hK (-1) ⟨fun h => absurd h (by decide), fun h => absurd h hno⟩)
theorem LA (l:List Int)(v:Int)(hl:(l.length:Int) < 2 ^ 62)(H:AHeap)(K:ARes -> AHeap -> Prop)(hK:K (.ret (.lit (.bool (decide (v ∈ l))))) H):ah Tryd.prog G0 68 [ag l, ab v] H K := by
  refine ah.cu (n := 9) (rs := [.tmp 4]) Tryd.func68 rfl rfl rfl (by decide) (by kernel_rfl) (by simp) ?_
  simp (config := { maxSteps := 1000000 }) only[go_sem, aa]
  refine aG.clo (Lz l v hl _ _ fun i hi => ⟨trivial, ?_⟩)
  by_cases h:v ∈ l
  · have h0:i >= 0 := hi.2 h
    simp (config := { maxSteps := 1000000 }) only[go_sem, h0, aa]
    rw[Rk h]at hK
    exact az.mk (Nat.le_refl _) hK
  · have h0:¬ i >= 0 := fun h' => h (hi.1 h')
    simp (config := { maxSteps := 1000000 }) only[go_sem, h0, aa]
    rw[RJ h]at hK
    exact az.mk (Nat.le_refl _) hK
set_option maxHeartbeats 1000000 in
theorem LC (g:Int)(ns:List NodeP)(cs:List Int)(xs:List (List Int))(hn:(ns.length:Int) < 2 ^ 38)(hf:n8 cs xs)(H:AHeap)(K:ARes -> AHeap -> Prop)(hK:K (.ret (.lit (.bool (decide (aA ns = cs))))) H):ah Tryd.prog G0 67 [dp g ns, dT cs xs] H K := by
  refine ah.clo ⟨_, Tryd.func67, rfl, rfl⟩ fun hcl => ?_
  obtain⟨f1, f2, f3⟩ := hf
  refine ah.cu (n := 31) (rs := [.tmp 4]) Tryd.func67 rfl rfl rfl (by decide) (by kernel_rfl) (by simp) ?_
  simp (config := { maxSteps := 1000000 }) only[go_sem, dT, aD, dp, ep, aa]
  obtain⟨H1, hH1⟩:∃ H1, H1 = ext H [.arr 0 61 [.lit (.int .i64 g), .vec ns.length (aK ns)], .arr 0 50 [.vec cs.length (ints cs), .vec xs.length (xs.map ag)]] := ⟨_, rfl⟩
  have l1:H1.live H.next 0 = some (61, [.lit (.int .i64 g), .vec ns.length (aK ns)]) := by rw[hH1]; exact aq (ez ..)
  have l2:H1.live (H.next + 1) 0 = some (50, [.vec cs.length (ints cs), .vec xs.length (xs.map ag)]) := by rw[hH1]; exact aq (bP H _ 1 (by simp))
  have n1:H1.next = H.next + 2 := by rw[hH1]; rfl
  have o1:Over H H1 := by rw[hH1]; exact .ext _ _
  rw[<- hH1]
  by_cases hl:(ns.length:Int) = cs.length
  rotate_left
  · simp (config := { maxSteps := 1000000 }) only[go_sem, l1, l2, hl, aa]
    rw[RJ fun h => hl (by rw[<- h, dE])]at hK
    exact az.cC bz hcl o1 (.lit _) hK
  simp (config := { maxSteps := 1000000 }) only[go_sem, l1, l2, hl, aa]
  refine W.aR 2147352688 (by rfl) (fun ρ H' => Over H1 H' /\ ∃ k:Nat, ρ 17 = ab k /\ k <= ns.length /\ (aA ns).take k = cs.take k) (fun ρ H => ns.length - (iv (ρ 17)).toNat) ?_ ?_
  · simp (config := { maxSteps := 1000000 }) only[go_sem, aa]
    exact⟨.refl _, 0, rfl, by omega, rfl⟩
  rintro ρ H' ⟨ov, k, h17, hk, he⟩
  refine W.vs ?_
  have l2' := (ov.live (g := 0) (by omega:H.next + 1 < H1.next)).trans l2
  have hlt:H.next + 1 < H'.next := by have := ov.next; omega
  have l3:∀ L, (ext H' L).live (H.next + 1) 0 = _ := fun L => (jb hlt).trans l2'
  by_cases hb:(k:Int) < cs.length
  · obtain⟨x, hx⟩ := get_of_lt (l := ns) (i := k) (by omega)
    obtain⟨c, hc⟩ := get_of_lt (l := cs) (i := k) (by omega)
    have hne := jv hx
    have e0 := oo hx
    have e1:k * 3 + 3 <= (aK ns).length := by rw[iy]; omega
    have hcn := aM hc
    simp (config := { maxSteps := 1000000 }) only[go_sem, h17, hb, hl, hne, e0, e1, aD, aa]
    refine W.draw 7 [0, 1, 0, 4, 0, 28, 60] Tryd.mixed (by kernel_rfl) (by kernel_rfl) ?_
    by_cases hd:x.card = c
    · have w1 := QL ((k:Int) + 1) (by omega)
      simp (config := { maxSteps := 1000000 }) only[go_sem, h17, hb, hl, l3, hc, hcn, hd, w1, aa]
      exact⟨by omega, ⟨ov.trans (.ext _ _), k + 1, rfl, by omega, by rw[aU (da hx), aU hc, he, hd]⟩, by omega⟩
    · simp (config := { maxSteps := 1000000 }) only[go_sem, h17, hb, hl, l3, hc, hcn, hd, aa]
      rw[RJ fun h => hd (by have := da hx; rw[h, hc]at this; exact(Option.some.inj this).symm)]at hK
      exact az.cC bz hcl ((o1.trans ov).trans (.ext _ _)) (.lit _) hK
  · simp (config := { maxSteps := 1000000 }) only[go_sem, h17, hb, hl, aa]
    rw[QP (by rw[dE]; omega), QP (by omega)]at he
    rw[Rk he]at hK
    exact az.cC bz hcl (o1.trans ov) (.lit _) hK
end Go.Proofs
namespace Go.Proofs
def before (r:Nat -> Int)(i j:Nat):Prop := r j < r i \/ (r i = r j /\ i < j)
theorem O6 {r:Nat -> Int}{i j:Nat}(h:before r i j):¬ before r j i := fun k => by unfold before at *; omega
theorem O7 {r:Nat -> Int}{i j:Nat}(h:i ≠ j):before r i j \/ before r j i := by unfold before; omega
structure Top (r:Nat -> Int)(n k:Nat)(M:Nat -> Bool):Prop where
  count:(List.range n).countP M = k
  first:∀ i j, i < n -> j < n -> M i = true -> M j = false -> before r i j
theorem O8 {l:List Nat}{p q:Nat -> Bool}(h:∀ x ∈ l, p x = true -> q x = true){a:Nat}(ha:a ∈ l)(hp:p a = false)(hq:q a = true):l.countP p < l.countP q := by
  induction l with
  | nil => cases ha
  | cons x l ih =>
    have hm:l.countP p <= l.countP q := T6 fun y hy => h y (by simp [hy])
    rcases List.mem_cons.1 ha with rfl | ha
    · rw[Rh, Rh, hp, hq]
      simp
      omega
    · have := ih (fun y hy => h y (by simp [hy])) ha
      have hx := h x (by simp)
      rw[Rh, Rh]
      cases hpx:p x
      · simp; omega
      · rw[hx hpx]; simp; omega
theorem Top.unique {r:Nat -> Int}{n k:Nat}{M M':Nat -> Bool}(h:Top r n k M)(h':Top r n k M'):∀ i, i < n -> M i = M' i := by
  have key:∀ {M M':Nat -> Bool}, Top r n k M -> Top r n k M' -> ∀ i, i < n -> M i = true -> M' i = true := by
    intro M M' h h' i hi hm
    rcases Rc (M' i) with e | e
    · exact e
    -- some place of M' is not in M
    have:∃ j, j < n /\ M' j = true /\ M j = false := by
      refine Re fun hno => ?_
      have hsub:∀ x ∈ List.range n, M' x = true -> M x = true := fun x hx hx' => by
        rcases Rc (M x) with e | e
        · exact e
        · exact absurd ⟨x, QW.1 hx, hx', e⟩ hno
      have := O8 hsub (QW.2 hi) e hm
      rw[h.count, h'.count]at this
      omega
    obtain⟨j, hj, a, b⟩ := this
    exact absurd (h'.first j i hj hi a e) (O6 (h.first i j hi hj hm b))
  intro i hi
  have a := key h h' i hi
  have b := key h' h i hi
  cases h1:M i <;> cases h2:M' i <;> simp_all
theorem Top.zero {r:Nat -> Int}{n:Nat}:Top r n 0 (fun _ => false) := ⟨by simp, fun _ _ _ _ h => by cases h⟩
theorem Top.step {r : Nat → Int} {n k b : Nat} {M : Nat → Bool} (h : Top r n k M) (hb : b < n) (hm : M b = false) (hmin : ∀ j, j < n → M j = false → j ≠ b → before r b j) :
    Top r n (k + 1) (fun i => decide (i = b) || M i) where
  count := by
    have:∀ l:List Nat, l.Nodup -> b ∈ l -> l.countP (fun i => decide (i = b) || M i) = l.countP M + 1 := by
      intro l
      induction l with
      | nil => intro _ h; cases h
      | cons x l ih =>
        intro hnd hmem
        obtain⟨h1, h2⟩ := S6.1 hnd
        rw[Rh, Rh]
        rcases List.mem_cons.1 hmem with rfl | hmem
        · have : l.countP (fun i => decide (i = b) || M i) = l.countP M := SY fun y hy => by
            have:y ≠ b := by rintro rfl; exact h1 hy
            simp [this]
          rw[this]; simp [hm]
        · have hx:x ≠ b := by rintro rfl; exact h1 hmem
          rw[ih h2 hmem]; simp [hx]; omega
    rw[this _ SK (QW.2 hb), h.count]
  first i j hi hj h1 h2 := by
    simp only[RE, decide_eq_true_eq, Uc, RH]at h1 h2
    rcases h1 with rfl | h1
    · exact hmin j hj h2.2 h2.1
    · exact h.first i j hi hj h1 h2.2
theorem Top.sorted {r:Nat -> Int}{n k:Nat}{l:List Nat}(hp:l.Perm (List.range n))(hs:l.Pairwise (before r))(hk:k <= n):Top r n k (fun i => decide (i ∈ l.take k)) where
  count := by
    rw[<- hp.countP_eq]
    have hnd:l.Nodup := hp.nodup_iff.2 SK
    have hl:l.length = n := by simpa using hp.length_eq
    conv => lhs; rw[<- RW k l]
    rw[List.countP_append]
    have e1:(l.take k).countP (fun i => decide (i ∈ (List.take k l ++ List.drop k l).take k)) = k := by
      have:(l.take k).length = k := by simp; omega
      conv => rhs; rw[<- this]
      rw[Sz]
      intro x hx
      simpa using hx
    have e2:(l.drop k).countP (fun i => decide (i ∈ (List.take k l ++ List.drop k l).take k)) = 0 := by
      rw[Uk]
      intro x hx
      rw[RW]
      simp only[decide_eq_true_eq]
      intro hx2
      have := (RW k l) ▸ hnd
      rw[List.nodup_append]at this
      exact this.2.2 x hx2 x hx rfl
    rw[e1, e2]; rfl
  first i j hi hj h1 h2 := by
    simp only[decide_eq_true_eq, RH]at h1 h2
    have hjl:j ∈ l := hp.mem_iff.2 (QW.2 hj)
    rw[<- RW k l]at hjl hs
    rcases Q1.1 hjl with h | h
    · exact absurd h h2
    · exact(SG.1 hs).2.2 i h1 j h
def ew (c:List Int):List Int := if 0 < c.sum then c else List.replicate c.length 1
def cY (c:List Int):Int := if 0 < c.sum then c.sum else c.length
def partAt (sp:Int)(c:List Int)(i:Nat):Int := sp * (ew c).getD i 0 / cY c
def cq (sp:Int)(c:List Int)(i:Nat):Int := sp * (ew c).getD i 0 % cY c
def cZ (grain least:Int)(c:List Int):Int := grain - least * c.length
def gi (sp:Int)(c:List Int):Int := sp - ((List.range c.length).map (partAt sp c)).sum
theorem O9 (c:List Int):(ew c).length = c.length := by unfold ew; split <;> simp
theorem Cx (c:List Int):(ew c).sum = cY c := by
  unfold ew cY; split
  · rfl
  · simp
theorem Cy {c:List Int}(h:∀ x ∈ c, 0 <= x):∀ x ∈ ew c, 0 <= x := by
  unfold ew; split
  · exact h
  · intro x hx; rw[List.mem_replicate]at hx; omega
theorem oC {c:List Int}(h:0 < c.length):0 < cY c := by unfold cY; split <;> omega
theorem Pa:∀ (l:List Int), ((List.range l.length).map fun i => l.getD i 0).sum = l.sum := by
  intro l
  have:((List.range l.length).map fun i => l.getD i 0) = l := by
    apply List.ext_getElem
    · simp
    · intro i h1 h2; simp at h1 ⊢; simp [h1]
  rw[this]
theorem qm (l:List Nat)(f g:Nat -> Int):(l.map fun i => f i + g i).sum = (l.map f).sum + (l.map g).sum := by
  induction l with
  | nil => rfl
  | cons x l ih => simp only[List.map_cons, RA, ih]; omega
theorem xG (l:List Nat)(k:Int)(f:Nat -> Int):(l.map fun i => k * f i).sum = k * (l.map f).sum := by
  induction l with
  | nil => simp
  | cons x l ih => simp only[List.map_cons, RA, ih]; rw[SZ]
theorem Pb {l:List Nat}{f:Nat -> Int}{b:Int}(h:∀ i ∈ l, f i <= b):(l.map f).sum <= b * l.length := by
  induction l with
  | nil => simp
  | cons x l ih =>
    have h1 := ih fun i hi => h i (by simp [hi])
    have h2 := h x (by simp)
    simp only[List.map_cons, RA, List.length_cons]
    have:b * ((l.length + 1:Nat):Int) = b * l.length + b := by push_cast; rw[SZ]; simp
    omega
theorem Pc {l:List Nat}{f:Nat -> Int}(h:∀ i ∈ l, 0 <= f i):0 <= (l.map f).sum := by
  induction l with
  | nil => simp
  | cons x l ih =>
    have h1 := ih fun i hi => h i (by simp [hi])
    have h2 := h x (by simp)
    simp only[List.map_cons, RA]; omega
theorem xH {sp:Int}{c:List Int}(h:0 < c.length)(i:Nat):0 <= cq sp c i /\ cq sp c i < cY c :=
  ⟨RU _ (by have := oC h; omega), RF _ (oC h)⟩
theorem Cz {sp:Int}{c:List Int}(h:0 < c.length):gi sp c * cY c = ((List.range c.length).map (cq sp c)).sum := by
  have e:∀ i, sp * (ew c).getD i 0 = cY c * partAt sp c i + cq sp c i := fun i => by
    unfold partAt cq
    exact(T8 _ _).symm
  have h1:((List.range c.length).map fun i => sp * (ew c).getD i 0).sum = sp * cY c := by
    rw[xG, <- O9 c, Pa, Cx]
  have h2:((List.range c.length).map fun i => sp * (ew c).getD i 0).sum = cY c * ((List.range c.length).map (partAt sp c)).sum + ((List.range c.length).map (cq sp c)).sum := by
    rw[<- xG, <- qm]
    congr 1
    exact Rm fun i _ => e i
  unfold gi
  rw[Int.sub_mul, <- h1, h2, TH (cY c)]
  omega
theorem xI {sp:Int}{c:List Int}(h:0 < c.length):0 <= gi sp c /\ gi sp c < c.length := by
  have hT := oC h
  have e := Cz (sp := sp) h
  have h0:0 <= ((List.range c.length).map (cq sp c)).sum := Pc fun i _ => (xH h i).1
  have h1:((List.range c.length).map (cq sp c)).sum <= (cY c - 1) * (List.range c.length).length := Pb fun i _ => by have := (xH (sp := sp) h i).2; omega
  rw[<- e]at h0 h1
  simp only[Rw]at h1
  constructor
  · exact Re fun hn => by
      have:gi sp c * cY c < 0 := Int.mul_neg_of_neg_of_pos (by omega) hT
      omega
  · exact Re fun hn => by
      have h3:(c.length:Int) * cY c <= gi sp c * cY c := S4 (by omega) (by omega)
      have h4:(cY c - 1) * (c.length:Int) = c.length * cY c - c.length := by rw[Int.sub_mul, TH]; omega
      omega
def dJ (least sp:Int)(c:List Int)(M:Nat -> Bool):List Int := (List.range c.length).map fun i => least + partAt sp c i + if M i then 1 else 0
def gu (least sp:Int)(c s:List Int):Prop := ∃ M, Top (cq sp c) c.length (gi sp c).toNat M /\ s = dJ least sp c M
theorem gu.unique {least sp:Int}{c s s':List Int}(h:gu least sp c s)(h':gu least sp c s'):s = s' := by
  obtain⟨M, h1, rfl⟩ := h
  obtain⟨M', h2, rfl⟩ := h'
  unfold dJ
  apply Rm
  intro i hi
  rw[h1.unique h2 i (QW.1 hi)]
end Go.Proofs
namespace Go.Proofs
def bR (n:Nat)(f:Nat -> Int):Int := ((List.range n).map f).sum
theorem tH (n:Nat)(f g:Nat -> Int):bR n (fun i => f i + g i) = bR n f + bR n g := qm _ _ _
theorem qo (n:Nat)(k:Int)(f:Nat -> Int):bR n (fun i => k * f i) = k * bR n f := xG _ _ _
theorem tI {n:Nat}{f g:Nat -> Int}(h:∀ i, i < n -> f i = g i):bR n f = bR n g := by
  unfold bR; rw[Rm fun i hi => h i (QW.1 hi)]
theorem Pd {l:List Nat}{f g:Nat -> Int}(h:∀ i ∈ l, f i <= g i):(l.map f).sum <= (l.map g).sum := by
  induction l with
  | nil => simp
  | cons x l ih =>
    have h1 := ih fun i hi => h i (by simp [hi])
    have h2 := h x (by simp)
    simp only[List.map_cons, RA]; omega
theorem xJ {n:Nat}{f g:Nat -> Int}(h:∀ i, i < n -> f i <= g i):bR n f <= bR n g := Pd fun i hi => h i (QW.1 hi)
theorem xK (l:List Nat)(p:Nat -> Bool):((l.countP p:Nat):Int) = (l.map fun i => if p i then (1:Int) else 0).sum := by
  induction l with
  | nil => rfl
  | cons x l ih =>
    rw[Rh]
    cases h:p x
    · simp [ih, h]
    · simp [ih, h]; omega
theorem threshold (l:List Nat)(p:Nat -> Bool)(g:Nat -> Int):∃ θ:Int, 0 <= θ /\ (∀ i ∈ l, p i = true -> g i <= θ) /\ (θ = 0 \/ ∃ i ∈ l, p i = true /\ θ = g i) := by
  induction l with
  | nil => exact⟨0, by omega, fun i h => (by cases h), .inl rfl⟩
  | cons x l ih =>
    obtain⟨θ, h0, h1, h2⟩ := ih
    by_cases hx:p x = true /\ θ < g x
    · refine⟨g x, by omega, fun i hi hp => ?_, .inr ⟨x, by simp, hx.1, rfl⟩⟩
      rcases List.mem_cons.1 hi with rfl | hi
      · exact Int.le_refl _
      · have := h1 i hi hp; omega
    · refine⟨θ, h0, fun i hi hp => ?_, ?_⟩
      · rcases List.mem_cons.1 hi with rfl | hi
        · exact Re fun hn => hx ⟨hp, by omega⟩
        · exact h1 i hi hp
      · rcases h2 with h2 | ⟨i, hi, hp, he⟩
        · exact .inl h2
        · exact .inr ⟨i, by simp [hi], hp, he⟩
theorem CC {n : Nat} {M N : Nat → Bool} {g : Nat → Int} (hg : ∀ i, i < n → 0 ≤ g i) (hM : ∀ i j, i < n → j < n → M i = true → M j = false → g i ≤ g j) (hc : (List.range n).countP M ≤ (List.range n).countP N) :
    bR n (fun i => if M i then g i else 0) <= bR n (fun i => if N i then g i else 0) := by
  obtain⟨θ, h0, h1, h2⟩ := threshold (List.range n) M g
  have h3:∀ j, j < n -> M j = false -> θ <= g j := fun j hj hm => by
    rcases h2 with rfl | ⟨i, hi, hp, rfl⟩
    · exact hg j hj
    · exact hM i j (QW.1 hi) hj hp hm
  have hpt:bR n (fun i => (if M i then g i else 0) + θ * (if N i then 1 else 0)) <= bR n (fun i => (if N i then g i else 0) + θ * (if M i then 1 else 0)) := by
    refine xJ fun i hi => ?_
    have a := h1 i (QW.2 hi)
    have b := h3 i hi
    cases hm:M i <;> cases hn:N i
    · simp
    · simp; exact b hm
    · simp; exact a hm
    · simp
  rw[tH, tH, qo, qo]at hpt
  have e1:bR n (fun i => if M i then (1:Int) else 0) = ((List.range n).countP M:Nat) := (xK _ _).symm
  have e2:bR n (fun i => if N i then (1:Int) else 0) = ((List.range n).countP N:Nat) := (xK _ _).symm
  rw[e1, e2]at hpt
  have h4:θ * ((List.range n).countP M:Nat) <= θ * ((List.range n).countP N:Nat) := RV (by omega) h0
  omega
def lQ (d:Int):Int := max d (-d)
def gA (d:Int):Int := max d 0
theorem Pe (d:Int):lQ d = 2 * gA d + (-1) * d := by unfold lQ gA; omega
theorem abs_neg (d:Int):lQ d = 2 * gA (-d) + d := by unfold lQ gA; omega
theorem CD {n:Nat}{f:Nat -> Int}(h:bR n f = 0):bR n (fun i => lQ (f i)) = 2 * bR n (fun i => gA (f i)) := by
  rw[tI fun i _ => Pe _, tH, qo, qo, h]; omega
theorem CE {n:Nat}{f:Nat -> Int}(h:bR n f = 0):bR n (fun i => lQ (f i)) = 2 * bR n (fun i => gA (-f i)) := by
  rw[tI fun i _ => abs_neg _, tH, qo, h]; omega
theorem CG (l:List Nat)(p:Nat -> Bool):l.countP (fun i => !p i) + l.countP p = l.length := by
  induction l with
  | nil => rfl
  | cons x l ih =>
    rw[Rh, Rh, List.length_cons]
    cases h:p x <;> simp <;> omega
theorem nearest {n : Nat} {t k : Nat} {ρ q x : Nat → Int} {M : Nat → Bool} (hρ : ∀ i, i < n → 0 ≤ ρ i ∧ ρ i < t) (hM : Top ρ n k M)
    (h0:bR n (fun i => (t:Int) * (q i + (if M i then 1 else 0)) - (t * q i + ρ i)) = 0) (h1:bR n (fun i => (t:Int) * x i - (t * q i + ρ i)) = 0):
    bR n (fun i => lQ (t * (q i + (if M i then 1 else 0)) - (t * q i + ρ i))) <= bR n (fun i => lQ (t * x i - (t * q i + ρ i))) := by
  let N:Nat -> Bool := fun i => decide (q i + 1 <= x i)
  have ge:∀ i j, i < n -> j < n -> M i = true -> M j = false -> ρ j <= ρ i := fun i j hi hj a b => by
    have := hM.first i j hi hj a b
    unfold before at this; omega
  rcases T4 k ((List.range n).countP N) with hk | hk
  · rw[CD h0, CD h1]
    have a1:bR n (fun i => gA (t * (q i + (if M i then 1 else 0)) - (t * q i + ρ i))) = bR n (fun i => if M i then t - ρ i else 0) := tI fun i hi => by
      have := hρ i hi
      rw[SZ]
      unfold gA
      cases M i <;> simp <;> omega
    have a2:bR n (fun i => if N i then t - ρ i else 0) <= bR n (fun i => gA (t * x i - (t * q i + ρ i))) := xJ fun i hi => by
      have := hρ i hi
      unfold gA
      by_cases h:q i + 1 <= x i
      · have h5:(t:Int) * (q i + 1) <= t * x i := RV h (by omega)
        rw[SZ]at h5
        simp only[N, h, decide_true, if_true]
        omega
      · simp only[N, h, decide_false, Bool.false_eq_true, if_false]
        omega
    have a3 := CC (M := M) (N := N) (g := fun i => t - ρ i) (fun i hi => by have := hρ i hi; omega) (fun i j hi hj a b => by have := ge i j hi hj a b; omega) (by rw[hM.count]; exact hk)
    rw[a1]
    omega
  · rw[CE h0, CE h1]
    have a1:bR n (fun i => gA (-(t * (q i + (if M i then 1 else 0)) - (t * q i + ρ i)))) = bR n (fun i => if !M i then ρ i else 0) := tI fun i hi => by
      have := hρ i hi
      rw[SZ]
      unfold gA
      cases M i <;> simp <;> omega
    have a2:bR n (fun i => if !N i then ρ i else 0) <= bR n (fun i => gA (-(t * x i - (t * q i + ρ i)))) := xJ fun i hi => by
      have := hρ i hi
      unfold gA
      by_cases h:q i + 1 <= x i
      · simp only[N, h, decide_true, Bool.not_true, Bool.false_eq_true, if_false]
        omega
      · have h5:(t:Int) * x i <= t * q i := RV (by omega) (by omega)
        simp only[N, h, decide_false, Bool.not_false, if_true]
        omega
    have c1 := CG (List.range n) M
    have c2 := CG (List.range n) N
    have a3 := CC (M := fun i => !M i) (N := fun i => !N i) (g := ρ) (fun i hi => (hρ i hi).1) (fun i j hi hj a b => by
      simp only[S1, Bool.not_eq_false']at a b
      exact ge j i hj hi b a) (by have := hM.count; omega)
    rw[a1]
    omega
end Go.Proofs
namespace Go.Proofs
theorem mD (least sp:Int)(c:List Int)(M:Nat -> Bool):(dJ least sp c M).length = c.length := by simp [dJ]
theorem qp {least sp:Int}{c:List Int}{M:Nat -> Bool}{i:Nat}(h:i < c.length):(dJ least sp c M)[i]? = some (least + partAt sp c i + if M i then 1 else 0) := by
  unfold dJ; rw[List.getElem?_map, RO h]; rfl
theorem tJ (n:Nat)(a:Int):((List.range n).map fun _ => a).sum = a * n := by
  induction n with
  | zero => simp
  | succ n ih => rw[Sr, RN, TO, ih]; simp; rw[SZ, Um]
theorem Pf {c:List Int}(h:∀ x ∈ c, 0 <= x)(i:Nat):0 <= (ew c).getD i 0 := by
  rw[QM]
  cases e:(ew c)[i]? with
  | none => exact Int.le_refl _
  | some a => exact Cy h a (an e)
theorem xL {c:List Int}(h:∀ x ∈ c, 0 <= x)(h0:0 < c.length){sp:Int}(hs:0 <= sp)(i:Nat):0 <= partAt sp c i :=
  S7 (Sc hs (Pf h i)) (T9 (oC h0))
theorem Pg {least grain:Int}{c s:List Int}(h0:0 < c.length)(h:gu least (cZ grain least c) c s):s.length = c.length /\ s.sum = grain := by
  obtain⟨M, hM, rfl⟩ := h
  refine⟨mD .., ?_⟩
  have hb := xI (sp := cZ grain least c) h0
  have hc := xK (List.range c.length) M
  rw[hM.count]at hc
  have e1:(dJ least (cZ grain least c) c M).sum = ((List.range c.length).map fun _ => least).sum + (((List.range c.length).map (partAt (cZ grain least c) c)).sum + ((List.range c.length).map fun i => if M i then (1:Int) else 0).sum) := by
    rw[<- qm, <- qm]
    unfold dJ
    congr 1
    exact Rm fun i _ => by omega
  rw[e1, tJ, <- hc]
  have:((gi (cZ grain least c) c).toNat:Int) = gi (cZ grain least c) c := by omega
  rw[this]
  unfold gi cZ
  omega
theorem Ph {least grain:Int}{c s:List Int}(hc:∀ x ∈ c, 0 <= x)(h0:0 < c.length)(hs:0 <= cZ grain least c)(h:gu least (cZ grain least c) c s):∀ x ∈ s, least <= x := by
  obtain⟨M, hM, rfl⟩ := h
  intro x hx
  unfold dJ at hx
  obtain⟨i, hi, rfl⟩ := Q6.1 hx
  have := xL hc h0 hs i
  split <;> omega
theorem oE:∀ {l:List Int}, (∀ x ∈ l, 0 <= x) -> ∀ x ∈ l, x <= l.sum
  | a :: l, h, x, hx => by
    have h1:0 <= l.sum := by
      have:∀ l:List Int, (∀ x ∈ l, 0 <= x) -> 0 <= l.sum := by
        intro l
        induction l with
        | nil => intro _; simp
        | cons b l ih => intro h; have := h b (by simp); have := ih fun x hx => h x (by simp [hx]); rw[RA]; omega
      exact this l fun x hx => h x (by simp [hx])
    rw[RA]
    rcases List.mem_cons.1 hx with rfl | hx
    · omega
    · have := oE (fun y hy => h y (by simp [hy])) x hx
      have := h a (by simp)
      omega
end Go.Proofs
namespace Go.Proofs
open Go.Hx
theorem CH {α:Type}(l:List α)(i j:Nat)(a d:α)(hi:i < l.length):(l.set i a).getD j d = if i = j then a else l.getD j d := by
  rw[QM, QM, Rg]
  by_cases h:i = j
  · subst h; rw[QN rfl, QN hi, QN rfl]; rfl
  · rw[QQ h, QQ h]
theorem jA {l:List Nat}{i:Nat}(h:i < l.length):l[i]? = some (l.getD i 0) := by
  rw[QM, QK h]; rfl
def mE (l:List Nat)(i j:Nat):List Nat := (l.set i (l.getD j 0)).set j (l.getD i 0)
theorem Pi {l:List Nat}{i j:Nat}(hi:i < l.length)(hj:j < l.length)(hij:i ≠ j)(a:Nat):(mE l i j).getD a 0 = if a = j then l.getD i 0 else if a = i then l.getD j 0 else l.getD a 0 := by
  unfold mE
  rw[CH _ _ _ _ _ (by rw[Q8]; exact hj), CH _ _ _ _ _ hi]
  by_cases h1:a = j
  · rw[QN h1, QN h1.symm]
  · rw[QQ h1, QQ fun h => h1 h.symm]
    by_cases h2:a = i
    · rw[QN h2, QN h2.symm]
    · rw[QQ h2, QQ fun h => h2 h.symm]
def oH (f:Nat -> Nat)(l:List Nat)(n:Nat):Prop := ∀ a b, a < b -> b < n -> f (l.getD a 0) <= f (l.getD b 0)
def qq (f:Nat -> Nat)(l:List Nat)(i j:Nat):Prop := (∀ a b, a < b -> b <= i -> a ≠ j -> b ≠ j -> f (l.getD a 0) <= f (l.getD b 0)) /\ ∀ b, j < b -> b <= i -> f (l.getD j 0) <= f (l.getD b 0)
theorem Pj {f:Nat -> Nat}{l:List Nat}{i:Nat}(h:oH f l i):qq f l i i := ⟨fun a b h1 h2 h3 h4 => h a b h1 (by omega), fun b h1 h2 => by omega⟩
theorem Pk {f:Nat -> Nat}{l:List Nat}{i j:Nat}(h:qq f l i j)(hj:j <= i)(hd:j = 0 \/ f (l.getD (j - 1) 0) <= f (l.getD j 0)):oH f l (i + 1) := by
  intro a b h1 h2
  by_cases hb:b = j
  · subst hb
    rcases hd with h0 | h0
    · omega
    · by_cases ha:a = b - 1
      · rw[ha]; exact h0
      · exact Ry (h.1 a (b - 1) (by omega) (by omega) (by omega) (by omega)) h0
  · by_cases ha:a = j
    · subst ha; exact h.2 b h1 (by omega)
    · exact h.1 a b h1 (by omega) ha hb
theorem Pl {f:Nat -> Nat}{l:List Nat}{i j:Nat}(h:qq f l i j)(hj:j <= i)(hi:i < l.length)(h0:0 < j)(hlt:f (l.getD j 0) < f (l.getD (j - 1) 0)):qq f (mE l j (j - 1)) i (j - 1) := by
  have g := Pi (l := l) (i := j) (j := j - 1) (by omega) (by omega) (by omega)
  constructor
  · intro a b h1 h2 h3 h4
    rw[g a, g b, QQ h3, QQ h4]
    by_cases ha:a = j
    · rw[QN ha, QQ (by omega)]
      exact h.1 (j - 1) b (by omega) h2 (by omega) (by omega)
    · rw[QQ ha]
      by_cases hb:b = j
      · rw[QN hb]
        exact h.1 a (j - 1) (by omega) (by omega) ha (by omega)
      · rw[QQ hb]
        exact h.1 a b h1 h2 ha hb
  · intro b h1 h2
    rw[g (j - 1), QN rfl, g b, QQ (by omega)]
    by_cases hb:b = j
    · rw[QN hb]; exact TG hlt
    · rw[QQ hb]; exact h.2 b (by omega) h2
theorem Pm {l:List Nat}{i j:Nat}(hi:i < l.length)(hj:j < l.length):(mE l i j).Perm l := by
  unfold mE
  rw[QM, QM, QK hi, QK hj]
  exact List.set_set_perm hi hj
def mF (r:Nat -> Int)(T n:Nat)(i:Nat):Nat := (T - (r i).toNat) * n + i
theorem CI {r:Nat -> Int}{T n:Nat}(hr:∀ i, i < n -> 0 <= r i /\ r i < T){i j:Nat}(hi:i < n)(hj:j < n):mF r T n i < mF r T n j ↔ before r i j := by
  have h1 := hr i hi
  have h2 := hr j hj
  unfold mF before
  obtain⟨a, ha⟩:∃ a, a = T - (r i).toNat := ⟨_, rfl⟩
  obtain⟨b, hb⟩:∃ b, b = T - (r j).toNat := ⟨_, rfl⟩
  rw[<- ha, <- hb]
  rcases Sq a b with h | h | h
  · have:(a + 1) * n <= b * n := Ri _ h
    rw[RI, Ud]at this
    constructor
    · intro _; left; omega
    · intro _; omega
  · subst h
    constructor
    · intro h; right; omega
    · rintro(h | h) <;> omega
  · have:(b + 1) * n <= a * n := Ri _ h
    rw[RI, Ud]at this
    constructor
    · intro h; omega
    · rintro(h | h) <;> omega
theorem Pn {r:Nat -> Int}{T n:Nat}(hr:∀ i, i < n -> 0 <= r i /\ r i < T){l:List Nat}(hp:l.Perm (List.range n))(hs:oH (mF r T n) l l.length):l.Pairwise (before r) := by
  have hm:∀ a ∈ l, a < n := fun a ha => QW.1 (hp.mem_iff.1 ha)
  have hnd:l.Nodup := hp.nodup_iff.2 SK
  rw[TU]
  intro i j hi hj hij
  have h := hs i j hij hj
  rw[QM, QM, QK hi, QK hj]at h
  simp only[Option.getD_some]at h
  have hne:l[i] ≠ l[j] := fun e => by
    have := (Sh hi hnd).1 (show l[i]? = l[j]? by rw[QK hi, e, <- QK hj])
    omega
  rcases O7 hne (r := r) with b | b
  · exact b
  · have := (CI hr (hm _ (Rz hj)) (hm _ (Rz hi))).2 b
    omega
end Go.Proofs
namespace Go.Hx
variable {P:Program} {G:Nat -> Option (List AVal)} {Γ Γ':au} {H H':AHeap} {w w':World}
theorem W.eH {n:Nat}{rd:Option Nat}{Q:AX -> St -> Prop}{s:St}{x y:Code}(Φ:St -> Prop)(h:W P G n rd x (fun ax s' => ax = .normal /\ Φ s') s)(h2:∀ s', Φ s' -> W P G n rd y Q s'):W P G n rd (.seq x y) Q s :=
  W.seq (h.mono fun ax s' ⟨e, hp⟩ => by subst e; exact h2 s' hp)
theorem A3 {H:AHeap}{id:Nat}{b:Blk}(h:H.get id = some b):H.upd id b = H := by
  have e:(fun j => if j = id then some b else H.get j) = H.get := by
    funext j
    by_cases hj:j = id
    · rw[QN hj, hj, h]
    · rw[QQ hj]
  show AHeap.mk (fun j => if j = id then some b else H.get j) H.next = H
  rw[e]
theorem A4 (H:AHeap)(id:Nat)(b c:Blk):(H.upd id b).upd id c = H.upd id c := by
  unfold AHeap.upd
  congr 1
  funext j
  by_cases hj:j = id <;> simp [hj]
end Go.Hx
namespace Go.Proofs
open Go.Hx
def aE (l:List Nat):List Int := l.map fun (v:Nat) => (v:Int)
theorem gS (l:List Nat):(aE l).length = l.length := by simp [aE]
theorem nZ {l:List Nat}{i k:Nat}(h:l[i]? = some k):(aE l)[i]? = some (k:Int) := by simp [aE, h]
theorem A5 (l:List Nat)(i k:Nat):(aE l).set i (k:Int) = aE (l.set i k) := by unfold aE; rw[Tf]
end Go.Proofs
