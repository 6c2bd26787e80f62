/- Own work: contracts. -/
import Derived.Test.YtikgmgmphkalkaaDoorConD
import Derived.Test.YtikgmgmphkalkaaDoorConC
import Derived.Test.YtikgmgmphkalkaaDoorConB
import Derived.Test.YtikgmgmphkalkaaDoorConA
set_option linter.all false
set_option maxRecDepth 100000
namespace Go.Proofs
open Go.Hx
theorem Mp {c:List Int}{i:Nat}{x:Int}(h:c[i]? = some x):(c.take (i + 1)).sum = (c.take i).sum + x := by rw[aU h]; simp
theorem Mq {c:List Int}(hc:∀ x ∈ c, 0 <= x /\ x <= 1099511627776)(i:Nat):0 <= (c.take i).sum /\ (c.take i).sum <= 1099511627776 * (c.take i).length := by
  have:∀ l:List Int, (∀ x ∈ l, 0 <= x /\ x <= 1099511627776) -> 0 <= l.sum /\ l.sum <= 1099511627776 * l.length := by
    intro l
    induction l with
    | nil => intro _; simp
    | cons a l ih =>
      intro h
      have h1 := h a (by simp)
      have h2 := ih fun x hx => h x (by simp [hx])
      rw[RA, List.length_cons]
      omega
  exact this _ fun x hx => hc x (Rs hx)
set_option maxHeartbeats 8000000 in
theorem Mr {c : List Int} {grain least : Int} {cid cg n : Nat} (hn : c.length = n) (h0 : 1 ≤ n) (hl : n ≤ 12) (hc : ∀ x ∈ c, 0 ≤ x ∧ x ≤ 1099511627776) (hg : 1 ≤ grain ∧ grain ≤ 720) (hle : 0 ≤ least ∧ least ≤ 720) (H : AHeap) (hcl : H.get cid = some (.arr cg 3 (ints c))) (hcn : cid < H.next) (K : ARes → AHeap → Prop)
    (hE:grain < least * n -> K (.ret (.tup [.lit (.slice none 0 0), ab 2])) H)
    (hK:∀ s v H', least * n <= grain -> gu least (cZ grain least c) c s -> Over H H' -> aF H.next H' 3 v (ints s) -> K (.ret (.tup [v, ab 0])) H'):
    ah Tryd.prog G0 10 [.own cid cg 0 n 1, ab grain, ab least] H K := by
  have lc := aq hcl
  have hil := aX c
  rw[hn]at hil
  have b1:¬ (n:Int) < 1 := by omega
  have b2:¬ (n:Int) > 1024 := by omega
  refine ah.dP (n := 144) (rs := [.tmp 6, .tmp 7]) Tryd.func10 rfl rfl rfl (by decide) (by simp) ?_
  refine W.sq ?_
  simp (config := { maxSteps := 1000000 }) only[go_sem, aa]
  refine W.sq ?_
  simp (config := { maxSteps := 1000000 }) only[go_sem, lc, hil, b1, b2, aa]
  refine W.sq ?_
  simp (config := { maxSteps := 1000000 }) only[go_sem, aa]
  refine W.sq ?_
  simp (config := { maxSteps := 1000000 }) only[go_sem, lc, hil, aa]
  refine W.env fun E hE1 => ?_
  have e0:E 0 = .own cid cg 0 n 1 := by rw[hE1]; simp (config := { maxSteps := 1000000 }) only[go_sem, aa]
  have e1:E 1 = ab grain := by rw[hE1]; simp (config := { maxSteps := 1000000 }) only[go_sem, aa]
  have e2:E 2 = ab least := by rw[hE1]; simp (config := { maxSteps := 1000000 }) only[go_sem, aa]
  have e8:E 8 = ab 0 := by rw[hE1]; simp (config := { maxSteps := 1000000 }) only[go_sem, aa]
  have e30:E 30 = .own cid cg 0 n 1 := by rw[hE1]; simp (config := { maxSteps := 1000000 }) only[go_sem, aa]
  have e31:E 31 = ab n := by rw[hE1]; simp (config := { maxSteps := 1000000 }) only[go_sem, lc, hil, aa]
  have e32:E 32 = ab 0 := by rw[hE1]; simp (config := { maxSteps := 1000000 }) only[go_sem, aa]
  clear hE1
  refine W.aR 70364449211840 (by rfl) (fun ρ Hx => Hx = H /\ ∃ i:Nat, ρ 32 = ab i /\ i <= n /\ ρ 8 = ab (c.take i).sum) (fun ρ Hx => n - (iv (ρ 32)).toNat) ?_ ?_
  · exact⟨rfl, 0, e32, by omega, e8⟩
  rintro ρ Hx ⟨hHx, i, h32, hi, h8⟩
  rw[hHx]
  refine W.env fun E1 hE1 => ?_
  have f0:E1 0 = .own cid cg 0 n 1 := by rw[hE1]; simp (config := { maxSteps := 1000000 }) only[go_sem, e0, aa]
  have f1:E1 1 = ab grain := by rw[hE1]; simp (config := { maxSteps := 1000000 }) only[go_sem, e1, aa]
  have f2:E1 2 = ab least := by rw[hE1]; simp (config := { maxSteps := 1000000 }) only[go_sem, e2, aa]
  have f8:E1 8 = ab (c.take i).sum := by rw[hE1]; simp (config := { maxSteps := 1000000 }) only[go_sem, h8, aa]
  have f30:E1 30 = .own cid cg 0 n 1 := by rw[hE1]; simp (config := { maxSteps := 1000000 }) only[go_sem, e30, aa]
  have f31:E1 31 = ab n := by rw[hE1]; simp (config := { maxSteps := 1000000 }) only[go_sem, e31, aa]
  have f32:E1 32 = ab i := by rw[hE1]; simp (config := { maxSteps := 1000000 }) only[go_sem, h32, aa]
  clear hE1
  have hsr := Mq hc i
  have htl:((c.take i).length:Int) <= 12 := by rw[QV]; omega
  by_cases hb:(i:Int) < n
  · obtain⟨x, hx⟩ := get_of_lt (l := c) (i := i) (by omega)
    have hxr := hc x (an hx)
    have hxn := aM hx
    have x1:¬ x < 0 := by omega
    have x2:¬ x > 1099511627776 := by omega
    have w1 := QL ((c.take i).sum + x) (by omega)
    have w2 := QL ((i:Int) + 1) (by omega)
    refine W.vs ?_
    simp (config := { maxSteps := 1000000 }) only[go_sem, f8, f30, f31, f32, hb, lc, hil, hx, hxn, x1, x2, w1, w2, aa]
    exact⟨⟨i + 1, rfl, by omega, by rw[Mp hx]⟩, by rw[h32]; simp only[ab, cL]; omega⟩
  have hin:i = n := by omega
  rw[hin, <- hn, List.take_length]at f8 hsr
  have g1:¬ grain < 1 := by omega
  have g2:¬ grain > 720 := by omega
  have g3:¬ least < 0 := by omega
  have gn:¬ (n:Int) = 0 := by omega
  have gt:grain.tdiv n = grain / n := RS (by omega)
  have gw := QL (grain / n) (by have := S7 (a := grain) (b := n) (by omega) (by omega); have := Int.ediv_le_self (a := grain) n (by omega); omega)
  refine W.vs ?_
  simp (config := { maxSteps := 1000000 }) only[go_sem, f31, f32, hb, aa]
  by_cases hfit:grain < least * n
  · have g4 : least > grain / n := by
      refine Re fun h => ?_
      have := (SV (show (0:Int) < n by omega)).1 (Int.not_lt.1 h)
      omega
    refine W.sq ?_
    simp (config := { maxSteps := 1000000 }) only[go_sem, f0, f1, f2, g1, g2, g3, lc, hil, gn, gt, gw, g4, aa]
    exact az.mk (Nat.le_refl _) (hE hfit)
  have g4:¬ least > grain / n := fun h => by
    have := (SV (show (0:Int) < n by omega)).2 (Int.not_lt.1 hfit)
    omega
  refine W.sq ?_
  simp (config := { maxSteps := 1000000 }) only[go_sem, f0, f1, f2, g1, g2, g3, lc, hil, gn, gt, gw, g4, aa]
  have m0:0 <= least * n := Sc hle.1 (by omega)
  have wm := QL (least * (n:Int)) (by omega)
  have wsb := QL (grain - least * (n:Int)) (by omega)
  obtain⟨sp, hsp⟩:∃ sp, sp = grain - least * n := ⟨_, rfl⟩
  have hsp':cZ grain least c = sp := by unfold cZ; rw[hn, hsp]
  rw[<- hsp]at wsb
  have sp0:0 <= sp /\ sp <= 720 := by omega
  refine W.sq ?_
  simp (config := { maxSteps := 1000000 }) only[go_sem, f0, f1, f2, lc, hil, wm, <- hsp, wsb, aa]
  refine W.sq ?_
  simp (config := { maxSteps := 1000000 }) only[go_sem, aa]
  refine W.sq ?_
  simp (config := { maxSteps := 1000000 }) only[go_sem, f0, lc, hil, aa]
  have lcE:∀ L, (ext H L).live cid cg = some (3, ints c) := fun L => (jb hcn).trans lc
  refine⟨⟨by omega, by omega⟩, ?_⟩
  refine W.sq ?_
  simp (config := { maxSteps := 1000000 }) only[go_sem, f0, lcE, hil, aa]
  refine⟨⟨by omega, by omega⟩, ?_⟩
  refine W.sq ?_
  simp (config := { maxSteps := 1000000 }) only[go_sem, f0, lcE, hil, aa]
  refine⟨⟨by omega, by omega⟩, ?_⟩
  refine W.sq ?_
  simp (config := { maxSteps := 1000000 }) only[go_sem, f0, lcE, hil, aa]
  have hz:List.replicate n (AVal.lit (.int .i64 0)) = ints (List.replicate n 0) := by simp only[ints, List.map_replicate]; rfl
  rw[hz]
  obtain⟨H1, hH1⟩:∃ H1, H1 = ext H [.arr 0 3 (ints (List.replicate n 0)), .arr 0 3 (ints (List.replicate n 0)), .arr 0 3 (ints (List.replicate n 0))] := ⟨_, rfl⟩
  have ga:H1.get H.next = some (.arr 0 3 (ints (List.replicate n 0))) := by rw[hH1]; exact bP H _ 0 (by simp)
  have gb:H1.get (H.next + 1) = some (.arr 0 3 (ints (List.replicate n 0))) := by rw[hH1]; exact bP H _ 1 (by simp)
  have go:H1.get (H.next + 2) = some (.arr 0 3 (ints (List.replicate n 0))) := by rw[hH1]; exact bP H _ 2 (by simp)
  have n1:H1.next = H.next + 3 := by rw[hH1]; rfl
  have o1:Over H H1 := by rw[hH1]; exact .ext _ _
  rw[<- hH1]
  refine W.env fun E2 hE2 => ?_
  have a0:E2 0 = .own cid cg 0 n 1 := by rw[hE2]; simp (config := { maxSteps := 1000000 }) only[go_sem, f0, aa]
  have a2:E2 2 = ab least := by rw[hE2]; simp (config := { maxSteps := 1000000 }) only[go_sem, f2, aa]
  have a8:E2 8 = ab c.sum := by rw[hE2]; simp (config := { maxSteps := 1000000 }) only[go_sem, f8, aa]
  have a11:E2 11 = ab sp := by rw[hE2]; simp (config := { maxSteps := 1000000 }) only[go_sem, wm, <- hsp, wsb, aa]
  have a12:E2 12 = ab sp := by rw[hE2]; simp (config := { maxSteps := 1000000 }) only[go_sem, wm, <- hsp, wsb, aa]
  have a13:E2 13 = .own H.next 0 0 n 1 := by rw[hE2]; simp (config := { maxSteps := 1000000 }) only[go_sem, aa]
  have a14:E2 14 = .own (H.next + 1) 0 0 n 1 := by rw[hE2]; simp (config := { maxSteps := 1000000 }) only[go_sem, aa]
  have a15:E2 15 = .own (H.next + 2) 0 0 n 1 := by rw[hE2]; simp (config := { maxSteps := 1000000 }) only[go_sem, aa]
  have a80:E2 80 = .own cid cg 0 n 1 := by rw[hE2]; simp (config := { maxSteps := 1000000 }) only[go_sem, f0, aa]
  have a81:E2 81 = ab n := by rw[hE2]; simp (config := { maxSteps := 1000000 }) only[go_sem, f0, lcE, hil, aa]
  have a82:E2 82 = ab 0 := by rw[hE2]; simp (config := { maxSteps := 1000000 }) only[go_sem, aa]
  clear hE2 hH1
  have hrs := fun k => Pu (sp := sp) (c := c) (fun x h => (hc x h).1) (by omega) sp0.1 k
  have hpn := fun k => xL (c := c) (fun x h => (hc x h).1) (by omega) sp0.1 k
  have hpl := fun k => CL (c := c) (fun x h => (hc x h).1) (by omega) sp0.1 k
  have hrb := fun k => xH (sp := sp) (c := c) (by omega) k
  have hT:cY c < 1125899906842624 := by unfold cY; split <;> omega
  refine W.aR 21267647932553818263182454447787675648 (by kernel_rfl) (fun ρ Hx => ∃ (i:Nat) (A B O:List Int), ρ 82 = ab i /\ i <= n /\ ρ 12 = ab (gZ sp c i) /\ Hx.next = H1.next /\ (∀ j, j < H.next -> Hx.get j = H.get j) /\ Hx.get H.next = some (.arr 0 3 (ints A)) /\ Hx.get (H.next + 1) = some (.arr 0 3 (ints B)) /\ Hx.get (H.next + 2) = some (.arr 0 3 (ints O)) /\
    (A.length = n /\ B.length = n /\ O.length = n) /\ ∀ j, j < i -> A[j]? = some (least + partAt sp c j) /\ B[j]? = some (cq sp c j) /\ O[j]? = some (j:Int)) (fun ρ Hx => n - (iv (ρ 82)).toNat) ?_ ?_
  · exact⟨0, _, _, _, a82, by omega, a12.trans (by unfold gZ; simp), rfl, fun j h => o1.old j h, ga, gb, go, by simp, fun j h => absurd h (Q5 _)⟩
  rintro ρ2 Hx ⟨k, A, B, O, h82, hk, h12, nx, hold, xa, xb, xo, ⟨lA, lB, lO⟩, hall⟩
  refine W.env fun E3 hE3 => ?_
  have d0:E3 0 = .own cid cg 0 n 1 := by rw[hE3]; simp (config := { maxSteps := 1000000 }) only[go_sem, a0, aa]
  have d2:E3 2 = ab least := by rw[hE3]; simp (config := { maxSteps := 1000000 }) only[go_sem, a2, aa]
  have d8:E3 8 = ab c.sum := by rw[hE3]; simp (config := { maxSteps := 1000000 }) only[go_sem, a8, aa]
  have d11:E3 11 = ab sp := by rw[hE3]; simp (config := { maxSteps := 1000000 }) only[go_sem, a11, aa]
  have d12:E3 12 = ab (gZ sp c k) := by rw[hE3]; simp (config := { maxSteps := 1000000 }) only[go_sem, h12, aa]
  have d13:E3 13 = .own H.next 0 0 n 1 := by rw[hE3]; simp (config := { maxSteps := 1000000 }) only[go_sem, a13, aa]
  have d14:E3 14 = .own (H.next + 1) 0 0 n 1 := by rw[hE3]; simp (config := { maxSteps := 1000000 }) only[go_sem, a14, aa]
  have d15:E3 15 = .own (H.next + 2) 0 0 n 1 := by rw[hE3]; simp (config := { maxSteps := 1000000 }) only[go_sem, a15, aa]
  have d80:E3 80 = .own cid cg 0 n 1 := by rw[hE3]; simp (config := { maxSteps := 1000000 }) only[go_sem, a80, aa]
  have d81:E3 81 = ab n := by rw[hE3]; simp (config := { maxSteps := 1000000 }) only[go_sem, a81, aa]
  have d82:E3 82 = ab k := by rw[hE3]; simp (config := { maxSteps := 1000000 }) only[go_sem, h82, aa]
  clear hE3
  have lcx := aq ((hold cid hcn).trans hcl)
  by_cases hb2:(k:Int) < n
  rotate_left
  · have hkn:k = n := by omega
    refine W.vs ?_
    simp (config := { maxSteps := 1000000 }) only[go_sem, d81, d82, hb2, aa]
    rw[hkn]at d12 hall
    have eA:A = dJ least sp c fun a => decide (a ∈ ([]:List Nat).take 0) := by
      rw[Pp]
      apply Q9
      intro j
      rcases Q3 j n with h | h
      · rw[(hall j h).1, List.getElem?_map, RO (by omega)]; rfl
      · rw[QR (by omega), QR (by simp; omega)]
    have eO:O = aE (List.range n) := by
      apply Q9
      intro j
      rcases Q3 j n with h | h
      · rw[(hall j h).2.2, nZ (RO h)]
      · rw[QR (by omega), QR (by rw[gS, Rw]; omega)]
    have eB:∀ j, j < n -> B.getD j 0 = cq sp c j := fun j h => by rw[QM, (hall j h).2.1]; rfl
    rw[eO]at xo
    obtain⟨T, hTe⟩ := Rf (T9 (oC (c := c) (by omega)))
    have hBr:∀ x ∈ B, 0 <= x /\ x < 1125899906842624 := fun x hx => by
      obtain⟨j, hj⟩ := Q4.1 hx
      have hjn := get_lt hj
      rw[(hall j (by omega)).2.1]at hj
      cases hj
      have := hrb j
      omega
    have hBT:∀ j, j < n -> 0 <= B.getD j 0 /\ B.getD j 0 < T := fun j h => by
      rw[eB j h, <- hTe]
      exact hrb j
    have hcmp := Mo (id := H.next + 1) (g := 0) lB hBr (by omega) hBT (l := List.range n) (fun a h => QW.1 h)
    have xon:Hx.get (H.next + 2) = some (nB 0 (List.range n)) := xo
    refine W.sq ?_
    simp (config := { maxSteps := 1000000 }) only[go_sem, d14, d15, aa]
    refine aG.clo (Mm (n := n) (v := .own (H.next + 2) 0 0 n 1) (cs := ints (aE (List.range n))) (Q := fun H' => ∃ l:List Nat, l.Perm (List.range n) /\ oH (mF (fun i => B.getD i 0) T n) l l.length /\ H' = Hx.upd (H.next + 2) (nB 0 l)) (by omega) Hx (fun H' ⟨l, _, _, e⟩ => by rw[e, aV]; exact Nat.le_refl _) (.inr ⟨H.next + 2, 0, SX _, by omega, by rw[aX, gS, Rw], xo⟩) (by rw[aX, gS, Rw]) (fun K' hK' => ?_) _ fun H4 ⟨l, hp, hs, hH4⟩ => ⟨trivial, ?_⟩)
    · rcases Q3 n 2 with h | h
      · exact Mn (by omega) Hx K' (hK' Hx ⟨List.range n, .refl _, fun a b h1 h2 => by rw[Rw]at h2; omega, (A3 xon).symm⟩)
      · have hrl:(List.range n).length = n := Rw
        have := Mj (cv := .clo 48 [.own (H.next + 1) 0 0 n 1] []) (f := mF (fun i => B.getD i 0) T n) (id := H.next + 2) (g := 0) (l := List.range n) (Inv := fun Hx => Hx.get (H.next + 1) = some (.arr 0 3 (ints B))) (by omega) (by omega) Hx xon (fun q => by rw[ao, QQ (by omega)]; exact xb) hcmp K' fun l' h1 h2 => hK' _ ⟨l', h1, by rw[h1.length_eq]; exact h2, rfl⟩
        rw[hrl]at this
        exact this
    have hpw := Pn (r := fun i => B.getD i 0) (T := T) (n := n) hBT hp hs
    have pl := hp.length_eq
    rw[Rw]at pl
    have hlm:∀ a ∈ l, a < n := fun a h => QW.1 (hp.mem_iff.1 h)
    have hnd:l.Nodup := hp.nodup_iff.2 SK
    have n4:H4.next = Hx.next := by rw[hH4, aV]
    have g4o:H4.get (H.next + 2) = some (.arr 0 3 (ints (aE l))) := by rw[hH4, ao, QN rfl]; rfl
    have g4a:H4.get H.next = some (.arr 0 3 (ints (dJ least sp c fun a => decide (a ∈ l.take 0)))) := by rw[hH4, ao, QQ (by omega), xa, eA]; rfl
    have old4:∀ j, j < H.next -> H4.get j = H.get j := fun j h => by rw[hH4, ao, QQ (by omega)]; exact hold j h
    clear hH4
    have hLb := xI (sp := sp) (c := c) (by omega)
    have hLk:gZ sp c n = gi sp c := by unfold gZ gi; rw[hn]
    obtain⟨L, hL⟩ := Rf hLb.1
    rw[hLk, hL]at d12
    have Ln:L < n := by omega
    have l4o := aq g4o
    have iol:(ints (aE l)).length = n := by rw[aX, gS, pl]
    have L0:(0:Int) <= L := by omega
    have L1:(L:Int) <= n := by omega
    simp (config := { maxSteps := 1000000 }) only[go_sem, aa]
    refine W.sq ?_
    simp (config := { maxSteps := 1000000 }) only[go_sem, d12, d15, l4o, iol, L0, L1, aa]
    refine W.env fun E4 hE4 => ?_
    have k13:E4 13 = .own H.next 0 0 n 1 := by rw[hE4]; simp (config := { maxSteps := 1000000 }) only[go_sem, d13, aa]
    have k130:E4 130 = .own (H.next + 2) 0 0 L 1 := by rw[hE4]; simp (config := { maxSteps := 1000000 }) only[go_sem, d12, d15, l4o, iol, L0, L1, aa]
    have k131:E4 131 = ab L := by rw[hE4]; simp (config := { maxSteps := 1000000 }) only[go_sem, d12, d15, l4o, iol, L0, L1, aa]
    have k132:E4 132 = ab 0 := by rw[hE4]; simp (config := { maxSteps := 1000000 }) only[go_sem, aa]
    clear hE4
    refine W.aR 11144928081394576555352445142605272463704064 (by kernel_rfl) (fun ρ Hy => ∃ m:Nat, ρ 132 = ab m /\ m <= L /\ Hy.next = H4.next /\ (∀ j, j < H.next -> Hy.get j = H.get j) /\ Hy.get (H.next + 2) = some (.arr 0 3 (ints (aE l))) /\ Hy.get H.next = some (.arr 0 3 (ints (dJ least sp c fun a => decide (a ∈ l.take m))))) (fun ρ Hy => L - (iv (ρ 132)).toNat) ?_ ?_
    · exact⟨0, k132, by omega, rfl, old4, g4o, g4a⟩
    rintro ρ3 Hy ⟨m, h132, hm, ny, oldy, gyo, gya⟩
    refine W.env fun E5 hE5 => ?_
    have u13:E5 13 = .own H.next 0 0 n 1 := by rw[hE5]; simp (config := { maxSteps := 1000000 }) only[go_sem, k13, aa]
    have u130:E5 130 = .own (H.next + 2) 0 0 L 1 := by rw[hE5]; simp (config := { maxSteps := 1000000 }) only[go_sem, k130, aa]
    have u131:E5 131 = ab L := by rw[hE5]; simp (config := { maxSteps := 1000000 }) only[go_sem, k131, aa]
    have u132:E5 132 = ab m := by rw[hE5]; simp (config := { maxSteps := 1000000 }) only[go_sem, h132, aa]
    clear hE5
    have lyo := aq gyo
    have lya := aq gya
    have isl:(ints (dJ least sp c fun a => decide (a ∈ l.take m))).length = n := by rw[aX, mD, hn]
    by_cases hb3:(m:Int) < L
    rotate_left
    · have hmL:m = L := by omega
      subst hmL
      have hTop:Top (cq sp c) n m (fun i => decide (i ∈ l.take m)) := by
        have hpw':l.Pairwise (before (cq sp c)) := (List.Pairwise.and_mem.1 hpw).imp fun {i j} ⟨hi, hj, h⟩ => by
          unfold before at h ⊢
          simp only[eB i (hlm i hi), eB j (hlm j hj)]at h
          exact h
        exact Top.sorted hp hpw' (by omega)
      refine W.vs ?_
      simp (config := { maxSteps := 1000000 }) only[go_sem, u131, u132, hb3, aa]
      refine W.vs ?_
      simp (config := { maxSteps := 1000000 }) only[go_sem, u13, aa]
      have hov:Over H Hy := ⟨by omega, oldy⟩
      refine az.mk hov.next (hK _ _ Hy (by omega) (by rw[hsp']; exact⟨_, by rw[hL, Int.toNat_natCast, hn]; exact hTop, rfl⟩) hov (.inr ⟨H.next, 0, Nat.le_refl _, by omega, ?_, gya⟩))
      rw[isl]
    obtain⟨q, hq⟩ := get_of_lt (l := l) (i := m) (by omega)
    have hqn := hlm q (an hq)
    have gq:(ints (aE l))[m]? = some (ab q) := by rw[fC, nZ hq]; rfl
    have gqn := aM gq
    have gs:(ints (dJ least sp c fun a => decide (a ∈ l.take m)))[q]? = some (ab (least + partAt sp c q)) := by rw[fC, Pq hnd hq (by omega)]; rfl
    have gsn := aM gs
    have qb:(q:Int) < n := by omega
    have wq := QL (least + partAt sp c q + 1) (by have := hpn q; have := hpl q; omega)
    have wm1 := QL ((m:Int) + 1) (by omega)
    have es:setAt (ints (dJ least sp c fun a => decide (a ∈ l.take m))) q [.lit (.int .i64 (least + partAt sp c q + 1))] = ints (dJ least sp c fun a => decide (a ∈ l.take (m + 1))) := by rw[fo (by rw[mD]; omega), Pr hnd hq (by omega)]
    refine W.sq ?_
    simp (config := { maxSteps := 1000000 }) only[go_sem, u131, u132, hb3, aa]
    refine W.sq ?_
    simp (config := { maxSteps := 1000000 }) only[go_sem, aa]
    refine W.seq (W.block ?_)
    refine W.sq ?_
    simp (config := { maxSteps := 1000000 }) only[go_sem, u130, u132, lyo, iol, gq, gqn, hb3, aa]
    refine W.vs ?_
    simp (config := { maxSteps := 1000000 }) only[go_sem, u13, lya, isl, gs, gsn, qb, wq, es, aa]
    refine⟨by omega, nf _ _ _ (by rfl) ?_⟩
    simp (config := { maxSteps := 1000000 }) only[go_sem, u132, wm1, aa]
    exact⟨by rw[aV]; omega, ⟨m + 1, rfl, by omega, by rw[aV]; exact ny, fun j h => by rw[ao, QQ (by omega)]; exact oldy j h, by rw[ao, QQ (by omega)]; exact gyo, by rw[ao, QN rfl]⟩, by rw[h132]; simp only[ab, cL]; omega⟩
  obtain⟨x, hx⟩ := get_of_lt (l := c) (i := k) (by omega)
  have hxr := hc x (an hx)
  have hxn := aM hx
  have sx0:0 <= sp * x := Sc sp0.1 hxr.1
  have sx1:sp * x <= 720 * 1099511627776 := S2 sp0.2 hxr.2 hxr.1 (by omega)
  have wsx := QL (sp * x) (by omega)
  refine W.sq ?_
  simp (config := { maxSteps := 1000000 }) only[go_sem, d81, d82, hb2, aa]
  refine W.sq ?_
  simp (config := { maxSteps := 1000000 }) only[go_sem, aa]
  refine W.seq (W.block ?_)
  refine W.sq ?_
  simp (config := { maxSteps := 1000000 }) only[go_sem, d80, d82, lcx, hil, hx, hxn, hb2, aa]
  refine W.sq ?_
  simp (config := { maxSteps := 1000000 }) only[go_sem, d11, wsx, aa]
  refine W.eH (fun s' => s'.H = Hx /\ s'.ρ 2 = ab least /\ s'.ρ 12 = ab (gZ sp c k) /\ s'.ρ 13 = .own H.next 0 0 n 1 /\ s'.ρ 14 = .own (H.next + 1) 0 0 n 1 /\ s'.ρ 15 = .own (H.next + 2) 0 0 n 1 /\ s'.ρ 16 = ab k /\ s'.ρ 18 = ab (partAt sp c k) /\ s'.ρ 19 = ab (cq sp c k) /\ s'.ρ 82 = ab k) ?_ ?_
  · by_cases hs:c.sum > 0
    · obtain⟨p1, p2⟩ := Ps (sp := sp) hs hx
      have t1:(sp * x).tdiv c.sum = partAt sp c k := by rw[p1]; exact RS sx0
      have t2:(sp * x).tmod c.sum = cq sp c k := by rw[p2]; exact Ra sx0
      have sn:¬ c.sum = 0 := by omega
      have wp := QL (partAt sp c k) (by have := hpn k; have := hpl k; omega)
      have wr := QL (cq sp c k) (by have := hrb k; omega)
      refine W.sq ?_
      simp (config := { maxSteps := 1000000 }) only[go_sem, d8, hs, aa]
      refine W.cond (t := true) (by simp (config := { maxSteps := 1000000 }) only[go_sem, d8, hs, aa]) ?_
      refine W.draw 7 [0, 0, 3, 0, 0, 24, 15] Tryd.mixed (by kernel_rfl) (by kernel_rfl) ?_
      simp (config := { maxSteps := 1000000 }) only[go_sem, d2, d8, d11, d12, d13, d14, d15, d82, sn, wsx, t1, t2, wp, wr, aa]
    · obtain⟨p1, p2⟩ := Pt (sp := sp) hs (show k < c.length by omega)
      rw[hn]at p1 p2
      have t1:sp.tdiv n = partAt sp c k := by rw[p1]; exact RS sp0.1
      have t2:sp.tmod n = cq sp c k := by rw[p2]; exact Ra sp0.1
      have wp := QL (partAt sp c k) (by have := hpn k; have := hpl k; omega)
      have wr := QL (cq sp c k) (by have := hrb k; omega)
      refine W.sq ?_
      simp (config := { maxSteps := 1000000 }) only[go_sem, d8, hs, aa]
      refine W.cond (t := false) (by simp (config := { maxSteps := 1000000 }) only[go_sem, d8, hs, aa]) ?_
      refine W.draw 9 [0, 0, 2, 7, 0, 0, 32, 112, 15] Tryd.mixed (by kernel_rfl) (by kernel_rfl) ?_
      simp (config := { maxSteps := 1000000 }) only[go_sem, d0, d2, d8, d11, d12, d13, d14, d15, d82, lcx, hil, gn, t1, t2, wp, wr, aa]
  rintro⟨ρ3, Hq⟩ ⟨hHq, q2, q12, q13, q14, q15, q16, q18, q19, q82⟩
  simp only at hHq q2 q12 q13 q14 q15 q16 q18 q19 q82
  rw[hHq]
  have wpl := QL (least + partAt sp c k) (by have := hpn k; have := hpl k; omega)
  have lxa := aq xa
  have iA := aX A
  have iB := aX B
  have iO := aX O
  rw[lA]at iA
  rw[lB]at iB
  rw[lO]at iO
  have sA:setAt (ints A) k [.lit (.int .i64 (least + partAt sp c k))] = ints (A.set k (least + partAt sp c k)) := fo (by omega)
  have sB:setAt (ints B) k [.lit (.int .i64 (cq sp c k))] = ints (B.set k (cq sp c k)) := fo (by omega)
  have sO:setAt (ints O) k [.lit (.int .i64 (k:Int))] = ints (O.set k (k:Int)) := fo (by omega)
  obtain⟨Ha, hHa⟩:∃ Ha, Ha = Hx.upd H.next (.arr 0 3 (ints (A.set k (least + partAt sp c k)))) := ⟨_, rfl⟩
  obtain⟨Hb, hHb⟩:∃ Hb, Hb = Ha.upd (H.next + 1) (.arr 0 3 (ints (B.set k (cq sp c k)))) := ⟨_, rfl⟩
  obtain⟨Ho, hHo⟩:∃ Ho, Ho = Hb.upd (H.next + 2) (.arr 0 3 (ints (O.set k (k:Int)))) := ⟨_, rfl⟩
  have lxb:Ha.live (H.next + 1) 0 = some (3, ints B) := aq (by rw[hHa, ao, QQ (by omega)]; exact xb)
  have lxo:Hb.live (H.next + 2) 0 = some (3, ints O) := aq (by rw[hHb, ao, QQ (by omega), hHa, ao, QQ (by omega)]; exact xo)
  have gax:∀ b:Blk, Hx.upd H.next b = Hx.upd H.next b := fun _ => rfl
  refine W.sq ?_
  simp (config := { maxSteps := 1000000 }) only[go_sem, q2, q13, q14, q15, q16, q18, q19, lxa, iA, wpl, hb2, sA, <- hHa, lxb, iB, sB, <- hHb, lxo, iO, sO, <- hHo, aa]
  have wlk := QL (gZ sp c k - partAt sp c k) (by
    have h1 := hrs k
    have h2 := hpl k
    have h3 := hpn k
    have:sp * (k:Int) <= 720 * 12 := S2 sp0.2 (by omega) (by omega) (by omega)
    omega)
  have wk := QL ((k:Int) + 1) (by omega)
  refine⟨by omega, by omega, by omega, nf _ _ _ (by rfl) ?_⟩
  simp (config := { maxSteps := 1000000 }) only[go_sem, q12, q18, wlk, aa]
  refine W.vs ?_
  simp (config := { maxSteps := 1000000 }) only[go_sem, q82, wk, aa]
  have hn':Ho.next = Hx.next := by rw[hHo, hHb, hHa]; rfl
  refine⟨by omega, ⟨k + 1, A.set k (least + partAt sp c k), B.set k (cq sp c k), O.set k (k:Int), rfl, by omega, by rw[CK], by omega, fun j h => ?_, ?_, ?_, ?_, by simp [lA, lB, lO], fun j hj => ?_⟩, by rw[h82]; simp only[ab, cL]; omega⟩
  · rw[hHo, ao, QQ (by omega), hHb, ao, QQ (by omega), hHa, ao, QQ (by omega)]
    exact hold j h
  · rw[hHo, ao, QQ (by omega), hHb, ao, QQ (by omega), hHa, ao, QN rfl]
  · rw[hHo, ao, QQ (by omega), hHb, ao, QN rfl]
  · rw[hHo, ao, QN rfl]
  · by_cases e:j = k
    · subst e
      exact⟨by rw[Rj (by omega)], by rw[Rj (by omega)], by rw[Rj (by omega)]⟩
    · obtain⟨z1, z2, z3⟩ := hall j (by omega)
      exact⟨by rw[Rl (fun h => e h.symm)]; exact z1, by rw[Rl (fun h => e h.symm)]; exact z2, by rw[Rl (fun h => e h.symm)]; exact z3⟩
def Bo (f:Func):Code := f.body.getD .skip
def p6:Code -> Option Code
  | .seq a b => match p6 a with
    | some c => some c
    | none => p6 b
  | .block _ c => p6 c
  | .rangeFunc _ _ _ body => some body
  | _ => none
set_option maxHeartbeats 8000000 in
theorem NA {cs : List Int} {xs : List (List Int)} {grain prior least : Int} {n v s : Nat} (hd : DataOk cs xs) (hw : j9 cs grain prior least) (hn : n = cs.length) (hv : v < n) (hs : s < 2 ^ n)
    {LB D GB PB LeB NT NB lo:Nat} {Bb:Blk} {Hr:AHeap} {C:List AVal} {J:AHeap -> Prop} {Stop:AX -> AHeap -> Prop} {E:Nat -> AVal}
    (hBb:∃ st pd n' en ps' as' bo, Bb = Blk.loop st pd n' en ps' as' bo) (hLB:Hr.get LB = some Bb) (hlt:LB < Hr.next) (hlo:lo <= Hr.next)
    (gD:Hr.get D = some (.arr 0 50 [ag cs, aD xs])) (gG:Hr.get GB = some (.arr 0 3 [ab grain])) (gP:Hr.get PB = some (.arr 0 3 [ab prior])) (gL:Hr.get LeB = some (.arr 0 3 [ab least]))
    (gT:Hr.get NT = some (.arr 0 61 [ab grain, .own NB 0 0 n 3])) (gB:Hr.get NB = some (.arr 0 91 C)) (hC:C.length = n * 3) (hCf:∀ c ∈ C, ∀ (S:Nat -> Prop) (Hz:AHeap) (nx:Nat), Fz S Hz nx c c)
    (hids:D < Hr.next /\ GB < Hr.next /\ PB < Hr.next /\ LeB < Hr.next /\ NT < Hr.next /\ NB < Hr.next) (hne:NB ≠ LB /\ NB ≠ D /\ NB ≠ GB /\ NB ≠ PB /\ NB ≠ LeB /\ NB ≠ NT)
    (e5:E 5 = .ptr D 0 0) (e7:E 7 = .ptr GB 0 0) (e8:E 8 = .ptr PB 0 0) (e9:E 9 = .ptr LeB 0 0) (e15:E 15 = .ptr NT 0 0) (e16:E 16 = ab v) (e17:E 17 = ag (bK n s))
    (hJ:∀ Hf x, FitN cs xs grain prior least n v s x -> Hr.next <= Hf.next -> (∀ id, id < Hr.next -> id ≠ NB -> Hf.get id = Hr.get id) -> Hf.get NB = some (.arr 0 91 (setAt C (v * 3) x.cells)) -> J Hf)
    (code:Code) (hcode:p6 (Bo Tryd.f19) = some code):W Tryd.prog G0 146 (some LB) code (mH LB Bb lo J Stop) ⟨E, Hr⟩ := by
  simp only[p6, Bo, Tryd.f19, Option.getD_some]at hcode
  obtain rfl := Option.some.inj hcode
  clear hcode
  obtain⟨st, pd, n', en, ps', as', bo, hBe⟩ := hBb
  have rdH:∀ Hz:AHeap, Hz.get LB = some Bb -> dc Hz (some LB) := fun Hz h => ⟨st, pd, n', en, ps', as', bo, by rw[h, hBe]⟩
  obtain⟨⟨g1, g60⟩, ⟨p0, p10⟩, ⟨l0, lg⟩, lc⟩ := hw
  obtain⟨P, hP⟩:∃ P, P = bK n s := ⟨_, rfl⟩
  rw[<- hP]at e17
  have c6 := hd.c1
  have hpar:ParIn cs P := ⟨fun p hp => by rw[hP]at hp; have := pY p hp; omega, by rw[hP]; have := tp n s; omega, hd.card⟩
  obtain⟨c, hcv⟩ := get_of_lt (l := cs) (i := v) (by omega)
  have hcn := aM hcv
  have c4 := hd.card c (an hcv)
  have hcd := aH (d := 0) hcv
  have hvc:(v:Int) < cs.length := by omega
  have lD := aq gD
  obtain⟨R, hR⟩:∃ R:Nat, (R:Int) = aQ (aI cs P) := ⟨(aQ (aI cs P)).toNat, by have := hpar.prod (aI cs P).length; rw[QP (Nat.le_refl _)]at this; omega⟩
  have hRb:R <= 4096 := by have := hpar.prod (aI cs P).length; rw[QP (Nat.le_refl _)]at this; omega
  obtain⟨cn, hcn'⟩:∃ cn:Nat, (cn:Int) = c := ⟨c.toNat, by omega⟩
  obtain⟨T, hT⟩:∃ T:Nat -> List Int, T = fun j => cR cs P v xs prior j := ⟨_, rfl⟩
  have Tl:∀ j, (T j).length = cn := fun j => by rw[hT]; show (cR _ _ _ _ _ _).length = _; rw[oe, hcd]; omega
  have Tg:∀ j k, k < cn -> (T j)[k]? = some (prior + (dB cs P v xs ((j:Int) * c + k):Int)) := fun j k hk => by rw[hT]; show (cR _ _ _ _ _ _)[k]? = _; rw[tq (by rw[hcd]; omega), hcd]
  have Tr:∀ j, ∀ x ∈ T j, 0 <= x /\ x <= 50 := fun j => by rw[hT]; exact BG ⟨p0, p10⟩ hd.x1
  refine W.tU (Q' := fun e s2 => e = .normal /\ Hr.next <= s2.H.next /\ (∀ id, id < Hr.next -> id ≠ NB -> s2.H.get id = Hr.get id) /\ ∃ (rv:AVal) (rows:List (List Int)), s2.H.get NB = some (.arr 0 91 (setAt C (v * 3) [ab c, ag P, rv])) /\ cX Hr.next s2.H 22 3 rv (rows.map ints) /\ rows.length = R /\ ∀ (j:Nat) (r:List Int), rows[j]? = some r -> gu least (cZ grain least (T j)) (T j) r) ?_ ?_
  · refine W.block ?_
    refine W.sq ?_
    simp (config := { maxSteps := 1000000 }) only[go_sem, e5, e16, e17, lD, hcv, hcn, hvc, aa]
    obtain⟨H1, hH1⟩:∃ H1, H1 = ext Hr [.arr 0 91 [.lit (.int .i64 c), .vec P.length (ints P), .lit (.slice none 0 0)]] := ⟨_, rfl⟩
    have n1:H1.next = Hr.next + 1 := by rw[hH1]; rfl
    have o1:Over Hr H1 := by rw[hH1]; exact .ext _ _
    have g18:H1.get Hr.next = some (.arr 0 91 [.lit (.int .i64 c), .vec P.length (ints P), .lit (.slice none 0 0)]) := by rw[hH1]; exact cQ
    refine W.env fun E1 hE1 => ?_
    have f5:E1 5 = .ptr D 0 0 := by rw[hE1]; simp (config := { maxSteps := 1000000 }) only[go_sem, e5, aa]
    have f7:E1 7 = .ptr GB 0 0 := by rw[hE1]; simp (config := { maxSteps := 1000000 }) only[go_sem, e7, aa]
    have f8:E1 8 = .ptr PB 0 0 := by rw[hE1]; simp (config := { maxSteps := 1000000 }) only[go_sem, e8, aa]
    have f9:E1 9 = .ptr LeB 0 0 := by rw[hE1]; simp (config := { maxSteps := 1000000 }) only[go_sem, e9, aa]
    have f15:E1 15 = .ptr NT 0 0 := by rw[hE1]; simp (config := { maxSteps := 1000000 }) only[go_sem, e15, aa]
    have f16:E1 16 = ab v := by rw[hE1]; simp (config := { maxSteps := 1000000 }) only[go_sem, e16, aa]
    have f17:E1 17 = ag P := by rw[hE1]; simp (config := { maxSteps := 1000000 }) only[go_sem, e17, aa]
    have f18:E1 18 = .ptr Hr.next 0 0 := by rw[hE1]; simp (config := { maxSteps := 1000000 }) only[go_sem, aa]
    clear hE1
    rw[<- hH1]
    clear hH1
    have lD1 := (o1.live (g := 0) hids.1).trans lD
    refine W.sq ?_
    simp (config := { maxSteps := 1000000 }) only[go_sem, f5, f16, f17, lD1, aa]
    refine aG.clo (Nv hpar hd (v := v) (by omega) _ _ fun m H4 es o4 m1 m2 gm hes => ⟨rdH _ ((o4.old _ (by omega)).trans ((o1.old _ hlt).trans hLB)), ?_⟩)
    simp (config := { maxSteps := 1000000 }) only[go_sem, aa]
    refine W.env fun E2 hE2 => ?_
    have a5:E2 5 = .ptr D 0 0 := by rw[hE2]; simp (config := { maxSteps := 1000000 }) only[go_sem, f5, aa]
    have a7:E2 7 = .ptr GB 0 0 := by rw[hE2]; simp (config := { maxSteps := 1000000 }) only[go_sem, f7, aa]
    have a8:E2 8 = .ptr PB 0 0 := by rw[hE2]; simp (config := { maxSteps := 1000000 }) only[go_sem, f8, aa]
    have a9:E2 9 = .ptr LeB 0 0 := by rw[hE2]; simp (config := { maxSteps := 1000000 }) only[go_sem, f9, aa]
    have a15:E2 15 = .ptr NT 0 0 := by rw[hE2]; simp (config := { maxSteps := 1000000 }) only[go_sem, f15, aa]
    have a16:E2 16 = ab v := by rw[hE2]; simp (config := { maxSteps := 1000000 }) only[go_sem, f16, aa]
    have a18:E2 18 = .ptr Hr.next 0 0 := by rw[hE2]; simp (config := { maxSteps := 1000000 }) only[go_sem, f18, aa]
    have a19:E2 19 = .yld m := by rw[hE2]; simp (config := { maxSteps := 1000000 }) only[go_sem, aa]
    have a20:E2 20 = ab R := by rw[hE2, hR]; simp (config := { maxSteps := 1000000 }) only[go_sem, aa]
    clear hE2
    have o4n := o4.next
    have h4:∀ id, id < Hr.next -> H4.get id = Hr.get id := fun id h => (o4.old id (by omega)).trans (o1.old id h)
    have g418:H4.get Hr.next = some (.arr 0 91 [.lit (.int .i64 c), .vec P.length (ints P), .lit (.slice none 0 0)]) := (o4.old _ (by omega)).trans g18
    refine W.eH (fun s' => s'.ρ 15 = .ptr NT 0 0 /\ s'.ρ 16 = ab v /\ s'.ρ 18 = .ptr Hr.next 0 0 /\ H4.next <= s'.H.next /\ (∀ id, id < H4.next -> id ≠ Hr.next -> s'.H.get id = H4.get id) /\ ∃ (rv:AVal) (rows:List (List Int)), s'.H.get Hr.next = some (.arr 0 91 [.lit (.int .i64 c), .vec P.length (ints P), rv]) /\ cX H4.next s'.H 22 3 rv (rows.map ints) /\ rows.length = R /\ ∀ (j:Nat) (r:List Int), rows[j]? = some r -> gu least (cZ grain least (T j)) (T j) r) ?_ ?_
    · refine W.sq ?_
      simp (config := { maxSteps := 1000000 }) only[go_sem, a20, aa]
      refine W.block ?_
      refine W.aR 1393796574908005490020953863365335571234816 (by rfl) (fun ρ Hy => ∃ (j:Nat) (rv:AVal) (rows:List (List Int)), ρ 97 = ab j /\ j <= R /\ H4.next <= Hy.next /\ (∀ id, id < H4.next -> id ≠ Hr.next -> Hy.get id = H4.get id) /\ Hy.get Hr.next = some (.arr 0 91 [.lit (.int .i64 c), .vec P.length (ints P), rv]) /\ cX H4.next Hy 22 3 rv (rows.map ints) /\ rows.length = j /\ ∀ (i:Nat) (r:List Int), rows[i]? = some r -> gu least (cZ grain least (T i)) (T i) r) (fun ρ H => R - (iv (ρ 97)).toNat) ?_ ?_
      · simp (config := { maxSteps := 1000000 }) only[go_sem, aa]
        exact⟨0, _, [], rfl, by omega, g418, .nil, rfl, fun i r h => by simp at h⟩
      rintro ρ Hy ⟨j, rv, rows, h97, hj, hny, holdy, gy, hD2, hrl, hrow⟩
      refine W.env fun E3 hE3 => ?_
      have b7:E3 7 = .ptr GB 0 0 := by rw[hE3]; simp (config := { maxSteps := 1000000 }) only[go_sem, a7, aa]
      have b8:E3 8 = .ptr PB 0 0 := by rw[hE3]; simp (config := { maxSteps := 1000000 }) only[go_sem, a8, aa]
      have b9:E3 9 = .ptr LeB 0 0 := by rw[hE3]; simp (config := { maxSteps := 1000000 }) only[go_sem, a9, aa]
      have b15:E3 15 = .ptr NT 0 0 := by rw[hE3]; simp (config := { maxSteps := 1000000 }) only[go_sem, a15, aa]
      have b16:E3 16 = ab v := by rw[hE3]; simp (config := { maxSteps := 1000000 }) only[go_sem, a16, aa]
      have b18:E3 18 = .ptr Hr.next 0 0 := by rw[hE3]; simp (config := { maxSteps := 1000000 }) only[go_sem, a18, aa]
      have b19:E3 19 = .yld m := by rw[hE3]; simp (config := { maxSteps := 1000000 }) only[go_sem, a19, aa]
      have b96:E3 96 = ab R := by rw[hE3]; simp (config := { maxSteps := 1000000 }) only[go_sem, a20, aa]
      have b97:E3 97 = ab j := by rw[hE3]; simp (config := { maxSteps := 1000000 }) only[go_sem, h97, aa]
      clear hE3
      have ly := aq gy
      by_cases hb:(j:Int) < R
      rotate_left
      · refine W.vs ?_
        simp (config := { maxSteps := 1000000 }) only[go_sem, b15, b16, b18, b96, b97, hb, aa]
        exact⟨hny, holdy, rv, rows, gy, hD2, by omega, hrow⟩
      refine W.sq ?_
      simp (config := { maxSteps := 1000000 }) only[go_sem, b96, b97, hb, aa]
      refine W.sq ?_
      simp (config := { maxSteps := 1000000 }) only[go_sem, aa]
      refine W.seq (W.block ?_)
      refine W.sq ?_
      simp (config := { maxSteps := 1000000 }) only[go_sem, b97, aa]
      refine W.sq ?_
      simp (config := { maxSteps := 1000000 }) only[go_sem, b18, ly, <- hcn', aa]
      refine⟨by omega, ?_⟩
      obtain⟨Hc, hHc⟩:∃ Hc, Hc = ext Hy [.arr 0 3 (List.replicate cn (AVal.lit (.int .i64 0)))] := ⟨_, rfl⟩
      have nc:Hc.next = Hy.next + 1 := by rw[hHc]; rfl
      have oc:Over Hy Hc := by rw[hHc]; exact .ext _ _
      have gc0:Hc.get Hy.next = some (.arr 0 3 (ints (List.replicate cn 0))) := by rw[hHc, show ints (List.replicate cn 0) = List.replicate cn (AVal.lit (.int .i64 0)) by simp [ints, ab]]; exact cQ
      refine W.env fun E4 hE4 => ?_
      have d7:E4 7 = .ptr GB 0 0 := by rw[hE4]; simp (config := { maxSteps := 1000000 }) only[go_sem, b7, aa]
      have d8:E4 8 = .ptr PB 0 0 := by rw[hE4]; simp (config := { maxSteps := 1000000 }) only[go_sem, b8, aa]
      have d9:E4 9 = .ptr LeB 0 0 := by rw[hE4]; simp (config := { maxSteps := 1000000 }) only[go_sem, b9, aa]
      have d15:E4 15 = .ptr NT 0 0 := by rw[hE4]; simp (config := { maxSteps := 1000000 }) only[go_sem, b15, aa]
      have d16:E4 16 = ab v := by rw[hE4]; simp (config := { maxSteps := 1000000 }) only[go_sem, b16, aa]
      have d18:E4 18 = .ptr Hr.next 0 0 := by rw[hE4]; simp (config := { maxSteps := 1000000 }) only[go_sem, b18, aa]
      have d19:E4 19 = .yld m := by rw[hE4]; simp (config := { maxSteps := 1000000 }) only[go_sem, b19, aa]
      have d21:E4 21 = ab j := by rw[hE4]; simp (config := { maxSteps := 1000000 }) only[go_sem, b97, aa]
      have d22:E4 22 = .own Hy.next 0 0 cn 1 := by rw[hE4]; simp (config := { maxSteps := 1000000 }) only[go_sem, aa]
      have d96:E4 96 = ab R := by rw[hE4]; simp (config := { maxSteps := 1000000 }) only[go_sem, b96, aa]
      have d97:E4 97 = ab j := by rw[hE4]; simp (config := { maxSteps := 1000000 }) only[go_sem, b97, aa]
      clear hE4
      rw[<- hHc]
      clear hHc
      have hpl:∀ id, id < Hr.next -> Hc.get id = Hr.get id := fun id h => (oc.old id (by omega)).trans ((holdy id (by omega) (by omega)).trans (h4 id h))
      refine W.eH (fun s' => s'.ρ 7 = .ptr GB 0 0 /\ s'.ρ 9 = .ptr LeB 0 0 /\ s'.ρ 15 = .ptr NT 0 0 /\ s'.ρ 16 = ab v /\ s'.ρ 18 = .ptr Hr.next 0 0 /\ s'.ρ 22 = .own Hy.next 0 0 cn 1 /\ s'.ρ 96 = ab R /\ s'.ρ 97 = ab j /\ s'.H.next = Hc.next /\ (∀ id, id < Hy.next -> s'.H.get id = Hy.get id) /\ s'.H.get Hy.next = some (.arr 0 3 (ints (T j)))) ?_ ?_
      · have lc0 := aq gc0
        refine W.sq ?_
        simp (config := { maxSteps := 1000000 }) only[go_sem, d22, lc0, aa]
        refine W.block ?_
        refine W.aR 5316871418320456188274380346627194880 (by rfl) (fun ρ2 Hz => ∃ (k:Nat) (C2:List Int), ρ2 105 = ab k /\ k <= cn /\ Hz.next = Hc.next /\ (∀ id, id < Hy.next -> Hz.get id = Hy.get id) /\ Hz.get Hy.next = some (.arr 0 3 (ints C2)) /\ C2.length = cn /\ C2.take k = (T j).take k) (fun ρ2 H => cn - (iv (ρ2 105)).toNat) ?_ ?_
        · simp (config := { maxSteps := 1000000 }) only[go_sem, aa]
          exact⟨0, _, rfl, by omega, fun id h => oc.old id h, gc0, by simp, rfl⟩
        rintro ρ2 Hz ⟨k, C2, h105, hk, hnz, holdz, gz, hc2, htk⟩
        have hold2:∀ id, id < Hr.next -> Hz.get id = Hr.get id := fun id h => (holdz id (by omega)).trans ((holdy id (by omega) (by omega)).trans (h4 id h))
        have rdz:dc Hz (some LB) := rdH _ ((hold2 _ hlt).trans hLB)
        refine W.env fun E5 hE5 => ?_
        have k7:E5 7 = .ptr GB 0 0 := by rw[hE5]; simp (config := { maxSteps := 1000000 }) only[go_sem, d7, aa]
        have k8:E5 8 = .ptr PB 0 0 := by rw[hE5]; simp (config := { maxSteps := 1000000 }) only[go_sem, d8, aa]
        have k9:E5 9 = .ptr LeB 0 0 := by rw[hE5]; simp (config := { maxSteps := 1000000 }) only[go_sem, d9, aa]
        have k15:E5 15 = .ptr NT 0 0 := by rw[hE5]; simp (config := { maxSteps := 1000000 }) only[go_sem, d15, aa]
        have k16:E5 16 = ab v := by rw[hE5]; simp (config := { maxSteps := 1000000 }) only[go_sem, d16, aa]
        have k18:E5 18 = .ptr Hr.next 0 0 := by rw[hE5]; simp (config := { maxSteps := 1000000 }) only[go_sem, d18, aa]
        have k19:E5 19 = .yld m := by rw[hE5]; simp (config := { maxSteps := 1000000 }) only[go_sem, d19, aa]
        have k21:E5 21 = ab j := by rw[hE5]; simp (config := { maxSteps := 1000000 }) only[go_sem, d21, aa]
        have k22:E5 22 = .own Hy.next 0 0 cn 1 := by rw[hE5]; simp (config := { maxSteps := 1000000 }) only[go_sem, d22, aa]
        have k96:E5 96 = ab R := by rw[hE5]; simp (config := { maxSteps := 1000000 }) only[go_sem, d96, aa]
        have k97:E5 97 = ab j := by rw[hE5]; simp (config := { maxSteps := 1000000 }) only[go_sem, d97, aa]
        have k104:E5 104 = ab cn := by rw[hE5]; simp (config := { maxSteps := 1000000 }) only[go_sem, aa]
        have k105:E5 105 = ab k := by rw[hE5]; simp (config := { maxSteps := 1000000 }) only[go_sem, h105, aa]
        clear hE5
        have lz := aq gz
        have lz18 := aq ((holdz _ (by omega)).trans gy)
        have lzP := aq ((hold2 _ hids.2.2.1).trans gP)
        have gzm:Hz.get m = some (.mp es) := (holdz m (by omega)).trans ((holdy m (by omega) (by omega)).trans gm)
        refine W.vs ?_
        by_cases hb3:(k:Int) < cn
        rotate_left
        · simp (config := { maxSteps := 1000000 }) only[go_sem, k7, k9, k15, k16, k18, k22, k96, k97, k104, k105, hb3, aa]
          obtain rfl:k = cn := by omega
          rw[QP (by omega), QP (by rw[Tl]; exact Nat.le_refl _)]at htk
          rw[htk]at gz
          exact⟨hnz, holdz, gz⟩
        have ct := wU cs P v xs ((j:Int) * c + k)
        have x40 := hd.x1
        have mj:0 <= (j:Int) * c /\ (j:Int) * c <= 4096 * 4 := ⟨Sc (by omega) (by omega), S2 (by omega) (by omega) (by omega) (by omega)⟩
        have u1 := QL ((j:Int) * c) (by omega)
        have u2 := QL ((j:Int) * c + k) (by omega)
        have u3 := QL (prior + (dB cs P v xs ((j:Int) * c + k):Int)) (by omega)
        have w1 := QL ((k:Int) + 1) (by omega)
        have isM:lX Tryd.prog 119 = true := by kernel_rfl
        have hlk:iE Tryd.prog Hz 119 (.yld m) (.lit (.int .i64 ((j:Int) * c + k))) false = some (.lit (.int .i64 (dB cs P v xs ((j:Int) * c + k):Int))) := by
          unfold iE
          rw[QN isM]
          simp only[gzm]
          rw[BC, hes]
        have hkc2:(k:Int) < C2.length := by omega
        simp (config := { maxSteps := 1000000 }) only[go_sem, k8, k18, k19, k21, k22, k104, k105, hb3, lz, lz18, lzP, u1, u2, hlk, u3, hc2, w1, aa]
        refine⟨by omega, by rw[aV]; omega, rdH _ (by rw[ao, QQ (by omega)]; exact(hold2 _ hlt).trans hLB), ⟨k + 1, C2.set k (prior + (dB cs P v xs ((j:Int) * c + k):Int)), rfl, by omega, by rw[aV]; exact hnz, fun id h => by rw[ao, QQ (by omega)]; exact holdz id h, by rw[ao, QN rfl, fo (by omega)], by rw[Q8]; exact hc2, C3 htk (by omega) (Tg j k (by omega))⟩, by rw[h105]; simp only[ab, cL]; omega⟩
      rintro⟨ρ2, Hz⟩ ⟨m7, m9, m15, m16, m18, m22, m96, m97, hnz, holdz, gz⟩
      simp only at m7 m9 m15 m16 m18 m22 m96 m97 hnz holdz gz
      have hold2:∀ id, id < Hr.next -> Hz.get id = Hr.get id := fun id h => (holdz id (by omega)).trans ((holdy id (by omega) (by omega)).trans (h4 id h))
      have lzG := aq ((hold2 _ hids.2.1).trans gG)
      have lzL := aq ((hold2 _ hids.2.2.2.1).trans gL)
      refine W.sq ?_
      simp (config := { maxSteps := 1000000 }) only[go_sem, m7, m9, m22, lzG, lzL, aa]
      have lcc := lc c (an hcv)
      refine aG.clo (Mr (Tl j) (by omega) (by omega) (fun x h => by have := Tr j x h; omega) (by omega) (by omega) Hz gz (by omega) _ (fun hbad => absurd hbad (by rw[hcn']; omega)) fun sh sv H5 hfit hS o5 hO5 => ⟨rdH _ ((o5.old _ (by omega)).trans ((hold2 _ hlt).trans hLB)), ?_⟩)
      have o5n := o5.next
      simp (config := { maxSteps := 1000000 }) only[go_sem, aa]
      have hold5:∀ id, id < Hy.next -> H5.get id = Hy.get id := fun id h => (o5.old id (by omega)).trans (holdz id h)
      have o5y:Over Hy H5 := ⟨by omega, hold5⟩
      have hsv:aF Hy.next H5 3 sv (ints sh) := hO5.keep (by omega) (Nat.le_refl _) fun _ _ _ _ _ _ => rfl
      obtain⟨rv2, H6, hA, hD6, hn6, hp⟩ := cX.app (P := Tryd.prog) (n := H5.next + 1) (t := 48) Tryd.underlying48 Tryd.tj Tryd.tl Tryd.tk (by decide) (by rw[QX]; omega) hD2 o5y hny hsv rfl
      have l5 := aq ((hold5 Hr.next (by omega)).trans gy)
      have l5e:∀ L, (ext H5 L).live Hr.next 0 = _ := fun L => (jb (by omega)).trans l5
      have l6:H6.live Hr.next 0 = _ := aq ((hp _ (by omega) (by omega)).trans ((hold5 Hr.next (by omega)).trans gy))
      have svo := hO5.one
      have svc := hO5.cells
      obtain⟨rvo, rvc⟩ := te hD6
      have w1 := QL ((j:Int) + 1) (by omega)
      refine W.vs ?_
      simp (config := { maxSteps := 1000000 }) only[go_sem, m18, l5, l5e, l6, svo, svc, hA, rvo, rvc]
      refine W.vs ?_
      simp (config := { maxSteps := 1000000 }) only[go_sem, m97, w1, aa]
      refine⟨by rw[aV]; omega, rdH _ (by rw[ao, QQ (by omega), hp _ (by omega) (by omega), hold5 _ (by omega), holdy _ (by omega) (by omega), h4 _ hlt]; exact hLB), ⟨j + 1, rv2, rows ++ [sh], rfl, by omega, by rw[aV]; omega, fun id h1 h2 => by rw[ao, QQ h2, hp _ (by omega) h1, hold5 _ (by omega)]; exact holdy id h1 h2, by rw[ao, QN rfl, hcn'], ?_, by simp [hrl], fun i r hr => ?_⟩, by rw[h97]; simp only[ab, cL]; omega⟩
      · rw[RN]
        exact tf hD6 (by omega)
      · rcases Q3 i rows.length with h | h
        · rw[Q0 h]at hr
          exact hrow i r hr
        · have := get_lt hr
          rw[List.length_append, Sy]at this
          obtain rfl:i = j := by omega
          rw[Q2 h, hrl, R7]at hr
          cases hr
          exact hS
    rintro⟨ρ3, H7⟩ ⟨q15, q16, q18, n7, hold7, rv, rows, g7, hD7, hrl, hrow⟩
    simp only at q15 q16 q18 n7 hold7 g7 hD7
    have hold8:∀ id, id < Hr.next -> H7.get id = Hr.get id := fun id h => (hold7 id (by omega) (by omega)).trans (h4 id h)
    have l7 := aq g7
    have lT7 := aq ((hold8 _ hids.2.2.2.2.1).trans gT)
    have lB7 := aq ((hold8 _ hids.2.2.2.2.2).trans gB)
    obtain⟨rvo, rvc⟩ := te hD7
    have hvn:(v:Int) < n := by omega
    have hCv:v * 3 + 3 <= C.length := by omega
    refine W.vs ?_
    simp (config := { maxSteps := 1000000 }) only[go_sem, q15, q16, q18, l7, lT7, lB7, rvo, rvc, hvn, hCv, aa]
    exact⟨by rw[aV]; omega, fun id h1 h2 => by rw[ao, QQ h2]; exact hold8 id h1, rv, rows, by rw[ao, QN rfl], tf (hD7.lo (by omega)) hids.2.2.2.2.2, hrl, hrow⟩
  · rintro e ⟨ρ2, Hb⟩ ⟨rfl, qn, qold, rv, rows, qB, qD, qrl, qrow⟩
    simp only at qn qold qB qD
    have hob:(setAt C (v * 3) [ab c, ag P, aD rows]).length = (setAt C (v * 3) [ab c, ag P, rv]).length := by simp [setAt]
    refine⟨⟨ρ2, Hb.eP Hr.next NB (.arr 0 91 (setAt C (v * 3) [ab c, ag P, aD rows]))⟩, cH.eP bz qB hids.2.2.2.2.2 hob ?_, Nat.le_refl _, rdH _ (by show (Hb.eP _ _ _).get LB = _; rw[tG hlt (fun e => hne.1 e.symm)]; exact(qold _ hlt (fun e => hne.1 e.symm)).trans hLB), ?_⟩
    · have hfz:Fz (fun id => Hr.next <= id) Hb Hb.next rv (aD rows) := Cw qD.Cu fun i h => h
      have e1:setAt C (v * 3) [ab c, ag P, rv] = (C.take (v * 3) ++ [ab c, ag P]) ++ rv :: C.drop (v * 3 + 3) := by simp [setAt]
      have e2:setAt C (v * 3) [ab c, ag P, aD rows] = (C.take (v * 3) ++ [ab c, ag P]) ++ aD rows :: C.drop (v * 3 + 3) := by simp [setAt]
      rw[e1, e2]
      refine Qo (fun z hz => ?_) hfz fun z hz => hCf z (Tq hz) _ _ _
      rcases Q1.1 hz with hz | hz
      · exact hCf z (Rs hz) _ _ _
      · simp only[List.mem_cons, List.not_mem_nil, or_false]at hz
        rcases hz with rfl | rfl
        · exact .lit _
        · exact .ik _
    · refine⟨by show (Hb.eP _ _ _).get LB = _; rw[tG hlt (fun e => hne.1 e.symm)]; exact(qold _ hlt (fun e => hne.1 e.symm)).trans hLB, by show lo <= Hb.next; omega, ?_⟩
      refine hJ _ ⟨c, P, rows⟩ ⟨by rw[hcd], hP, by rw[<- hP]; show (rows.length:Int) = _; rw[qrl, hR], fun j r hr => ?_⟩ (by show Hr.next <= Hb.next; exact qn) (fun id h1 h2 => by rw[tG h1 h2]; exact qold id h1 h2) (Cj hids.2.2.2.2.2)
      have := qrow j r hr
      rw[hT, hP]at this
      exact this
def ke (n:Nat):List AVal := (List.replicate n [AVal.lit (.int .i64 0), .lit (.slice none 0 0), .lit (.slice none 0 0)]).flatten
theorem BM (n:Nat):ke (n + 1) = [AVal.lit (.int .i64 0), .lit (.slice none 0 0), .lit (.slice none 0 0)] ++ ke n := by unfold ke; rw[Sw, List.flatten_cons]
theorem BN:∀ n:Nat, (ke n).length = n * 3
  | 0 => rfl
  | n + 1 => by rw[BM, List.length_append, BN n]; simp; omega
def iU (n:Nat)(ns:List NodeP):List AVal := aK ns ++ ke (n - ns.length)
theorem NJ {n:Nat}{ns:List NodeP}(h:ns.length <= n):(iU n ns).length = n * 3 := by unfold iU; rw[List.length_append, iy, BN, <- RI]; congr 1; omega
theorem NK {n:Nat}{ns:List NodeP}{x:NodeP}(h:ns.length < n):setAt (iU n ns) (ns.length * 3) x.cells = iU n (ns ++ [x]) := by
  obtain⟨k, hk⟩:∃ k, n - ns.length = k + 1 := ⟨n - ns.length - 1, by omega⟩
  have hk2:n - (ns ++ [x]).length = k := by simp; omega
  have hl := iy ns
  unfold iU setAt
  rw[hk, hk2, BM, show aK (ns ++ [x]) = aK ns ++ x.cells by unfold aK; simp]
  rw[List.take_append_of_le_length (by omega), QP (by omega), List.drop_append, T1 (by rw[hl]; omega), List.nil_append]
  congr 1
  rw[show ns.length * 3 + x.cells.length - (aK ns).length = 3 by rw[hl]; show ns.length * 3 + 3 - _ = 3; omega]
  rfl
theorem wW {n:Nat}{ns:List NodeP}:∀ c ∈ iU n ns, ∀ (S:Nat -> Prop) (Hz:AHeap) (nx:Nat), Fz S Hz nx c c := fun c hc S Hz nx => by
  unfold iU at hc
  rcases Q1.1 hc with hc | hc
  · unfold aK at hc
    obtain⟨r, hr, hc⟩ := R8.1 hc
    obtain⟨x, _, rfl⟩ := Q6.1 hr
    unfold NodeP.cells at hc
    simp only[List.mem_cons, List.not_mem_nil, or_false]at hc
    rcases hc with rfl | rfl | rfl
    · exact .lit _
    · exact .ik _
    · exact xC _
  · unfold ke at hc
    obtain⟨r, hr, hc⟩ := R8.1 hc
    obtain rfl := Su hr
    simp only[List.mem_cons, List.not_mem_nil, or_false]at hc
    rcases hc with rfl | rfl | rfl <;> exact .lit _
theorem wX (ns:List NodeP):iU ns.length ns = aK ns := by unfold iU; rw[R7]; exact List.append_nil _
theorem BO {S:Nat -> Prop}{H:AHeap}{nx:Nat}{g e:Int}{nv:AVal}{ns:List NodeP}(h:Fz S H nx nv (ep ns)):Fz S H nx (.tup [.agg [.lit (.int .i64 g), nv], .lit (.int .i64 e)]) (.tup [dp g ns, ab e]) := by
  refine .tup rfl fun i hi _ => ?_
  match i, hi with
  | 0, _ =>
    refine .agg rfl fun i hi _ => ?_
    match i, hi with
    | 0, _ => exact .lit _
    | 1, _ => exact h
  | 1, _ => exact .lit _
theorem BI {cs:List Int}{grain least:Int}(hc:∀ c ∈ cs, 2 <= c /\ c <= 4):(∀ c ∈ cs, least <= grain / c) ↔ ∀ c ∈ cs, least * c <= grain := by
  constructor
  · intro h c hm
    exact(SV (by have := hc c hm; omega)).1 (h c hm)
  · intro h c hm
    exact(SV (by have := hc c hm; omega)).2 (h c hm)
set_option maxHeartbeats 4000000 in
theorem NC (cs : List Int) (xs : List (List Int)) (hf : n8 cs xs) (ps : List Nat) (hpl : (ps.length : Int) < 2 ^ 39) (hp : ∀ p ∈ ps, p < 2 ^ 64) (grain prior least : Int) (H : AHeap) (K : ARes → AHeap → Prop)
    (hK:∀ g ns, (jt cs xs ps grain prior least = 0 -> g = grain /\ dC cs xs ps grain prior least ps.length ns) -> (jt cs xs ps grain prior least ≠ 0 -> g = 0 /\ ns = []) -> K (.ret (.tup [dp g ns, ab (jt cs xs ps grain prior least)])) H):
    ah Tryd.prog G0 19 [dT cs xs, bS ps, ab grain, ab prior, ab least] H K := by
  refine ah.clo ⟨_, Tryd.func19, rfl, rfl⟩ fun hcl => ?_
  have hf' := hf
  obtain⟨f1, f2, f3⟩ := hf
  have fail:∀ (c:Int) (Hx:AHeap), jt cs xs ps grain prior least = c -> c ≠ 0 -> Over H Hx -> az Tryd.prog G0 H K (.tup [.agg [.lit (.int .i64 0), .lit (.slice none 0 0)], .lit (.int .i64 c)]) Hx := fun c Hx h h0 o => by
    have := hK 0 [] (fun e => absurd (h.symm.trans e) h0) (fun _ => ⟨rfl, rfl⟩)
    rw[h]at this
    exact az.cC bz hcl o (BO .nil) this
  refine ah.dP (n := 146) (rs := [.cell 10 61, .cell 11 27]) Tryd.func19 rfl rfl rfl (by decide) (by simp) ?_
  refine W.sq ?_
  simp (config := { maxSteps := 1000000 }) only[go_sem, dT, aD, aa]
  obtain⟨H1, hH1⟩:∃ H1, H1 = ext H [.arr 0 50 [ag cs, aD xs], .arr 0 3 [ab grain], .arr 0 3 [ab prior], .arr 0 3 [ab least], .arr 0 61 [.lit (.int .i64 0), .lit (.slice none 0 0)], .arr 0 27 [.lit (.int .i64 0)]] := ⟨_, rfl⟩
  have b0:H1.get H.next = some (.arr 0 50 [ag cs, aD xs]) := by rw[hH1]; exact ez ..
  have b1:H1.get (H.next + 1) = some (.arr 0 3 [ab grain]) := by rw[hH1]; exact bP H _ 1 (by simp)
  have b2:H1.get (H.next + 2) = some (.arr 0 3 [ab prior]) := by rw[hH1]; exact bP H _ 2 (by simp)
  have b3:H1.get (H.next + 3) = some (.arr 0 3 [ab least]) := by rw[hH1]; exact bP H _ 3 (by simp)
  have b4:H1.get (H.next + 4) = some (.arr 0 61 [.lit (.int .i64 0), .lit (.slice none 0 0)]) := by rw[hH1]; exact bP H _ 4 (by simp)
  have b5:H1.get (H.next + 5) = some (.arr 0 27 [.lit (.int .i64 0)]) := by rw[hH1]; exact bP H _ 5 (by simp)
  have n1:H1.next = H.next + 6 := by rw[hH1]; rfl
  have o1:Over H H1 := by rw[hH1]; exact .ext _ _
  refine W.env fun E hE => ?_
  have e1:E 1 = bS ps := by rw[hE]; simp (config := { maxSteps := 1000000 }) only[go_sem, aa]
  have e5:E 5 = .ptr H.next 0 0 := by rw[hE]; simp (config := { maxSteps := 1000000 }) only[go_sem, aa]
  have e7:E 7 = .ptr (H.next + 1) 0 0 := by rw[hE]; simp (config := { maxSteps := 1000000 }) only[go_sem, aa]
  have e8:E 8 = .ptr (H.next + 2) 0 0 := by rw[hE]; simp (config := { maxSteps := 1000000 }) only[go_sem, aa]
  have e9:E 9 = .ptr (H.next + 3) 0 0 := by rw[hE]; simp (config := { maxSteps := 1000000 }) only[go_sem, aa]
  have e10:E 10 = .ptr (H.next + 4) 0 0 := by rw[hE]; simp (config := { maxSteps := 1000000 }) only[go_sem, aa]
  have e11:E 11 = .ptr (H.next + 5) 0 0 := by rw[hE]; simp (config := { maxSteps := 1000000 }) only[go_sem, aa]
  clear hE
  show W _ _ _ _ _ _ ⟨E, ext H [.arr 0 50 [ag cs, aD xs], .arr 0 3 [ab grain], .arr 0 3 [ab prior], .arr 0 3 [ab least], .arr 0 61 [.lit (.int .i64 0), .lit (.slice none 0 0)], .arr 0 27 [.lit (.int .i64 0)]]⟩
  rw[<- hH1]
  clear hH1
  have l0 := aq b0
  have l1 := aq b1
  have l2 := aq b2
  have l3 := aq b3
  have l4 := aq b4
  have l5 := aq b5
  have u5:∀ b, (H1.upd (H.next + 4) b).live (H.next + 5) 0 = _ := fun b => (mG (by omega)).trans l5
  have u4:∀ b c, ((H1.upd (H.next + 4) b).upd (H.next + 5) c).live (H.next + 4) 0 = (H1.upd (H.next + 4) b).live (H.next + 4) 0 := fun b c => mG (by omega)
  have oF:∀ b c, Over H ((H1.upd (H.next + 4) b).upd (H.next + 5) c) := fun b c => (o1.upd (by omega) _).upd (by omega) _
  refine W.sq ?_
  simp (config := { maxSteps := 1000000 }) only[go_sem, e5, l0, aa]
  refine aG.clo (A8 cs xs hf' _ _ ⟨trivial, ?_⟩)
  cases hD:eU cs xs
  · simp (config := { maxSteps := 1000000 }) only[go_sem, e10, e11, l4, l5, u5, u4, aa]
    exact fail 250 _ (Ny hD) (by decide) (oF _ _)
  simp (config := { maxSteps := 1000000 }) only[go_sem, aa]
  have dok := A6.1 hD
  have c6 := dok.c1
  have bad:¬ (dU ps cs.length /\ j9 cs grain prior least) -> ∀ b c, az Tryd.prog G0 H K (.tup [.agg [.lit (.int .i64 0), .lit (.slice none 0 0)], .lit (.int .i64 2)]) ((H1.upd (H.next + 4) b).upd (H.next + 5) c) := fun h b c => fail 2 _ (Nz hD h) (by decide) (oF b c)
  refine W.sq ?_
  simp (config := { maxSteps := 1000000 }) only[go_sem, e1, e5, l0, aa]
  refine aG.clo (No ps cs.length c6 hpl hp _ _ ⟨trivial, ?_⟩)
  cases hG:lu ps cs.length
  · simp (config := { maxSteps := 1000000 }) only[go_sem, e10, e11, l4, l5, u5, u4, aJ, aa]
    exact bad (fun h => by rw[BA h.1]at hG; cases hG) _ _
  have gok := Nn.1 hG
  by_cases c1:grain < 1
  · simp (config := { maxSteps := 1000000 }) only[go_sem, e7, l1, e10, e11, l4, l5, u5, u4, c1, aJ, aa]
    exact bad (fun h => by have := h.2.1; omega) _ _
  by_cases c2:grain > 60
  · simp (config := { maxSteps := 1000000 }) only[go_sem, e7, l1, e10, e11, l4, l5, u5, u4, c1, c2, aJ, aa]
    exact bad (fun h => by have := h.2.1; omega) _ _
  simp (config := { maxSteps := 1000000 }) only[go_sem, e7, l1, c1, c2, aJ, aa]
  refine W.env fun E2 hE2 => ?_
  have a1:E2 1 = bS ps := by rw[hE2]; simp (config := { maxSteps := 1000000 }) only[go_sem, e1, aa]
  have a5:E2 5 = .ptr H.next 0 0 := by rw[hE2]; simp (config := { maxSteps := 1000000 }) only[go_sem, e5, aa]
  have a7:E2 7 = .ptr (H.next + 1) 0 0 := by rw[hE2]; simp (config := { maxSteps := 1000000 }) only[go_sem, e7, aa]
  have a8:E2 8 = .ptr (H.next + 2) 0 0 := by rw[hE2]; simp (config := { maxSteps := 1000000 }) only[go_sem, e8, aa]
  have a9:E2 9 = .ptr (H.next + 3) 0 0 := by rw[hE2]; simp (config := { maxSteps := 1000000 }) only[go_sem, e9, aa]
  have a10:E2 10 = .ptr (H.next + 4) 0 0 := by rw[hE2]; simp (config := { maxSteps := 1000000 }) only[go_sem, e10, aa]
  have a11:E2 11 = .ptr (H.next + 5) 0 0 := by rw[hE2]; simp (config := { maxSteps := 1000000 }) only[go_sem, e11, aa]
  clear hE2
  refine W.sq ?_
  by_cases c3:prior < 0
  · simp (config := { maxSteps := 1000000 }) only[go_sem, a8, l2, a10, a11, l4, l5, u5, u4, c3, aJ, aa]
    exact bad (fun h => by have := h.2.2.1; omega) _ _
  by_cases c4:prior > 10
  · simp (config := { maxSteps := 1000000 }) only[go_sem, a8, l2, a10, a11, l4, l5, u5, u4, c3, c4, aJ, aa]
    exact bad (fun h => by have := h.2.2.1; omega) _ _
  by_cases c5:least < 0
  · simp (config := { maxSteps := 1000000 }) only[go_sem, a8, a9, l2, l3, a10, a11, l4, l5, u5, u4, c3, c4, c5, aJ, aa]
    exact bad (fun h => by have := h.2.2.2.1; omega) _ _
  simp (config := { maxSteps := 1000000 }) only[go_sem, a8, a9, l2, l3, c3, c4, c5, aJ, aa]
  refine W.env fun E3 hE3 => ?_
  have d1:E3 1 = bS ps := by rw[hE3]; simp (config := { maxSteps := 1000000 }) only[go_sem, a1, aa]
  have d5:E3 5 = .ptr H.next 0 0 := by rw[hE3]; simp (config := { maxSteps := 1000000 }) only[go_sem, a5, aa]
  have d7:E3 7 = .ptr (H.next + 1) 0 0 := by rw[hE3]; simp (config := { maxSteps := 1000000 }) only[go_sem, a7, aa]
  have d8:E3 8 = .ptr (H.next + 2) 0 0 := by rw[hE3]; simp (config := { maxSteps := 1000000 }) only[go_sem, a8, aa]
  have d9:E3 9 = .ptr (H.next + 3) 0 0 := by rw[hE3]; simp (config := { maxSteps := 1000000 }) only[go_sem, a9, aa]
  have d10:E3 10 = .ptr (H.next + 4) 0 0 := by rw[hE3]; simp (config := { maxSteps := 1000000 }) only[go_sem, a10, aa]
  have d11:E3 11 = .ptr (H.next + 5) 0 0 := by rw[hE3]; simp (config := { maxSteps := 1000000 }) only[go_sem, a11, aa]
  clear hE3
  refine W.sq ?_
  simp (config := { maxSteps := 1000000 }) only[go_sem, d5, l0, aa]
  refine W.aR 4720060639860431536128 (by rfl) (fun ρ H' => H' = H1 /\ ∃ k:Nat, ρ 61 = ab k /\ k <= cs.length /\ ∀ c ∈ cs.take k, least <= grain / c) (fun ρ H => cs.length - (iv (ρ 61)).toNat) ?_ ?_
  · simp (config := { maxSteps := 1000000 }) only[go_sem, aa]
    exact⟨0, rfl, by omega, by simp⟩
  rintro ρ H' ⟨rfl, k, h61, hk, hall⟩
  refine W.vs ?_
  by_cases hb:(k:Int) < cs.length
  · obtain⟨c, hc⟩ := get_of_lt (l := cs) (i := k) (by omega)
    have hcm := an hc
    have hcn := aM hc
    have c24 := dok.card c hcm
    have td:grain.tdiv c = grain / c := RS (by omega)
    have cz:¬ c = 0 := by omega
    have q1:0 <= grain / c := S7 (by omega) (by omega)
    have q2:grain / c <= grain := Int.ediv_le_self _ (by omega)
    have wq := QL (grain / c) (by omega)
    simp (config := { maxSteps := 1000000 }) only[go_sem, h61, hb, hc, hcn, aa]
    refine W.draw 4 [0, 0, 0, 6] Tryd.mixed (by kernel_rfl) (by kernel_rfl) ?_
    by_cases hle:least > grain / c
    · simp (config := { maxSteps := 1000000 }) only[go_sem, d7, d9, d10, d11, l1, l3, l4, l5, u5, u4, td, cz, wq, hle, aa]
      exact bad (fun h => by have := (BI dok.card).2 h.2.2.2.2 c hcm; omega) _ _
    · have w1 := QL ((k:Int) + 1) (by omega)
      simp (config := { maxSteps := 1000000 }) only[go_sem, d7, d9, l1, l3, td, cz, wq, hle, h61, w1, aa]
      refine⟨⟨k + 1, rfl, by omega, fun q hq => ?_⟩, by omega⟩
      rw[aU hc]at hq
      rcases Q1.1 hq with hq | hq
      · exact hall q hq
      · obtain rfl := List.mem_singleton.1 hq; omega
  rw[QP (by omega)]at hall
  have hlec := (BI dok.card).1 hall
  have wok:j9 cs grain prior least := by
    refine⟨by omega, by omega, ⟨by omega, ?_⟩, hlec⟩
    obtain⟨c, hc⟩ := get_of_lt (l := cs) (i := 0) (by omega)
    have h1 := hlec c (an hc)
    have h2 := dok.card c (an hc)
    have h3:least * 1 <= least * c := RV (by omega) (by omega)
    omega
  have hE0 := BH (xs := xs) hD ⟨gok, wok⟩
  simp (config := { maxSteps := 1000000 }) only[go_sem, h61, hb, aa]
  refine W.env fun E4 hE4 => ?_
  have f1':E4 1 = bS ps := by rw[hE4]; simp (config := { maxSteps := 1000000 }) only[go_sem, d1, aa]
  have f5:E4 5 = .ptr H.next 0 0 := by rw[hE4]; simp (config := { maxSteps := 1000000 }) only[go_sem, d5, aa]
  have f7:E4 7 = .ptr (H.next + 1) 0 0 := by rw[hE4]; simp (config := { maxSteps := 1000000 }) only[go_sem, d7, aa]
  have f8:E4 8 = .ptr (H.next + 2) 0 0 := by rw[hE4]; simp (config := { maxSteps := 1000000 }) only[go_sem, d8, aa]
  have f9:E4 9 = .ptr (H.next + 3) 0 0 := by rw[hE4]; simp (config := { maxSteps := 1000000 }) only[go_sem, d9, aa]
  have f10:E4 10 = .ptr (H.next + 4) 0 0 := by rw[hE4]; simp (config := { maxSteps := 1000000 }) only[go_sem, d10, aa]
  have f11:E4 11 = .ptr (H.next + 5) 0 0 := by rw[hE4]; simp (config := { maxSteps := 1000000 }) only[go_sem, d11, aa]
  clear hE4
  obtain⟨n, hn⟩:∃ n, n = cs.length := ⟨_, rfl⟩
  rw[hn.symm]at c6
  refine W.seq ?_
  refine W.draw 7 [0, 0, 2, 6, 14, 31, 0] Tryd.mixed (by kernel_rfl) (by kernel_rfl) ?_
  simp (config := { maxSteps := 1000000 }) only[go_sem, f5, f7, l0, l1, hn.symm, aa]
  refine⟨⟨by omega, by omega⟩, fun _ h => by omega, ⟨fun _ h => by omega, fun _ h => by omega, fun _ h => by omega⟩, ?_⟩
  obtain⟨H2, hH2⟩:∃ H2, H2 = ext (ext H' [.arr 0 91 (ke n)]) [.arr 0 61 [.lit (.int .i64 grain), .own H'.next 0 0 n 3]] := ⟨_, rfl⟩
  have n2:H2.next = H'.next + 2 := by rw[hH2]; rfl
  have o2:Over H' H2 := by rw[hH2]; exact(Over.ext _ _).trans (.ext _ _)
  have g6:H2.get H'.next = some (.arr 0 91 (ke n)) := by rw[hH2, im (by rw[dk]; simp)]; exact cQ
  have g7:H2.get (H'.next + 1) = some (.arr 0 61 [.lit (.int .i64 grain), .own H'.next 0 0 n 3]) := by rw[hH2]; exact cQ (H := ext H' [_])
  refine W.env fun E5 hE5 => ?_
  have h1:E5 1 = bS ps := by rw[hE5]; simp (config := { maxSteps := 1000000 }) only[go_sem, f1', aa]
  have h5:E5 5 = .ptr H.next 0 0 := by rw[hE5]; simp (config := { maxSteps := 1000000 }) only[go_sem, f5, aa]
  have h7:E5 7 = .ptr (H.next + 1) 0 0 := by rw[hE5]; simp (config := { maxSteps := 1000000 }) only[go_sem, f7, aa]
  have h8:E5 8 = .ptr (H.next + 2) 0 0 := by rw[hE5]; simp (config := { maxSteps := 1000000 }) only[go_sem, f8, aa]
  have h9:E5 9 = .ptr (H.next + 3) 0 0 := by rw[hE5]; simp (config := { maxSteps := 1000000 }) only[go_sem, f9, aa]
  have h10:E5 10 = .ptr (H.next + 4) 0 0 := by rw[hE5]; simp (config := { maxSteps := 1000000 }) only[go_sem, f10, aa]
  have h11:E5 11 = .ptr (H.next + 5) 0 0 := by rw[hE5]; simp (config := { maxSteps := 1000000 }) only[go_sem, f11, aa]
  have h15:E5 15 = .ptr (H'.next + 1) 0 0 := by rw[hE5]; simp (config := { maxSteps := 1000000 }) only[go_sem, aa]
  clear hE5
  show W _ _ _ _ _ _ ⟨E5, ext (ext H' [.arr 0 91 (ke n)]) [.arr 0 61 [.lit (.int .i64 grain), .own H'.next 0 0 n 3]]⟩
  rw[<- hH2]
  clear hH2
  refine W.sq ?_
  simp (config := { maxSteps := 1000000 }) only[go_sem, h1, aa]
  refine aG.clo (Nx ps _ _ ⟨trivial, ?_⟩)
  simp (config := { maxSteps := 1000000 }) only[go_sem, aa]
  obtain⟨H3, hH3⟩:∃ H3, H3 = ext H2 [.arr 0 44 [bS ps]] := ⟨_, rfl⟩
  have n3:H3.next = H2.next + 1 := by rw[hH3]; rfl
  have o3:Over H2 H3 := by rw[hH3]; exact .ext _ _
  have g8:H3.get H2.next = some (.arr 0 44 [bS ps]) := by rw[hH3]; exact cQ
  have o23 := o2.trans o3
  refine W.env fun E6 hE6 => ?_
  have k5:E6 5 = .ptr H.next 0 0 := by rw[hE6]; simp (config := { maxSteps := 1000000 }) only[go_sem, h5, aa]
  have k7:E6 7 = .ptr (H.next + 1) 0 0 := by rw[hE6]; simp (config := { maxSteps := 1000000 }) only[go_sem, h7, aa]
  have k8:E6 8 = .ptr (H.next + 2) 0 0 := by rw[hE6]; simp (config := { maxSteps := 1000000 }) only[go_sem, h8, aa]
  have k9:E6 9 = .ptr (H.next + 3) 0 0 := by rw[hE6]; simp (config := { maxSteps := 1000000 }) only[go_sem, h9, aa]
  have k10:E6 10 = .ptr (H.next + 4) 0 0 := by rw[hE6]; simp (config := { maxSteps := 1000000 }) only[go_sem, h10, aa]
  have k11:E6 11 = .ptr (H.next + 5) 0 0 := by rw[hE6]; simp (config := { maxSteps := 1000000 }) only[go_sem, h11, aa]
  have k15:E6 15 = .ptr (H'.next + 1) 0 0 := by rw[hE6]; simp (config := { maxSteps := 1000000 }) only[go_sem, h15, aa]
  have k79:E6 79 = .clo 82 [] [.ptr H2.next 0 0] := by rw[hE6]; simp (config := { maxSteps := 1000000 }) only[go_sem, aa]
  clear hE6
  show W _ _ _ _ _ _ ⟨E6, ext H2 [.arr 0 44 [bS ps]]⟩
  rw[<- hH3]
  clear hH3
  have hpl6:ps.length = n := by rw[hn]; exact gok.1
  have hps2:∀ p ∈ ps, p < 2 ^ n := by rw[hn]; exact gok.2.1
  have hit := Nw ps hp (by omega) H2.next (H3.next + 1) (by omega)
  have base:∀ id, id < H2.next -> H3.get id = H2.get id := fun id h => o3.old id h
  refine W.Qp (f := 82) (first := []) (cap := [.ptr H2.next 0 0]) (by show E6 79 = _; exact k79) hit
    (fun k Hx => H3.next < Hx.next /\ (∀ id, id < H3.next -> id ≠ H'.next -> Hx.get id = H3.get id) /\ ∃ ns, dC cs xs ps grain prior least k ns /\ Hx.get H'.next = some (.arr 0 91 (iU n ns)))
    (fun _ _ => False)
    (fun k Hx h => (h.2.1 _ (by omega) (by omega)).trans g8)
    (fun k Ha Hb h hw => ⟨by have := hw.1; have := h.1; omega, fun id h1 h2 => (hw.2 _ (by omega) (by have := h.1; omega)).trans (h.2.1 id h1 h2), by
      obtain⟨ns, a1, a2⟩ := h.2.2
      exact⟨ns, a1, (hw.2 _ (by omega) (by have := h.1; omega)).trans a2⟩⟩)
    (fun k Hx h => h.1)
    (fun k Ha b h => ⟨h.1, fun id h1 h2 => by rw[ao, QQ (by omega)]; exact h.2.1 id h1 h2, by
      obtain⟨ns, a1, a2⟩ := h.2.2
      exact⟨ns, a1, by rw[ao, QQ (by omega)]; exact a2⟩⟩)
    (fun _ _ _ h => h) (fun _ _ _ _ => trivial)
    (fun b => ⟨by rw[dk]; simp, fun id h1 h2 => im h1, [], ⟨rfl, fun v s x _ h => by simp at h⟩, by rw[im (by omega), base _ (by omega), g6]; rfl⟩) (by decide)
    (fun x hx => by
      obtain⟨v, _, rfl⟩ := Q6.1 hx
      rfl) (fun _ _ _ => trivial) (fun _ _ _ => trivial) (fun k y Hx B Bb hy hj _ hnn hB hBb => ?_) (fun Hx hj hnn => ?_) (fun _ hs _ => hs.elim) (fun _ _ hs _ => hs.elim)
  · have hk:k < ps.length := by have := get_lt hy; rw[wV]at this; exact this
    obtain⟨s, hs⟩ := get_of_lt hk
    rw[BF hs]at hy
    cases hy
    refine W.vs ?_
    simp (config := { maxSteps := 1000000 }) only[go_sem, kM, dz, tT, Ss, List.foldl_nil, Te, List.zip_nil_right, hB, aa]
    obtain⟨Hr, hHr⟩:∃ Hr, Hr = Hx.upd H3.next Bb := ⟨_, rfl⟩
    have nr:Hr.next = Hx.next := by rw[hHr]; rfl
    have or3:∀ id, id ≠ H3.next -> Hr.get id = Hx.get id := fun id h => by rw[hHr, ao, QQ h]
    have jB:Hr.get H3.next = some Bb := by rw[hHr, ao, QN rfl]
    obtain⟨hj1, hj2, ns, hfk, hgB⟩ := hj
    have old:∀ id, id < H'.next -> Hr.get id = H'.get id := fun id h => (or3 _ (by omega)).trans ((hj2 id (by omega) (by omega)).trans (o23.old id h))
    rw[<- hHr]
    have hnl:ns.length = k := hfk.1
    have hs2 := hps2 s (an hs)
    rw[hpl6]
    refine NA (v := k) (s := s) (n := n) (C := iU n ns) (NT := H'.next + 1) (NB := H'.next) dok wok hn (by omega) hs2 hBb jB (by omega) (by omega) ((old _ (by omega)).trans b0) ((old _ (by omega)).trans b1) ((old _ (by omega)).trans b2) ((old _ (by omega)).trans b3) ((or3 _ (by omega)).trans ((hj2 _ (by omega) (by omega)).trans ((base _ (by omega)).trans g7))) ((or3 _ (by omega)).trans hgB) (NJ (by omega)) wW ⟨by omega, by omega, by omega, by omega, by omega, by omega⟩ ⟨by omega, by omega, by omega, by omega, by omega, by omega⟩ (by simp (config := { maxSteps := 1000000 }) only[go_sem, dz, k5, aa]) (by simp (config := { maxSteps := 1000000 }) only[go_sem, dz, k7, aa]) (by simp (config := { maxSteps := 1000000 }) only[go_sem, dz, k8, aa]) (by simp (config := { maxSteps := 1000000 }) only[go_sem, dz, k9, aa]) (by simp (config := { maxSteps := 1000000 }) only[go_sem, dz, k15, aa]) (by simp (config := { maxSteps := 1000000 }) only[go_sem, aa]) (by simp (config := { maxSteps := 1000000 }) only[go_sem, aa]) (fun Hf x hx hq1 hq2 hq3 => ?_) _ (by kernel_rfl)
    refine⟨by omega, fun id h1 h2 => ?_, ns ++ [x], hfk.snoc hs (by rw[hpl6]; exact hx), ?_⟩
    · rw[hq2 id (by omega) h2, or3 id (by omega)]
      exact hj2 id h1 h2
    · rw[hq3, <- hnl, NK (by omega)]
  · rw[wV]at hj
    obtain⟨hj1, hj2, ns, hfk, hgB⟩ := hj
    have hnl:ns.length = n := by rw[<- hpl6]; exact hfk.1
    have old:∀ id, id < H'.next -> Hx.get id = H'.get id := fun id h => (hj2 id (by omega) (by omega)).trans (o23.old id h)
    have x7 := aq ((hj2 (H'.next + 1) (by omega) (by omega)).trans ((base _ (by omega)).trans g7))
    have x4 := aq ((old (H.next + 4) (by omega)).trans b4)
    have x5 := aq ((old (H.next + 5) (by omega)).trans b5)
    have v5:∀ b, (Hx.upd (H.next + 4) b).live (H.next + 5) 0 = _ := fun b => (mG (by omega)).trans x5
    have v4:∀ b c, ((Hx.upd (H.next + 4) b).upd (H.next + 5) c).live (H.next + 4) 0 = (Hx.upd (H.next + 4) b).live (H.next + 4) 0 := fun b c => mG (by omega)
    rw[<- hnl, wX]at hgB
    simp (config := { maxSteps := 1000000 }) only[go_sem, aa]
    refine W.vs ?_
    simp (config := { maxSteps := 1000000 }) only[go_sem, k10, k11, k15, x7, x4, x5, v5, v4, aa]
    have hKK := hK grain ns (fun _ => ⟨rfl, by rw[hpl6, <- hpl6]; exact hfk⟩) (fun e => absurd hE0 e)
    rw[hE0]at hKK
    have oX:Over H Hx := ⟨by omega, fun id h => (old id (by omega)).trans (o1.old id h)⟩
    refine az.cC bz hcl ((oX.upd (by omega) _).upd (by omega) _) (BO ?_) hKK
    rw[<- hnl]
    exact .frz (by omega) (by rw[ao, QQ (by omega), ao, QQ (by omega)]; exact hgB) (iy ns) fun j h1 h2 h3 => by simp only[Nat.zero_add]; exact wW (n := ns.length) (ns := ns) _ (by rw[wX]; exact Rz _) _ _ _
end Go.Proofs
namespace Go.Hx
variable {P:Program}
structure Own2 (lo:Nat)(H:AHeap)(e:TypeId)(v:AVal)(l:List AVal)(u:AVal)(m:List AVal):Prop where
  a:aF lo H e v l
  b:aF lo H e u m
  ne:∀ i g n g' n', v = .own i g 0 n 1 -> u ≠ .own i g' 0 n' 1
theorem Own2.symm {lo:Nat}{H:AHeap}{e:TypeId}{v u:AVal}{l m:List AVal}(h:Own2 lo H e v l u m):Own2 lo H e u m v l := ⟨h.b, h.a, fun i g n g' n' h1 h2 => h.ne i g' n' g n h2 h1⟩
theorem Own2.nil {lo:Nat}{H:AHeap}{e:TypeId}:Own2 lo H e (.lit (.slice none 0 0)) [] (.lit (.slice none 0 0)) [] := ⟨.nil, .nil, fun _ _ _ _ _ h => (by cases h)⟩
theorem Own2.keep {lo:Nat}{H H':AHeap}{e:TypeId}{v u:AVal}{l m:List AVal}(h:Own2 lo H e v l u m)(hn:H.next <= H'.next)(hk:∀ id, lo <= id -> id < H.next -> H'.get id = H.get id):Own2 lo H' e v l u m :=
  ⟨h.a.keep (Nat.le_refl _) hn fun id _ h1 h2 _ _ => hk id h1 h2, h.b.keep (Nat.le_refl _) hn fun id _ h1 h2 _ _ => hk id h1 h2, h.ne⟩
end Go.Hx
namespace Go.Proofs
open Go.Hx
end Go.Proofs
namespace Go.Hx
theorem aF.Ms {lo:Nat}{H:AHeap}{e:TypeId}{v:AVal}{cs:List AVal}(h:aF lo H e v cs){k:Nat}(hk:k < lo):∀ g n, v ≠ .own k g 0 n 1 := fun g n he => by
  rcases h with ⟨h, _⟩ | ⟨id, g', a, _, h, _⟩
  · rw[h]at he; cases he
  · rw[h]at he; have := (AVal.own.inj he).1; omega
end Go.Hx
namespace Go.Proofs
open Go.Hx
theorem BJ {r:Nat -> Int}{M:Nat -> Bool}:∀ m, (∃ j, j < m /\ M j = false) -> ∃ b, b < m /\ M b = false /\ ∀ j, j < m -> M j = false -> j ≠ b -> before r b j
  | 0, ⟨j, h, _⟩ => absurd h (Q5 _)
  | m + 1, ⟨j, hj, hM⟩ => by
    by_cases hex:∃ j, j < m /\ M j = false
    · obtain⟨b, hb, hMb, hmin⟩ := BJ m hex
      cases hm:M m with
      | true => exact⟨b, by omega, hMb, fun j hj h1 h2 => hmin j (by have:j ≠ m := (by rintro rfl; rw[hm]at h1; cases h1); omega) h1 h2⟩
      | false =>
        by_cases hlt:r b < r m
        · refine⟨m, by omega, hm, fun j hj h1 h2 => ?_⟩
          have hjm:j < m := by omega
          by_cases hjb:j = b
          · subst hjb; exact .inl hlt
          · have := hmin j hjm h1 hjb
            unfold before at this ⊢
            omega
        · refine⟨b, by omega, hMb, fun j hj h1 h2 => ?_⟩
          by_cases hjm:j = m
          · subst hjm; unfold before; omega
          · exact hmin j (by omega) h1 h2
    · have : j = m := by
        refine Re fun h => hex ⟨j, by omega, hM⟩
      subst this
      exact⟨j, by omega, hM, fun i hi h1 h2 => absurd ⟨i, by omega, h1⟩ hex⟩
theorem Top.some {r:Nat -> Int}{n k:Nat}{M:Nat -> Bool}(h:Top r n k M)(hk:k < n):∃ j, j < n /\ M j = false := by
  refine Re fun hno => ?_
  have := h.count
  have e:(List.range n).countP M = (List.range n).length := Sz.2 fun x hx => by
    rcases Rc (M x) with e | e
    · exact e
    · exact absurd ⟨x, QW.1 hx, e⟩ hno
  rw[e, Rw]at this
  omega
theorem Top.ex (r:Nat -> Int)(n:Nat):∀ k, k <= n -> ∃ M, Top r n k M
  | 0, _ => ⟨_, .zero⟩
  | k + 1, h => by
    obtain⟨M, hM⟩ := Top.ex r n k (by omega)
    obtain⟨b, hb, hMb, hmin⟩ := BJ (r := r) n (hM.some (by omega))
    exact⟨_, hM.step hb hMb hmin⟩
theorem BK (least sp:Int){c:List Int}(h:0 < c.length):∃ s, gu least sp c s := by
  have := xI (sp := sp) h
  obtain⟨M, hM⟩ := Top.ex (cq sp c) c.length (gi sp c).toNat (by omega)
  exact⟨_, M, hM, rfl⟩
def dW (n:Int)(ord:List Int)(e:Nat):List AVal := .lit (.int .u8 n) :: dA ord ++ [.lit (.int .u16 (e:Int))]
theorem BL {ps:List Nat}{r:Nat -> Nat}(h:∀ v u:Nat, (ps.getD v 0).testBit u = true -> r u < r v):gX ps := by
  intro v _
  have step:∀ (l:List Nat) (s:Nat), (∀ u, s.testBit u = true -> r u < r v) -> ∀ u, (l.foldl (dI ps) s).testBit u = true -> r u < r v := by
    intro l
    induction l with
    | nil => intro s hs; exact hs
    | cons a l ih =>
      intro s hs
      refine ih _ fun u hu => ?_
      unfold dI at hu
      split at hu
      · rename_i ha
        rw[Sg, RE]at hu
        rcases hu with hu | hu
        · exact hs u hu
        · have := h a u hu; have := hs a ha; omega
      · exact hs u hu
  have all:∀ k u, (dv ps k (ps.getD v 0)).testBit u = true -> r u < r v := by
    intro k
    induction k with
    | zero => exact fun u hu => h v u hu
    | succ k ih => exact step _ _ ih
  rcases Rc ((er ps (ps.getD v 0)).testBit v) with e | e
  · exact absurd (all _ v e) (Sv _)
  · exact e
def ka (p:List Int)(ps:List Nat):Prop := ∀ v u:Nat, (ps.getD v 0).testBit u = true -> ∃ a b:Nat, a < b /\ p[a]? = some (u:Int) /\ p[b]? = some (v:Int)
theorem ka.ok {n:Nat}{p:List Int}{ps:List Nat}(hp:IsPerm n p)(hl:ps.length = n)(h:ka p ps):dU ps n := by
  refine⟨hl, fun x hx => ?_, BL (r := fun v => p.idxOf (v:Int)) fun v u hu => ?_⟩
  · obtain⟨v, hv⟩ := Q4.1 hx
    refine TT _ fun i hi => ?_
    rcases Rc (x.testBit i) with e | e
    · obtain⟨a, b, _, ha, _⟩ := h v i (by rw[aH hv]; exact e)
      have := hp.rng _ (an ha)
      omega
    · exact e
  · obtain⟨a, b, hab, ha, hb⟩ := h v u hu
    have e:∀ (c:Nat) (z:Int), p[c]? = some z -> p.idxOf z = c := fun c z hc => by
      have hl := get_lt hc
      rw[QK hl]at hc
      cases hc
      exact List.Nodup.idxOf_getElem hp.nd c hl
    show p.idxOf (u:Int) < p.idxOf (v:Int)
    rw[e a _ ha, e b _ hb]
    exact hab
theorem ka.set {p:List Int}{ps:List Nat}(h:ka p ps){a b u v x:Nat}(hab:a < b)(ha:p[a]? = some (u:Int))(hb:p[b]? = some (v:Int))(hx:ps[v]? = some x):ka p (ps.set v (x ||| 2 ^ u)) := by
  intro w q hq
  by_cases hw:w = v
  · subst hw
    rw[QM, Rg, QN rfl, QN (get_lt hx)]at hq
    simp only[Option.getD_some]at hq
    rw[Sg, RE]at hq
    rcases hq with hq | hq
    · exact h w q (by rw[aH hx]; exact hq)
    · rw[Tw]at hq
      have:u = q := of_decide_eq_true hq
      subst this
      exact⟨a, b, hab, ha, hb⟩
  · rw[QM, Rg, QQ (fun e => hw e.symm), <- QM]at hq
    exact h w q hq
theorem ND {P:Program}{t:TypeId}{x y:Operand}{a s:Nat}(ha:a < 65536):aZ P .shr t x y (.lit (.int .u16 (a:Int))) (.lit (.int .i64 (s:Int))) = some (.lit (.int .u16 ((a >>> s:Nat):Int))) := by
  rw[CY (by omega)]
  congr 3
  rw[Int.toNat_natCast, Sl]
  rcases Q3 s 16 with h | h
  · rw[SP (by show s <= 16; omega), S9 _ (by exact_mod_cast SX _)]
    push_cast
    rfl
  · rw[TJ (by show 16 <= s; exact h), S9 _ (by exact_mod_cast SX _)]
    have h2:2 ^ 16 <= 2 ^ s := Rb (by decide) h
    have h1:a / 2 ^ s = 0 := TK (by omega)
    rw[h1]
    show (a:Int) / 2 ^ 16 = 0
    exact SW (by omega) (by omega)
theorem NF {P:Program}{t:TypeId}{x y:Operand}{a s:Nat}(ha:a < 65536):aZ P .and t x y (.lit (.int .u16 ((a >>> s:Nat):Int))) (.lit (.int .u16 1)) = some (.lit (.int .u16 (if a.testBit s then 1 else 0))) := by
  have hs:a >>> s < 65536 := Tc (Nat.shiftRight_le a s) ha
  rw[CZ]
  have e1:(BitVec.ofInt IntKind.u16.bits ((a >>> s:Nat):Int)).toNat = a >>> s := by
    show (BitVec.ofInt 16 _).toNat = _
    rw[BitVec.ofInt_natCast, BitVec.toNat_ofNat, TI (by exact hs)]
  have e2:(BitVec.ofInt IntKind.u16.bits (1:Int)).toNat = 1 := by decide
  rw[BitVec.toNat_and, e1, e2, Ty]
  have:(a >>> s) % 2 = if a.testBit s then 1 else 0 := by
    rw[TC, Sl]
    rcases RG (a / 2 ^ s) with h | h <;> rw[h] <;> simp
  rw[this]
  split <;> rfl
theorem NG {p:List Int}{k:Nat}{x y:Int}(hy:p[k]? = some y):(p.take (k + 1) ++ x :: p.drop (k + 1))[k]? = some y := by
  have := get_lt hy
  rw[Q0 (by rw[QV]; omega), Th, QN (by omega)]
  exact hy
theorem NH {p:List Int}{k:Nat}{x y:Int}(hy:p[k]? = some y):(p.take (k + 1) ++ x :: p.drop (k + 1)).set (k + 1) y = p.take k ++ y :: p.drop k := by
  have hl := get_lt hy
  have e1:(p.take (k + 1)).length = k + 1 := by rw[QV]; omega
  rw[S3 _ _ (by omega), e1, R7, List.set_cons_zero, aU hy]
  have e2:p.drop k = y :: p.drop (k + 1) := by
    rw[Rv hl]
    rw[QK hl]at hy
    rw[Option.some.inj hy]
  rw[e2]
  simp
theorem NI {p:List Int}{k:Nat}{x y:Int}(hk:k <= p.length):(p.take k ++ x :: p.drop k).set k y = p.take k ++ y :: p.drop k := by
  have e1:(p.take k).length = k := by rw[QV]; omega
  rw[S3 _ _ (by omega), e1, R7, List.set_cons_zero]
theorem p7 {p:List Int}{k:Nat}{x:Int}(hk:k <= p.length):(p.take k ++ x :: p.drop k).length = p.length + 1 := by
  rw[List.length_append, QV, List.length_cons, Rr]; omega
theorem dC.fit {cs:List Int}{xs:List (List Int)}{ps:List Nat}{grain prior least:Int}{ns:List NodeP}(hd:DataOk cs xs)(hg:dU ps cs.length)(h:dC cs xs ps grain prior least ps.length ns):ku ns := by
  have c6 := hd.c1
  refine⟨by rw[h.1, hg.1]; omega, fun x hx => ?_⟩
  obtain⟨v, hv⟩ := Q4.1 hx
  obtain⟨s, hs⟩ := get_of_lt (l := ps) (i := v) (by rw[<- h.1]; exact get_lt hv)
  obtain⟨a1, a2, a3, a4⟩ := h.2 v s x hs hv
  have hl := tp ps.length s
  have hpar:ParIn cs (bK ps.length s) := ⟨fun p hp => by have := pY p hp; rw[hg.1]at this; omega, by rw[hg.1]at *; omega, hd.card⟩
  have hpr := hpar.prod (aI cs (bK ps.length s)).length
  rw[QP (Nat.le_refl _)]at hpr
  refine⟨by rw[a2, hg.1]at *; omega, by omega, fun r hr => ?_⟩
  obtain⟨j, hj⟩ := Q4.1 hr
  obtain⟨M, _, e⟩ := a4 j r hj
  rw[e, mD, oe]
  have hvc:v < cs.length := by rw[<- hg.1, <- h.1]; exact get_lt hv
  obtain⟨c, hc⟩ := get_of_lt hvc
  rw[aH hc]
  have := hd.card c (an hc)
  omega
end Go.Proofs
namespace Go.Proofs.YtikgmgmphkalkaaDoor
open Go.ChangeShapes Go.WideShapes Go.ChangeAt Go.RowKit Go.Hx
section
variable {W:World} {H:Type} {enc:TypeId × Value -> H} {spare:Nat -> Bool} {held:Bool}
theorem Mg {n:Int}(h:(Lit.int .u8 n).wf = true):∃ m:Nat, n = m /\ m < 256 := by
  have := od h
  unfold U8 at this
  exact⟨n.toNat, by omega, by omega⟩
theorem Mh:dQ enc Tryd.prog W spare held 43 fun _ zs => ∃ (n:Nat) (ord:List Int) (e:Nat), zs = dW n ord e /\ n < 256 /\ ord.length = 6 /\ (∀ x ∈ ord, U8 x) /\ e < 65536 := by
  have hu := Tryd.underlying43
  have c1 := Tryd.ti
  have c2:Tryd.prog.cellsOf 40 = 6 := by kernel_rfl
  have c3 := Tryd.Br
  refine(y2 (φ := fun i _ xs => if i = 1 then ∃ l:List Int, xs = dA l /\ l.length = 6 /\ ∀ x ∈ l, U8 x else if i = 0 then ∃ n, xs = [.lit (.int .u8 n)] /\ (Lit.int .u8 n).wf = true else ∃ n, xs = [.lit (.int .u16 n)] /\ (Lit.int .u16 n).wf = true) hu
    (fun cs hcs => by
      have hc:Tryd.prog.cellsOf 43 = 8 := by kernel_rfl
      rw[hc]at hcs
      match cs, hcs with
      | [a, b, c, d, e, f, g, h], _ => simp [c1, c2, c3])
    (fun i hi => match i, hi with
      | 0, _ => (me Tryd.underlying5).mono fun _ _ ⟨n, _, h, w⟩ => ⟨n, h, w⟩
      | 1, _ => (y7 Tryd.underlying40 Tryd.underlying5 c1 c2).mono fun _ _ ⟨l, h1, h2, h3⟩ => ⟨l, h1, h2, fun c hc => od (h3 c hc)⟩
      | 2, _ => (me Tryd.underlying41).mono fun _ _ ⟨n, _, h, w⟩ => ⟨n, h, w⟩)).mono fun d zs ⟨ds, rows, _, e, hl1, hl2, hall⟩ => ?_
  match rows, ds, hl2, hl1, hall with
  | [x, y, z], [d0, d1, d2], _, _, hall =>
    obtain⟨n0, e0, w0⟩ := hall 0 (by simp) (by simp)
    obtain⟨l, e1, w1, w1'⟩ := hall 1 (by simp) (by simp)
    obtain⟨n2, e2, w2⟩ := hall 2 (by simp) (by simp)
    simp only[Rq, SU]at e0 e1 e2
    subst e0; subst e1; subst e2
    obtain⟨m, rfl, hm⟩ := Mg w0
    have w3 := Mb w2
    obtain⟨q, rfl⟩ := Rf w3.1
    refine⟨m, l, q, ?_, hm, w1, w1', by omega⟩
    rw[e]
    simp [dW]
theorem Mi {r : Reach} {b : Nat} {v : Value} {d : DataW H} {ps : List MemPlace} (hval : Value.okWide Tryd.prog W r b 43 v) (hd : DataW.Trod enc Tryd.prog W 0 spare held 43 v d ps) :
    ∃ (n:Nat) (ord:List Int) (e:Nat), RelV Tryd.prog eY bT W (.agg (dW n ord e)) v /\ ord.length = 6 /\ (∀ x ∈ ord, U8 x) /\ e < 65536 := by
  obtain⟨xs, h1, n, ord, e, rfl, _, h3, h4, h5⟩ := y8 Mh (.inl ⟨_, Tryd.underlying43⟩) hval hd
  exact⟨n, ord, e, h1, h3, h4, h5⟩
end
end Go.Proofs.YtikgmgmphkalkaaDoor
namespace Go.Proofs
open Go.Hx
def my (ord:List Int):Nat -> List Int
  | 0 => []
  | i + 1 => (my ord i).take (ord.getD i 0 % ((i:Int) + 1)).toNat ++ (i:Int) :: (my ord i).drop (ord.getD i 0 % ((i:Int) + 1)).toNat
def lC:Nat -> Nat
  | 0 => 0
  | j + 1 => lC j + j
theorem N3 (j:Nat):lC j <= j * j := by
  induction j with
  | zero => exact Nat.le_refl _
  | succ j ih =>
    show lC j + j <= _
    rw[RI, TN]; omega
def tt (p:List Int)(ed j i bt:Nat)(ps:List Nat):List Nat := if ed.testBit bt then ps.set (p.getD j 0).toNat (ps.getD (p.getD j 0).toNat 0 ||| 2 ^ (p.getD i 0).toNat) else ps
def tu (p:List Int)(ed j:Nat)(ps:List Nat):Nat -> List Nat
  | 0 => ps
  | i + 1 => tt p ed j i (lC j + i) (tu p ed j ps i)
def p8 (p:List Int)(ed n:Nat):Nat -> List Nat
  | 0 => List.replicate n 0
  | j + 1 => tu p ed j (p8 p ed n j) j
def p9 (n:Nat)(ord:List Int)(ed:Nat):List Nat := p8 (my ord n) ed n n
set_option maxHeartbeats 8000000 in
theorem BY (b n : Nat) (ord : List Int) (ed : Nat) (hb : b < 256) (ho : ord.length = 6) (ho8 : ∀ x ∈ ord, U8 x) (he : ed < 65536) (hn : n = 1 + b % 6) (H : AHeap) (K : ARes → AHeap → Prop)
    (hK:dU (p9 n ord ed) n -> K (.ret (bS (p9 n ord ed))) H):
    ah Tryd.prog G0 16 [.agg (dW b ord ed), ab 6] H K := by
  refine ah.clo ⟨_, Tryd.func16, rfl, rfl⟩ fun hcl => ?_
  have hn6:1 <= n /\ n <= 6 := by omega
  have w1:IntKind.i64.wrap (b:Int) = b := QL _ (by omega)
  have m1:(b:Int).tmod 6 = ((b % 6:Nat):Int) := by rw[Ra (by omega)]; push_cast; rfl
  have w2:IntKind.i64.wrap ((b % 6:Nat):Int) = ((b % 6:Nat):Int) := QL _ (by omega)
  have w3:IntKind.i64.wrap (1 + ((b % 6:Nat):Int)) = (n:Int) := by rw[QL _ (by omega)]; omega
  obtain⟨PC, hPC⟩:∃ PC, PC = dW b ord ed := ⟨_, rfl⟩
  have c0:PC[0]? = some (.lit (.int .u8 b)) := by rw[hPC]; rfl
  have ci:∀ (i:Nat) (x:Int), ord[i]? = some x -> PC[1 + i]? = some (.lit (.int .u8 x)) := fun i x h => by
    rw[hPC, Nat.add_comm]; unfold dW
    rw[List.cons_append, List.getElem?_cons_succ, Q0 (by rw[jU]; exact get_lt h)]
    exact sZ h
  have c7:PC[7]? = some (.lit (.int .u16 ed)) := by
    rw[hPC]; unfold dW
    rw[List.cons_append, List.getElem?_cons_succ, Q2 (by rw[jU]; omega), jU, ho]; rfl
  have cne := aM c0
  have cl:PC.length = 8 := by rw[hPC]; unfold dW; simp [jU, ho]
  rw[<- hPC]
  refine ah.dP (n := 94) (rs := [.tmp 4]) Tryd.func16 rfl rfl rfl (by decide) (by simp) ?_
  refine W.sq ?_
  simp (config := { maxSteps := 1000000 }) only[go_sem, aa]
  obtain⟨H1, hH1⟩:∃ H1, H1 = ext H [.arr 0 43 PC] := ⟨_, rfl⟩
  have b0:H1.get H.next = some (.arr 0 43 PC) := by rw[hH1]; exact ez ..
  have n1:H1.next = H.next + 1 := by rw[hH1]; rfl
  have o1:Over H H1 := by rw[hH1]; exact .ext _ _
  have l1 := aq b0
  rw[<- hH1]
  refine W.sq ?_
  simp (config := { maxSteps := 1000000 }) only[go_sem, l1, c0, cne, w1, m1, w2, w3, aa]
  refine W.sq ?_
  simp (config := { maxSteps := 1000000 }) only[go_sem, aa]
  refine W.env fun E hE => ?_
  have e2:E 2 = .ptr H.next 0 0 := by rw[hE]; simp (config := { maxSteps := 1000000 }) only[go_sem, aa]
  have e5:E 5 = ab n := by rw[hE]; simp (config := { maxSteps := 1000000 }) only[go_sem, l1, c0, cne, w1, m1, w2, w3, aa]
  have e6:E 6 = .lit (.slice none 0 0) := by rw[hE]; simp (config := { maxSteps := 1000000 }) only[go_sem, aa]
  clear hE
  refine W.eH (fun s' => s'.ρ 2 = .ptr H.next 0 0 /\ s'.ρ 5 = ab n /\ ∃ p, IsPerm n p /\ p = my ord n /\ Over H1 s'.H /\ aF H1.next s'.H 3 (s'.ρ 6) (ints p)) ?_ ?_
  · refine W.sq ?_
    simp (config := { maxSteps := 1000000 }) only[go_sem, aa]
    refine W.block ?_
    refine W.aR 18014398508434368 (by kernel_rfl) (fun ρ Hx => ∃ (i:Nat) (p:List Int), ρ 7 = ab i /\ i <= n /\ IsPerm i p /\ p = my ord i /\ Over H1 Hx /\ aF H1.next Hx 3 (ρ 6) (ints p)) (fun ρ Hx => n - (iv (ρ 7)).toNat) ?_ ?_
    · simp (config := { maxSteps := 1000000 }) only[go_sem, e6, aa]
      exact⟨0, [], rfl, by omega, ⟨rfl, by simp, by simp⟩, rfl, .refl _, .nil⟩
    rintro ρ Hx ⟨i, p, h7, hi, hp, hpF, ov, ho6⟩
    obtain⟨v, hv⟩:∃ v, v = ρ 6 := ⟨_, rfl⟩
    rw[<- hv]at ho6
    refine W.env fun E1 hE1 => ?_
    have f2:E1 2 = .ptr H.next 0 0 := by rw[hE1]; simp (config := { maxSteps := 1000000 }) only[go_sem, e2, aa]
    have f5:E1 5 = ab n := by rw[hE1]; simp (config := { maxSteps := 1000000 }) only[go_sem, e5, aa]
    have f6:E1 6 = v := by rw[hE1]; simp (config := { maxSteps := 1000000 }) only[go_sem, hv, aa]
    have f7:E1 7 = ab i := by rw[hE1]; simp (config := { maxSteps := 1000000 }) only[go_sem, h7, aa]
    clear hE1
    have vo := ho6.one
    have vcl := ho6.cells
    have ovn := ov.next
    have lx := aq ((ov.old H.next (by omega)).trans b0)
    by_cases hb:(i:Int) < n
    rotate_left
    · refine W.vs ?_
      simp (config := { maxSteps := 1000000 }) only[go_sem, f5, f7, hb, aa]
      obtain rfl:i = n := by omega
      exact⟨f2, p, hp, hpF, ov, by rw[f6]; exact ho6⟩
    obtain⟨x, hx⟩ := get_of_lt (l := ord) (i := i) (by omega)
    have x8 := ho8 x (an hx)
    have cix := ci i x hx
    have x0 := x8.1
    have x1 := x8.2
    have u1 := QL x (by omega)
    have u2 := QL ((i:Int) + 1) (by omega)
    have u0:¬ (i:Int) + 1 = 0 := by omega
    obtain⟨a, ha⟩:∃ a:Nat, (a:Int) = x % ((i:Int) + 1) := ⟨(x % ((i:Int) + 1)).toNat, by have := RU x u0; omega⟩
    have hai:a <= i := by have := RF x (show 0 < (i:Int) + 1 by omega); omega
    have m2:x.tmod ((i:Int) + 1) = a := by rw[ha]; exact Ra x0
    have u3 := QL (a:Int) (by omega)
    have i6:(i:Int) < 6 := by omega
    refine W.sq ?_
    simp (config := { maxSteps := 1000000 }) only[go_sem, f5, f7, hb, aa]
    refine W.seq (W.block ?_)
    refine W.sq ?_
    simp (config := { maxSteps := 1000000 }) only[go_sem, f2, f7, lx, cix, i6, u1, u2, u0, m2, u3, aa]
    have hpl := hp.len
    obtain⟨v', Ha, hA, hOa, hna, hpa⟩ := jQ (P := Tryd.prog) (t := 22) (x := ab 0) (n := Hx.next + 1) Tryd.underlying22 Tryd.lj Tryd.ll rfl (by rw[Tryd.lk, aX]; omega) ho6 ovn rfl
    simp only[ab]at hA
    have e0:ints p ++ [ab 0] = ints (p.take i ++ 0 :: p.drop i) := by rw[QP (by omega), T1 (by omega)]; unfold ints; rw[RN]; rfl
    rw[e0]at hOa
    obtain⟨oi, og, o1i, o2i, rfl, gO⟩:∃ oi og, H1.next <= oi /\ oi < Ha.next /\ v' = .own oi og 0 (i + 1) 1 /\ Ha.get oi = some (.arr og 3 (ints (p.take i ++ 0 :: p.drop i))) := by
      have hl:(ints (p.take i ++ 0 :: p.drop i)).length = i + 1 := by rw[aX, p7 (by omega), hpl]
      rcases hOa with ⟨_, h⟩ | ⟨io, go, a1, a2, b1, d⟩
      · rw[h]at hl; simp at hl
      · exact⟨io, go, a1, a2, by rw[b1, hl], d⟩
    refine W.sq ?_
    simp (config := { maxSteps := 1000000 }) only[go_sem, f6, vo, vcl, hA]
    refine W.sq ?_
    simp (config := { maxSteps := 1000000 }) only[go_sem, f7, aa]
    refine W.env fun E2 hE2 => ?_
    have a2:E2 2 = .ptr H.next 0 0 := by rw[hE2]; simp (config := { maxSteps := 1000000 }) only[go_sem, f2, aa]
    have a5:E2 5 = ab n := by rw[hE2]; simp (config := { maxSteps := 1000000 }) only[go_sem, f5, aa]
    have a6:E2 6 = .own oi og 0 (i + 1) 1 := by rw[hE2]; simp (config := { maxSteps := 1000000 }) only[go_sem, aa]
    have a7:E2 7 = ab i := by rw[hE2]; simp (config := { maxSteps := 1000000 }) only[go_sem, f7, aa]
    have a8:E2 8 = ab a := by rw[hE2]; simp (config := { maxSteps := 1000000 }) only[go_sem, aa]
    have a9:E2 9 = ab i := by rw[hE2]; simp (config := { maxSteps := 1000000 }) only[go_sem, f7, aa]
    clear hE2
    refine W.aR 1125762467889664 (by kernel_rfl) (fun ρ Hy => ∃ (k:Nat) (z:Int), ρ 9 = ab k /\ a <= k /\ k <= i /\ Hy.next = Ha.next /\ (∀ id, id ≠ oi -> Hy.get id = Ha.get id) /\ Hy.get oi = some (.arr og 3 (ints (p.take k ++ z :: p.drop k)))) (fun ρ Hy => (iv (ρ 9)).toNat) ?_ ?_
    · exact⟨i, 0, a9, hai, by omega, rfl, fun _ _ => rfl, gO⟩
    rintro ρ2 Hy ⟨k, z, h9, hak, hki, ny, holdy, gy⟩
    refine W.env fun E3 hE3 => ?_
    have d2:E3 2 = .ptr H.next 0 0 := by rw[hE3]; simp (config := { maxSteps := 1000000 }) only[go_sem, a2, aa]
    have d5:E3 5 = ab n := by rw[hE3]; simp (config := { maxSteps := 1000000 }) only[go_sem, a5, aa]
    have d6:E3 6 = .own oi og 0 (i + 1) 1 := by rw[hE3]; simp (config := { maxSteps := 1000000 }) only[go_sem, a6, aa]
    have d7:E3 7 = ab i := by rw[hE3]; simp (config := { maxSteps := 1000000 }) only[go_sem, a7, aa]
    have d8:E3 8 = ab a := by rw[hE3]; simp (config := { maxSteps := 1000000 }) only[go_sem, a8, aa]
    have d9:E3 9 = ab k := by rw[hE3]; simp (config := { maxSteps := 1000000 }) only[go_sem, h9, aa]
    clear hE3
    have ly := aq gy
    have il:∀ z' k', k' <= i -> (ints (p.take k' ++ z' :: p.drop k')).length = i + 1 := fun z' k' h => by rw[aX, p7 (by omega), hpl]
    have ily := il z k hki
    by_cases hb2:(k:Int) > a
    · obtain⟨k, rfl⟩:∃ q, k = q + 1 := ⟨k - 1, by omega⟩
      obtain⟨y, hy⟩ := get_of_lt (l := p) (i := k) (by omega)
      have hyg := NG (x := z) hy
      have hyn := aM hyg
      have s1:IntKind.i64.wrap (((k + 1:Nat):Int) - 1) = (k:Int) := by rw[QL _ (by omega)]; omega
      have k0:(k:Int) >= 0 := by omega
      have k1:(k:Int) < (i:Int) + 1 := by omega
      have k2:((k + 1:Nat):Int) < (i:Int) + 1 := by omega
      refine W.vs ?_
      simp (config := { maxSteps := 1000000 }) only[go_sem, d6, d7, d8, d9, hb2, ly, ily, hyg, hyn, s1, k0, k1, k2, aa]
      refine⟨by omega, by omega, by omega, by rw[aV]; omega, ⟨k, y, rfl, by omega, by omega, by rw[aV]; exact ny, fun id h => by rw[ao, QQ h]; exact holdy id h, by rw[ao, QN rfl, fo (by rw[p7 (by omega)]; omega), NH hy]⟩, by rw[h9]; simp only[ab, cL]; omega⟩
    obtain rfl:k = a := by omega
    refine W.vs ?_
    simp (config := { maxSteps := 1000000 }) only[go_sem, d8, d9, hb2, aa]
    refine W.vs ?_
    simp (config := { maxSteps := 1000000 }) only[go_sem, d6, d7, d8, ly, ily, aa]
    refine⟨by omega, by omega, ?_⟩
    refine W.vs ?_
    simp (config := { maxSteps := 1000000 }) only[go_sem, d7, u2, aa]
    rw[fo (by rw[p7 (by omega)]; omega), NI (by omega)]
    refine⟨by rw[aV]; omega, ⟨i + 1, p.take k ++ (i:Int) :: p.drop k, rfl, by omega, OQ hp k hki, by rw[hpF]; show _ = (my ord i).take (ord.getD i 0 % ((i:Int) + 1)).toNat ++ (i:Int) :: (my ord i).drop (ord.getD i 0 % ((i:Int) + 1)).toNat; rw[aH hx, <- ha, Int.toNat_natCast], ⟨by rw[aV]; omega, fun id h => ?_⟩, .inr ⟨oi, og, o1i, by rw[aV]; omega, by rw[aX, p7 (by omega), hpl]; exact d6, by rw[ao, QN rfl]⟩⟩, by rw[h7]; simp only[ab, cL]; omega⟩
    rw[ao, QQ (by omega), holdy id (by omega), hpa id (by omega) (aF.Ms ho6 h)]
    exact ov.old id h
  rintro⟨ρ, Hx⟩ ⟨p2, p5, p, hp, hpF, ov, ho6⟩
  simp only at p2 p5 ho6 ov
  have hpl := hp.len
  have ovn := ov.next
  refine W.yT (cH.Cv bz (s := ⟨ρ, Hx⟩) (n := H1.next) (t0 := 6) (v' := ag p) (ho6.jP fun i h => h)) (Nat.le_refl _) trivial ?_
  obtain⟨H2, hH2⟩:∃ H2, H2 = Hx.cut H1.next := ⟨_, rfl⟩
  have n2:H1.next <= H2.next := by rw[hH2]; exact ovn
  have g2:∀ id, id < H1.next -> H2.get id = H1.get id := fun id h => by rw[hH2, kO h]; exact ov.old id h
  show W _ _ _ _ _ _ ⟨fun t => if t = 6 then ag p else ρ t, Hx.cut H1.next⟩
  rw[<- hH2]
  clear hH2
  refine W.env fun E1 hE1 => ?_
  have f2:E1 2 = .ptr H.next 0 0 := by rw[hE1]; exact p2
  have f5:E1 5 = ab n := by rw[hE1]; exact p5
  have f6:E1 6 = ag p := by rw[hE1]; exact QN rfl
  clear hE1
  refine W.sq ?_
  simp (config := { maxSteps := 1000000 }) only[go_sem, f5, aa]
  refine⟨⟨by omega, by omega⟩, ?_⟩
  obtain⟨H3, hH3⟩:∃ H3, H3 = ext H2 [.arr 0 100 (List.replicate n (AVal.lit (.int .u64 0)))] := ⟨_, rfl⟩
  have n3:H3.next = H2.next + 1 := by rw[hH3]; rfl
  have g3:H3.get H2.next = some (.arr 0 100 ((List.replicate n 0).map bq)) := by rw[hH3, List.map_replicate]; exact cQ
  have o3:Over H2 H3 := by rw[hH3]; exact .ext _ _
  rw[<- hH3]
  clear hH3
  refine W.sq ?_
  simp (config := { maxSteps := 1000000 }) only[go_sem, aa]
  refine W.sq ?_
  simp (config := { maxSteps := 1000000 }) only[go_sem, aa]
  refine W.env fun E2 hE2 => ?_
  have a2:E2 2 = .ptr H.next 0 0 := by rw[hE2]; simp (config := { maxSteps := 1000000 }) only[go_sem, f2, aa]
  have a5:E2 5 = ab n := by rw[hE2]; simp (config := { maxSteps := 1000000 }) only[go_sem, f5, aa]
  have a6:E2 6 = ag p := by rw[hE2]; simp (config := { maxSteps := 1000000 }) only[go_sem, f6, aa]
  have a10:E2 10 = .own H2.next 0 0 n 1 := by rw[hE2]; simp (config := { maxSteps := 1000000 }) only[go_sem, aa]
  have a11:E2 11 = ab 0 := by rw[hE2]; simp (config := { maxSteps := 1000000 }) only[go_sem, aa]
  have a12:E2 12 = ab 1 := by rw[hE2]; simp (config := { maxSteps := 1000000 }) only[go_sem, aa]
  clear hE2
  refine W.aR 9903520314210984605155080192 (by kernel_rfl) (fun ρ Hy => ∃ (j bt:Nat) (ps:List Nat), ρ 12 = ab j /\ 1 <= j /\ j <= n /\ ρ 11 = ab bt /\ (bt = lC j /\ ps = p8 p ed n j) /\ Hy.next = H3.next /\ (∀ id, id ≠ H2.next -> Hy.get id = H3.get id) /\ Hy.get H2.next = some (.arr 0 100 (ps.map bq)) /\ ps.length = n /\ ka p ps) (fun ρ Hy => n - (iv (ρ 12)).toNat) ?_ ?_
  · refine⟨1, 0, List.replicate n 0, a12, by omega, by omega, a11, ⟨rfl, rfl⟩, rfl, fun _ _ => rfl, g3, by simp, fun v u h => ?_⟩
    rw[QM, SR]at h
    split at h <;> simp at h
  rintro ρ1 Hy ⟨j, bt, ps, h12, hj1, hjn, h11, hbt, ny, holdy, gy, hpsl, hup⟩
  have htl := N3 j
  have htl2:j * j <= 6 * 6 := Tu (by omega) (by omega)
  have hbt1 := hbt.1
  refine W.env fun E3 hE3 => ?_
  have d2:E3 2 = .ptr H.next 0 0 := by rw[hE3]; simp (config := { maxSteps := 1000000 }) only[go_sem, a2, aa]
  have d5:E3 5 = ab n := by rw[hE3]; simp (config := { maxSteps := 1000000 }) only[go_sem, a5, aa]
  have d6:E3 6 = ag p := by rw[hE3]; simp (config := { maxSteps := 1000000 }) only[go_sem, a6, aa]
  have d10:E3 10 = .own H2.next 0 0 n 1 := by rw[hE3]; simp (config := { maxSteps := 1000000 }) only[go_sem, a10, aa]
  have d11:E3 11 = ab bt := by rw[hE3]; simp (config := { maxSteps := 1000000 }) only[go_sem, h11, aa]
  have d12:E3 12 = ab j := by rw[hE3]; simp (config := { maxSteps := 1000000 }) only[go_sem, h12, aa]
  clear hE3
  by_cases hb:(j:Int) < n
  rotate_left
  · refine W.vs ?_
    simp (config := { maxSteps := 1000000 }) only[go_sem, d5, d12, hb, aa]
    refine W.vs ?_
    simp (config := { maxSteps := 1000000 }) only[go_sem, d10, aa]
    refine az.cC bz hcl ⟨by omega, fun id h => ?_⟩ (v' := bS ps) ?_ (by
      have hG:ps = p9 n ord ed := by rw[hbt.2]; unfold p9; rw[<- hpF, show j = n by omega]
      rw[hG]at hup hpsl ⊢
      exact hK (hup.ok hp hpsl))
    · rw[holdy id (by omega), o3.old id (by omega), g2 id (by omega)]
      exact o1.old id h
    · have:aF H.next Hy 100 (.own H2.next 0 0 n 1) (ps.map bq) := .inr ⟨H2.next, 0, by omega, by omega, by rw[QX, hpsl], gy⟩
      exact this.CO fun i h => h
  obtain⟨w, hw⟩ := get_of_lt (l := p) (i := j) (by omega)
  have hwr := hp.rng w (an hw)
  obtain⟨v, rfl⟩ := Rf hwr.1
  have hwn := aM hw
  have w7 := QL ((j:Int) + 1) (by omega)
  refine W.sq ?_
  simp (config := { maxSteps := 1000000 }) only[go_sem, d5, d12, hb, aa]
  refine W.seq (W.block ?_)
  refine W.sq ?_
  simp (config := { maxSteps := 1000000 }) only[go_sem, aa]
  refine W.env fun E4 hE4 => ?_
  have k2:E4 2 = .ptr H.next 0 0 := by rw[hE4]; simp (config := { maxSteps := 1000000 }) only[go_sem, d2, aa]
  have k5:E4 5 = ab n := by rw[hE4]; simp (config := { maxSteps := 1000000 }) only[go_sem, d5, aa]
  have k6:E4 6 = ag p := by rw[hE4]; simp (config := { maxSteps := 1000000 }) only[go_sem, d6, aa]
  have k10:E4 10 = .own H2.next 0 0 n 1 := by rw[hE4]; simp (config := { maxSteps := 1000000 }) only[go_sem, d10, aa]
  have k11:E4 11 = ab bt := by rw[hE4]; simp (config := { maxSteps := 1000000 }) only[go_sem, d11, aa]
  have k12:E4 12 = ab j := by rw[hE4]; simp (config := { maxSteps := 1000000 }) only[go_sem, d12, aa]
  have k13:E4 13 = ab 0 := by rw[hE4]; simp (config := { maxSteps := 1000000 }) only[go_sem, aa]
  clear hE4
  refine W.block ?_
  refine W.aR 9903520311977199189979310080 (by kernel_rfl) (fun ρ Hz => ∃ (i bu:Nat) (qs:List Nat), ρ 13 = ab i /\ i <= j /\ ρ 11 = ab bu /\ (bu = lC j + i /\ qs = tu p ed j (p8 p ed n j) i) /\ Hz.next = H3.next /\ (∀ id, id ≠ H2.next -> Hz.get id = H3.get id) /\ Hz.get H2.next = some (.arr 0 100 (qs.map bq)) /\ qs.length = n /\ ka p qs) (fun ρ Hz => j - (iv (ρ 13)).toNat) ?_ ?_
  · exact⟨0, bt, ps, k13, by omega, k11, ⟨by omega, hbt.2⟩, ny, holdy, gy, hpsl, hup⟩
  rintro ρ3 Hz ⟨i, bu, qs, h13, hij, h11', hbu, nz, holdz, gz, hqsl, hupq⟩
  have hbu1 := hbu.1
  refine W.env fun E5 hE5 => ?_
  have m2':E5 2 = .ptr H.next 0 0 := by rw[hE5]; simp (config := { maxSteps := 1000000 }) only[go_sem, k2, aa]
  have m5:E5 5 = ab n := by rw[hE5]; simp (config := { maxSteps := 1000000 }) only[go_sem, k5, aa]
  have m6:E5 6 = ag p := by rw[hE5]; simp (config := { maxSteps := 1000000 }) only[go_sem, k6, aa]
  have m10:E5 10 = .own H2.next 0 0 n 1 := by rw[hE5]; simp (config := { maxSteps := 1000000 }) only[go_sem, k10, aa]
  have m11:E5 11 = ab bu := by rw[hE5]; simp (config := { maxSteps := 1000000 }) only[go_sem, h11', aa]
  have m12:E5 12 = ab j := by rw[hE5]; simp (config := { maxSteps := 1000000 }) only[go_sem, k12, aa]
  have m13:E5 13 = ab i := by rw[hE5]; simp (config := { maxSteps := 1000000 }) only[go_sem, h13, aa]
  clear hE5
  by_cases hb2:(i:Int) < j
  rotate_left
  · refine W.vs ?_
    simp (config := { maxSteps := 1000000 }) only[go_sem, m12, m13, hb2, aa]
    refine W.vs ?_
    simp (config := { maxSteps := 1000000 }) only[go_sem, m12, w7, aa]
    exact⟨by omega, ⟨j + 1, bu, qs, rfl, by omega, by omega, m11, ⟨by rw[hbu1, show i = j by omega]; rfl, by rw[hbu.2, show i = j by omega]; rfl⟩, nz, holdz, gz, hqsl, hupq⟩, by rw[h12]; simp only[ab, cL]; omega⟩
  have lz := aq gz
  have lP := aq ((holdz H.next (by omega)).trans ((o3.old _ (by omega)).trans ((g2 _ (by omega)).trans b0)))
  have w8 := QL ((i:Int) + 1) (by omega)
  have w9 := QL ((bu:Int) + 1) (by omega)
  have s1 := fun t x y => ND (P := Tryd.prog) (t := t) (x := x) (y := y) (s := bu) he
  have s2 := fun t x y => NF (P := Tryd.prog) (t := t) (x := x) (y := y) (s := bu) he
  have c7n:PC[1 + 6]? = some (.lit (.int .u16 ed)) := c7
  refine W.sq ?_
  simp (config := { maxSteps := 1000000 }) only[go_sem, m12, m13, hb2, aa]
  refine W.seq (W.block ?_)
  refine W.seq (W.seq ?_)
  refine W.vs ?_
  have fin:∀ (ρ':Nat -> AVal) (Hq:AHeap) (rs:List Nat), ρ' 11 = ab bu -> ρ' 13 = ab i -> Hq.next = H3.next -> (∀ id, id ≠ H2.next -> Hq.get id = H3.get id) -> Hq.get H2.next = some (.arr 0 100 (rs.map bq)) -> rs.length = n -> ka p rs -> rs = tt p ed j i (lC j + i) qs -> Hy.next <= Hq.next /\ (∃ (i' bu':Nat) (qs':List Nat), ab ((i:Int) + 1) = ab i' /\ i' <= j /\ ab ((bu:Int) + 1) = ab bu' /\ (bu' = lC j + i' /\ qs' = tu p ed j (p8 p ed n j) i') /\ Hq.next = H3.next /\ (∀ id, ¬id = H2.next -> Hq.get id = H3.get id) /\ Hq.get H2.next = some (.arr 0 100 (qs'.map bq)) /\ qs'.length = n /\ ka p qs') /\ j - ((i:Int) + 1).toNat < j - (iv (ρ3 13)).toNat := fun ρ' Hq rs _ _ h1 h2 h3 h4 h5 h6 =>
    ⟨by omega, ⟨i + 1, bu + 1, rs, rfl, by omega, rfl, ⟨by omega, by rw[h6, hbu.2]; rfl⟩, h1, h2, h3, h4, h5⟩, by rw[h13]; simp only[ab, cL]; omega⟩
  cases hbit:ed.testBit bu
  · simp (config := { maxSteps := 1000000 }) only[go_sem, m2', m11, lP, c7, c7n, s1, s2, hbit, aa]
    refine W.cond (t := false) (by simp (config := { maxSteps := 1000000 }) only[go_sem, aa]) ?_
    refine W.vs ?_
    simp (config := { maxSteps := 1000000 }) only[go_sem, aa]
    refine W.vs ?_
    simp (config := { maxSteps := 1000000 }) only[go_sem, m11, w9, aa]
    refine W.vs ?_
    simp (config := { maxSteps := 1000000 }) only[go_sem, m13, w8, aa]
    exact fin E5 Hz qs m11 m13 nz holdz gz hqsl hupq (by unfold tt; rw[<- hbu1, hbit]; rfl)
  · obtain⟨y, hy⟩ := get_of_lt (l := p) (i := i) (by omega)
    have hyr := hp.rng y (an hy)
    obtain⟨u, rfl⟩ := Rf hyr.1
    have hyn := aM hy
    obtain⟨x, hx⟩ := get_of_lt (l := qs) (i := v) (by omega)
    have hxn := aM hx
    have hxb:(qs.map bq)[v]? = some (.lit (.int .u64 (x:Int))) := by rw[List.getElem?_map, hx]; rfl
    have hxb2 := aM hxb
    have hx64:x < 2 ^ 64 := by
      have := (hupq.ok hp hqsl).2.1 x (an hx)
      have h2:2 ^ n <= 2 ^ 64 := Rb (by decide) (by omega)
      omega
    have hu64:(2 ^ u:Nat) < 2 ^ 64 := Sm (by decide) (by omega)
    have s3 := fun t x y => oJ (P := Tryd.prog) (t := t) (x := x) (y := y) (k' := .i64) (s := u) (by omega)
    have s4 := fun t a b => oI (P := Tryd.prog) (t := t) (x := a) (y := b) (a := x) (b := 2 ^ u) hx64 hu64
    have jl:(j:Int) < p.length := by omega
    have il:(i:Int) < p.length := by omega
    have vn:(v:Int) < n := by omega
    have ql:(qs.map bq).length = n := by rw[QX, hqsl]
    simp (config := { maxSteps := 1000000 }) only[go_sem, m2', m11, lP, c7, c7n, s1, s2, hbit, aa]
    refine W.cond (t := true) (by simp (config := { maxSteps := 1000000 }) only[go_sem, aa]) ?_
    refine W.draw 18 [0, 0, 0, 6, 14, 0, 0, 0, 192, 448, 992, 2016, 0, 0, 12288, 28672, 61440, 131040] Tryd.mixed (by kernel_rfl) (by kernel_rfl) ?_
    simp (config := { maxSteps := 1000000 }) only[go_sem, m6, m10, m12, m13, hw, hwn, hy, hyn, lz, hxb, hxb2, jl, il, vn, ql, s3, s4, aa]
    refine⟨by omega, ?_⟩
    refine W.vs ?_
    simp (config := { maxSteps := 1000000 }) only[go_sem, m11, w9, aa]
    refine W.vs ?_
    simp (config := { maxSteps := 1000000 }) only[go_sem, m13, w8, aa]
    rw[CW (by omega)]
    exact fin E5 _ (qs.set v (x ||| 2 ^ u)) m11 m13 (by rw[aV]; exact nz) (fun id h => by rw[ao, QQ h]; exact holdz id h) (by rw[ao, QN rfl]) (by rw[Q8]; exact hqsl) (hupq.set (by omega) hy hw hx) (by unfold tt; rw[<- hbu1, hbit, QN rfl, aH hw, aH hy, Int.toNat_natCast, Int.toNat_natCast, aH hx])
end Go.Proofs
