/-
  Sets of parents without a cycle: placing them round by round. Plain: no program stands in this text. No conditions.
-/
import Derived.Test.YtikgmgmphkalkaaDoorConB
import Derived.Test.YtikgmgmphkalkaaDoorConC
import Derived.Test.YtikgmgmphkalkaaDoorConD
import Derived.Test.YtikgmgmphkalkaaDoorConE
set_option linter.all false
namespace Go.Proofs
open Go.Hx
def placeStep (ps : List Nat) (pl v : Nat) : Nat := if subN (ps.getD v 0) pl = 0 then pl ||| 2 ^ v else pl
def placeOnce (ps : List Nat) (pl : Nat) : Nat := (List.range ps.length).foldl (placeStep ps) pl
def placeN (ps : List Nat) : Nat → Nat → Nat
  | 0, pl => pl
  | k + 1, pl => placeN ps k (placeOnce ps pl)
theorem placeN_succ (ps : List Nat) : ∀ (k pl : Nat), placeN ps (k + 1) pl = placeOnce ps (placeN ps k pl)
  | 0, _ => rfl
  | k + 1, pl => placeN_succ ps k (placeOnce ps pl)
theorem getD_lt {ps : List Nat} {b : Nat} (hb : 0 < b) (hp : ∀ p ∈ ps, p < b) (v : Nat) : ps.getD v 0 < b := by
  rw [List.getD_eq_getElem?_getD]
  cases h : ps[v]? with
  | none => exact hb
  | some p => exact hp p (List.mem_of_getElem? h)
theorem placeStep_ge (ps : List Nat) (pl v : Nat) : Sub pl (placeStep ps pl v) := by unfold placeStep; split; exact .left _ _; exact .refl _
theorem placeF_ge (ps : List Nat) (l : List Nat) : ∀ pl, Sub pl (l.foldl (placeStep ps) pl) := by
  induction l with
  | nil => exact fun pl => .refl pl
  | cons v l ih => exact fun pl => (placeStep_ge ps pl v).trans (ih _)
theorem placeStep_lt {ps : List Nat} {n pl v : Nat} (h : pl < 2 ^ n) (hv : v < n) : placeStep ps pl v < 2 ^ n := by
  unfold placeStep
  split
  · refine lt_two_pow_of_bits fun i hi => ?_
    rw [or_pow_bit] at hi
    rcases Bool.or_eq_true_iff.1 hi with hi | hi
    · exact bit_lt h hi
    · obtain rfl := of_decide_eq_true hi; exact hv
  · exact h
theorem placeF_lt {ps : List Nat} {n : Nat} (l : List Nat) (hl : ∀ v ∈ l, v < n) : ∀ pl, pl < 2 ^ n → l.foldl (placeStep ps) pl < 2 ^ n := by
  induction l with
  | nil => exact fun pl h => h
  | cons v l ih => exact fun pl h => ih (fun w hw => hl w (by simp [hw])) _ (placeStep_lt h (hl v (by simp)))
theorem placeOnce_lt {ps : List Nat} {pl : Nat} (h : pl < 2 ^ ps.length) : placeOnce ps pl < 2 ^ ps.length := placeF_lt _ (fun v hv => List.mem_range.1 hv) pl h
theorem placeN_lt {ps : List Nat} : ∀ (k : Nat) {pl : Nat}, pl < 2 ^ ps.length → placeN ps k pl < 2 ^ ps.length
  | 0, _, h => h
  | k + 1, _, h => placeN_lt k (placeOnce_lt h)
def Placed (ps : List Nat) (pl : Nat) : Prop := Closed ps pl ∧ ∀ v, v < ps.length → pl.testBit v = true → (upL ps (ps.getD v 0)).testBit v = false
theorem Placed.step {ps : List Nat} (hp : ∀ p ∈ ps, p < 2 ^ 64) {pl v : Nat} (h : Placed ps pl) (hv : v < ps.length) : Placed ps (placeStep ps pl v) := by
  unfold placeStep
  split
  · rename_i hs
    have hsub := (subN_zero (getD_lt (by decide) hp v)).1 hs
    rcases Bool.eq_false_or_eq_true (pl.testBit v) with hb | hb
    · have e : pl ||| 2 ^ v = pl := Nat.eq_of_testBit_eq fun i => by
        rw [or_pow_bit]
        by_cases hi : v = i
        · subst hi; rw [hb]; rfl
        · simp [hi]
      rw [e]; exact h
    · refine ⟨fun w hw hwb => ?_, fun w hw hwb => ?_⟩
      · rw [or_pow_bit] at hwb
        rcases Bool.or_eq_true_iff.1 hwb with hwb | hwb
        · exact (h.1 w hw hwb).trans (.left _ _)
        · obtain rfl := of_decide_eq_true hwb; exact hsub.trans (.left _ _)
      · rw [or_pow_bit] at hwb
        rcases Bool.or_eq_true_iff.1 hwb with hwb | hwb
        · exact h.2 w hw hwb
        · obtain rfl := of_decide_eq_true hwb
          have hu := upN_closed h.1 ps.length hsub
          rcases Bool.eq_false_or_eq_true ((upL ps (ps.getD v 0)).testBit v) with e | e
          · have := hu v e; rw [hb] at this; cases this
          · exact e
  · exact h
theorem Placed.fold {ps : List Nat} (hp : ∀ p ∈ ps, p < 2 ^ 64) (l : List Nat) (hl : ∀ v ∈ l, v < ps.length) : ∀ pl, Placed ps pl → Placed ps (l.foldl (placeStep ps) pl) := by
  induction l with
  | nil => exact fun pl h => h
  | cons v l ih => exact fun pl h => ih (fun w hw => hl w (by simp [hw])) _ (h.step hp (hl v (by simp)))
theorem Placed.rounds {ps : List Nat} (hp : ∀ p ∈ ps, p < 2 ^ 64) : ∀ (k : Nat) {pl : Nat}, Placed ps pl → Placed ps (placeN ps k pl)
  | 0, _, h => h
  | k + 1, _, h => Placed.rounds hp k (Placed.fold hp _ (fun v hv => List.mem_range.1 hv) _ h)
theorem placeF_sets {ps : List Nat} (hp : ∀ p ∈ ps, p < 2 ^ 64) {v : Nat} (l : List Nat) : ∀ pl, v ∈ l → Sub (ps.getD v 0) pl → (l.foldl (placeStep ps) pl).testBit v = true := by
  induction l with
  | nil => intro pl h; cases h
  | cons w l ih =>
    intro pl h hs
    by_cases hw : v = w
    · subst hw
      refine placeF_ge ps l _ v ?_
      unfold placeStep
      rw [if_pos ((subN_zero (getD_lt (by decide) hp v)).2 hs), or_pow_bit]
      simp
    · exact ih _ (by simpa [hw] using h) (hs.trans (placeStep_ge ps pl w))
theorem cntB_full {n s : Nat} (h : n ≤ cntB n s) : ∀ i, i < n → s.testBit i = true := by
  have h1 : (List.range n).countP (fun i => s.testBit i) = (List.range n).length := by
    have := cntB_le n s
    unfold cntB at this h
    rw [List.length_range]
    omega
  intro i hi
  exact List.countP_eq_length.1 h1 i (List.mem_range.2 hi)
theorem place_all {ps : List Nat} (hp : ∀ p ∈ ps, p < 2 ^ ps.length) (h64 : ps.length ≤ 64) (ha : AcycB ps) : ∀ (k pl : Nat), ps.length ≤ cntB ps.length pl + k → ∀ i, i < ps.length → (placeN ps k pl).testBit i = true := by
  have hp64 : ∀ p ∈ ps, p < 2 ^ 64 := fun p h => Nat.lt_of_lt_of_le (hp p h) (Nat.pow_le_pow_right (by decide) h64)
  intro k
  induction k with
  | zero => exact fun pl h => cntB_full h
  | succ k ih =>
    intro pl h
    refine ih (placeOnce ps pl) ?_
    by_cases hf : ps.length ≤ cntB ps.length pl
    · have h1 := cntB_full hf
      have : ps.length ≤ cntB ps.length (placeOnce ps pl) := by
        have h2 : (List.range ps.length).countP (fun i => (placeOnce ps pl).testBit i) = (List.range ps.length).length := List.countP_eq_length.2 fun i hi => placeF_ge ps _ pl i (h1 i (List.mem_range.1 hi))
        unfold cntB
        rw [h2, List.length_range]
        exact Nat.le_refl _
      omega
    · obtain ⟨q, hq⟩ : ∃ q, q + 1 + cntB ps.length pl = ps.length := ⟨ps.length - cntB ps.length pl - 1, by omega⟩
      obtain ⟨r, hr⟩ := topo_of_acyc hp h64 ha (q + 1) [] pl hq
      unfold topoGo at hr
      cases hn : nextT ps pl with
      | none => rw [hn] at hr; cases hr
      | some v =>
        obtain ⟨v1, v2, v3⟩ := nextT_some hp64 hn
        have := cntB_lt (placeF_ge ps (List.range ps.length) pl) v1 v2 (placeF_sets hp64 _ pl (List.mem_range.2 v1) v3)
        unfold placeOnce
        omega
theorem place_iff {ps : List Nat} (hp : ∀ p ∈ ps, p < 2 ^ ps.length) (h64 : ps.length ≤ 64) : placeN ps ps.length 0 = 2 ^ ps.length - 1 ↔ AcycB ps := by
  have hp64 : ∀ p ∈ ps, p < 2 ^ 64 := fun p h => Nat.lt_of_lt_of_le (hp p h) (Nat.pow_le_pow_right (by decide) h64)
  constructor
  · intro h v hv
    have := Placed.rounds hp64 ps.length (pl := 0) ⟨fun w _ hb => (by rw [Nat.zero_testBit] at hb; cases hb), fun w _ hb => (by rw [Nat.zero_testBit] at hb; cases hb)⟩
    refine this.2 v hv ?_
    rw [h, Nat.testBit_two_pow_sub_one]
    simpa using hv
  · intro h
    have h1 := place_all hp h64 h ps.length 0 (by omega)
    have h2 := placeN_lt (ps := ps) ps.length (pl := 0) (Nat.two_pow_pos _)
    refine Nat.eq_of_testBit_eq fun i => ?_
    rw [Nat.testBit_two_pow_sub_one]
    by_cases hi : i < ps.length
    · rw [h1 i hi]; simp [hi]
    · rcases Bool.eq_false_or_eq_true ((placeN ps ps.length 0).testBit i) with e | e
      · exact absurd (bit_lt h2 e) hi
      · rw [e]; simp [hi]
def GraphOk (ps : List Nat) (n : Nat) : Prop := ps.length = n ∧ (∀ p ∈ ps, p < 2 ^ n) ∧ AcycB ps
noncomputable def graphB (ps : List Nat) (n : Nat) : Bool := @decide (GraphOk ps n) (Classical.propDecidable _)
theorem graphB_true {ps : List Nat} {n : Nat} (h : GraphOk ps n) : graphB ps n = true := by unfold graphB; exact @decide_eq_true _ (Classical.propDecidable _) h
theorem graphB_false {ps : List Nat} {n : Nat} (h : ¬ GraphOk ps n) : graphB ps n = false := by unfold graphB; exact @decide_eq_false _ (Classical.propDecidable _) h
theorem graphB_iff {ps : List Nat} {n : Nat} : graphB ps n = true ↔ GraphOk ps n := by unfold graphB; exact @decide_eq_true_iff _ (Classical.propDecidable _)
end Go.Proofs
set_option maxRecDepth 100000
namespace Go.Proofs
open Go.Hx
theorem shr_zero {p n : Nat} : ((p >>> n : Nat) : Int) = 0 ↔ p < 2 ^ n := by
  rw [Nat.shiftRight_eq_div_pow]
  have : p / 2 ^ n = 0 ↔ p < 2 ^ n := by rw [Nat.div_eq_zero_iff]; constructor
                                         · rintro (h | h)
                                           · exact absurd h (Nat.ne_of_gt (Nat.two_pow_pos n))
                                           · exact h
                                         · exact .inr
  omega
set_option maxHeartbeats 1000000 in
theorem isGraph_spec (ps : List Nat) (n : Nat) (hn : 1 ≤ n ∧ n ≤ 6) (hl : (ps.length : Int) < 2 ^ 39) (hp : ∀ p ∈ ps, p < 2 ^ 64) (H : AHeap) (K : ARes → AHeap → Prop) (hK : K (.ret (.lit (.bool (graphB ps n)))) H) : ACall Tryd.prog G0 53 [vecB ps, lin n] H K := by
  have no : ¬ GraphOk ps n → FinV Tryd.prog G0 H K (.lit (.bool false)) H := fun h => FinV.mk (Nat.le_refl _) (by rw [graphB_false h] at hK; exact hK)
  refine ACall.of_body (n := 50) (rs := [.tmp 4]) Tryd.func53 rfl rfl rfl (by decide) (by kernel_rfl) (by simp) ?_
  by_cases hln : (ps.length : Int) = n
  rotate_left
  · simp (config := { maxSteps := 1000000 }) only [go_sem, hln, appendA_U]
    exact no fun h => hln (by rw [h.1])
  simp (config := { maxSteps := 1000000 }) only [go_sem, hln, appendA_U]
  refine W.loop0 33488976 (by rfl) (fun ρ H' => H' = H ∧ ∃ k : Nat, ρ 16 = lin k ∧ k ≤ ps.length ∧ ∀ p ∈ ps.take k, p < 2 ^ n) (fun ρ H => ps.length - (iv (ρ 16)).toNat) ?_ ?_
  · simp (config := { maxSteps := 1000000 }) only [go_sem, appendA_U]
    exact ⟨0, rfl, by omega, by simp⟩
  rintro ρ H' ⟨rfl, k, h16, hk, hall⟩
  refine vc_sound _ _ _ (by rfl) ?_
  by_cases hb : (k : Int) < n
  · obtain ⟨p, hpk⟩ := get_of_lt (l := ps) (i := k) (by omega)
    have hne := ne_of_get hpk
    have hpm := List.mem_of_getElem? hpk
    have s1 := fun t x y => shrB (P := Tryd.prog) (t := t) (x := x) (y := y) (k' := .i64) (s := n) (hp p hpm)
    have w1 := IntWalk.i64_in ((k : Int) + 1) (by omega)
    by_cases hz : ((p >>> n : Nat) : Int) = 0
    · simp (config := { maxSteps := 1000000 }) only [go_sem, h16, hb, hln, hpk, hne, s1, hz, w1, appendA_U]
      refine ⟨⟨k + 1, rfl, by omega, fun q hq => ?_⟩, by omega⟩
      rw [take_succ_get hpk] at hq
      rcases List.mem_append.1 hq with hq | hq
      · exact hall q hq
      · obtain rfl := List.mem_singleton.1 hq; exact shr_zero.1 hz
    · simp (config := { maxSteps := 1000000 }) only [go_sem, h16, hb, hln, hpk, hne, s1, hz, appendA_U]
      exact no fun h => hz (shr_zero.2 (h.2.1 p hpm))
  rw [List.take_of_length_le (by omega)] at hall
  have hpn : ∀ p ∈ ps, p < 2 ^ ps.length := fun p h => by have := hall p h; rw [show ps.length = n by omega]; exact this
  have hb2n : 2 ^ n ≤ 2 ^ 6 := Nat.pow_le_pow_right (by decide) hn.2
  have h64 : ∀ m : Nat, m < 2 ^ n → m < 2 ^ 64 := fun m h => by omega
  simp (config := { maxSteps := 1000000 }) only [go_sem, h16, hb, hln, appendA_U]
  refine W.loop0 35184304980864 (by rfl) (fun ρ H2 => H2 = H' ∧ ∃ k : Nat, ρ 26 = lin k ∧ k ≤ n ∧ ρ 7 = bitV (placeN ps k 0)) (fun ρ H => n - (iv (ρ 26)).toNat) ?_ ?_
  · simp (config := { maxSteps := 1000000 }) only [go_sem, appendA_U]
    exact ⟨0, rfl, by omega, rfl⟩
  rintro ρ2 H2 ⟨rfl, i, h26, hi, h7⟩
  refine vc_sound _ _ _ (by rfl) ?_
  have hpl := placeN_lt (ps := ps) i (Nat.two_pow_pos _)
  rw [show ps.length = n by omega] at hpl
  by_cases hb2 : (i : Int) < n
  rotate_left
  · obtain rfl : i = n := by omega
    have s3 := fun t x y => shlB (P := Tryd.prog) (t := t) (x := x) (y := y) (k' := .i64) (s := i) (by omega)
    have w2 : IntKind.u64.wrap (((2 ^ i : Nat) : Int) - 1) = ((2 ^ i - 1 : Nat) : Int) := by rw [IntWalk.u64_in _ (by omega)]; have := Nat.two_pow_pos i; omega
    have key : GraphOk ps i ↔ placeN ps i 0 = 2 ^ i - 1 := by
      have := place_iff hpn (by omega)
      rw [show ps.length = i by omega] at this
      exact ⟨fun h => this.2 h.2.2, fun h => ⟨by omega, hall, this.1 h⟩⟩
    by_cases hq : ((placeN ps i 0 : Nat) : Int) = ((2 ^ i - 1 : Nat) : Int)
    · simp (config := { maxSteps := 1000000 }) only [go_sem, h26, h7, hb2, hln, s3, w2, hq, appendA_U]
      rw [graphB_true (key.2 (by omega))] at hK
      exact FinV.mk (Nat.le_refl _) hK
    · simp (config := { maxSteps := 1000000 }) only [go_sem, h26, h7, hb2, hln, s3, w2, hq, appendA_U]
      exact no fun h => hq (by rw [key.1 h])
  simp (config := { maxSteps := 1000000 }) only [go_sem, h26, h7, hb2, hln, appendA_U]
  refine W.loop0 17591112303488 (by rfl) (fun ρ3 H3 => H3 = H2 ∧ ∃ v : Nat, ρ3 30 = lin v ∧ v ≤ ps.length ∧ ρ3 7 = bitV ((List.range v).foldl (placeStep ps) (placeN ps i 0))) (fun ρ3 H => ps.length - (iv (ρ3 30)).toNat) ?_ ?_
  · simp (config := { maxSteps := 1000000 }) only [go_sem, h7, appendA_U]
    exact ⟨0, rfl, by omega, rfl⟩
  rintro ρ3 H3 ⟨rfl, v, h30, hv, h7'⟩
  refine vc_sound _ _ _ (by rfl) ?_
  obtain ⟨m, hm⟩ : ∃ m, m = (List.range v).foldl (placeStep ps) (placeN ps i 0) := ⟨_, rfl⟩
  have hml : m < 2 ^ n := by rw [hm]; exact placeF_lt _ (fun w hw => by have := List.mem_range.1 hw; omega) _ hpl
  by_cases hb3 : (v : Int) < n
  · obtain ⟨p, hpv⟩ := get_of_lt (l := ps) (i := v) (by omega)
    have hne := ne_of_get hpv
    have w1 := IntWalk.i64_in ((v : Int) + 1) (by omega)
    have s3 := fun t x y => shlB (P := Tryd.prog) (t := t) (x := x) (y := y) (k' := .i64) (s := v) (by omega)
    have s4 := fun t x y => subB (P := Tryd.prog) (t := t) (x := x) (y := y) (a := p) (b := m)
    have s5 := fun t x y => orB (P := Tryd.prog) (t := t) (x := x) (y := y) (h64 m hml) (h64 (2 ^ v) (Nat.pow_lt_pow_right (by decide) (by omega)))
    have hst : (List.range (v + 1)).foldl (placeStep ps) (placeN ps i 0) = placeStep ps m v := by rw [List.range_succ, List.foldl_append, hm]; rfl
    rw [← hm] at h7'
    by_cases hz : ((subN p m : Nat) : Int) = 0
    · simp (config := { maxSteps := 1000000 }) only [go_sem, h30, h7', hb3, hln, hpv, hne, s3, s4, s5, hz, w1, appendA_U]
      refine ⟨⟨v + 1, rfl, by omega, by rw [hst]; unfold placeStep; rw [getD_of_get hpv, if_pos (by omega)]⟩, by omega⟩
    · simp (config := { maxSteps := 1000000 }) only [go_sem, h30, h7', hb3, hln, hpv, hne, s4, hz, w1, appendA_U]
      refine ⟨⟨v + 1, rfl, by omega, by rw [hst]; unfold placeStep; rw [getD_of_get hpv, if_neg (by omega)]⟩, by omega⟩
  · obtain rfl : v = ps.length := by omega
    have w1 := IntWalk.i64_in ((i : Int) + 1) (by omega)
    have hnn : ¬ ((n : Int) < n) := Int.lt_irrefl _
    simp (config := { maxSteps := 1000000 }) only [go_sem, h30, h7', hb3, hnn, hln, h26, w1, appendA_U]
    exact ⟨⟨i + 1, rfl, by omega, by rw [placeN_succ]; rfl⟩, by omega⟩
end Go.Proofs
namespace Go.Hx
variable {P : Program} {G : Nat → Option (List AVal)} {rd : Option Nat} {Q : AX → St → Prop} {K : St → Prop} {KF : FP → St → Prop} {s : St} {d : Option Tmp} {ty : TypeId} {pos : String} {aft : Array Edge} {g : Option (Nat × Bool)}
@[go_sem] theorem opV_makeMap (t : TypeId) : opV P G rd Q ⟨d, .makeMap t none, ty, pos, aft, g⟩ K s = wpo (s.H.lay s.H.next (.mp [])) fun H' => K ⟨putA s.ρ d (.yld s.H.next), H'⟩ := by
  simp [opV, opA, wpo_map]
@[go_sem] theorem opV_lookup (t : TypeId) (x i : Operand) (ok : Bool) : opV P G rd Q ⟨d, .lookup t x i ok, ty, pos, aft, g⟩ K s = wpo (lookupA P s.H t (evA G s.ρ x) (evA G s.ρ i) ok) fun v => K ⟨putA s.ρ d v, s.H⟩ := by
  simp [opV, opA, wpo_map]
@[go_sem] theorem opV_mapUpdate (t : TypeId) (m k x : Operand) : opV P G rd Q ⟨d, .mapUpdate t m k x, ty, pos, aft, g⟩ K s = wpo (mapUpdA P s.H t (evA G s.ρ m) (evA G s.ρ k) (evA G s.ρ x)) fun vH => K ⟨putA s.ρ d vH.1, vH.2⟩ := by
  simp [opV, opA]
@[go_sem] theorem opD_lookup (t : TypeId) (x i : Operand) (ok : Bool) : opD P G ⟨d, .lookup t x i ok, ty, pos, aft, g⟩ KF s = opV P G none QF ⟨d, .lookup t x i ok, ty, pos, aft, g⟩ (KF ⟨[], idsM (evA G s.ρ x)⟩) s := (rfl)
@[go_sem] theorem opD_mapUpdate (t : TypeId) (m k x : Operand) : opD P G ⟨d, .mapUpdate t m k x, ty, pos, aft, g⟩ KF s = opV P G none QF ⟨d, .mapUpdate t m k x, ty, pos, aft, g⟩ (KF ⟨idsM (evA G s.ρ m), idsM (evA G s.ρ m)⟩) s := (rfl)
@[go_sem] theorem partU_map (a b : TypeId) (n : Nat) (cells : List AVal) (off : Nat) : partU (some (.map a b)) n cells off = cells[off]? := rfl
@[go_sem] theorem cells_yld (id : Nat) : (AVal.yld id).cells = [.yld id] := rfl
@[go_sem] theorem one_yld (id : Nat) : (AVal.yld id).one = true := rfl
@[go_sem] theorem idsM_yld (id : Nat) : idsM (.yld id) = [id] := rfl
end Go.Hx
namespace Go.Hx
def mpV (es : List (Int × Int)) (k : Int) : Int := ((mpFind k 0 es).map Prod.snd).getD 0
theorem mpFind_ge {k : Int} : ∀ {es : List (Int × Int)} {s i : Nat} {w : Int}, mpFind k s es = some (i, w) → s ≤ i := by
  intro es
  induction es with
  | nil => intro s i w h; cases h
  | cons a es ih =>
    intro s i w h
    obtain ⟨a, b⟩ := a
    unfold mpFind at h
    split at h
    · cases h; exact Nat.le_refl _
    · have := ih h; omega
theorem mpFind_set {k v : Int} : ∀ {es : List (Int × Int)} {s i : Nat} {w : Int}, mpFind k s es = some (i, w) → ∀ (j : Int) (t : Nat), (mpFind j t (es.set (i - s) (k, v))).map Prod.snd = if j = k then some v else (mpFind j t es).map Prod.snd := by
  intro es
  induction es with
  | nil => intro s i w h; cases h
  | cons a es ih =>
    intro s i w h j t
    obtain ⟨a, b⟩ := a
    unfold mpFind at h
    split at h
    · rename_i e
      subst e
      cases h
      rw [Nat.sub_self, List.set_cons_zero]
      unfold mpFind
      by_cases hj : j = k
      · rw [if_pos hj, if_pos hj]; rfl
      · rw [if_neg hj, if_neg hj, if_neg hj]
    · rename_i e
      have h1 := mpFind_ge h
      rw [show i - s = (i - (s + 1)) + 1 by omega, List.set_cons_succ]
      unfold mpFind
      by_cases hj : j = a
      · rw [if_pos hj, if_pos hj, if_neg (fun h' => e (by rw [← h', hj]))]
      · rw [if_neg hj, if_neg hj]; exact ih h j (t + 1)
theorem mpFind_app {k v : Int} : ∀ {es : List (Int × Int)} {s : Nat}, mpFind k s es = none → ∀ (j : Int) (t : Nat), (mpFind j t (es ++ [(k, v)])).map Prod.snd = if j = k then some v else (mpFind j t es).map Prod.snd := by
  intro es
  induction es with
  | nil =>
    intro s _ j t
    rw [List.nil_append]
    unfold mpFind
    by_cases hj : j = k
    · rw [if_pos hj, if_pos hj]; rfl
    · rw [if_neg hj, if_neg hj]; rfl
  | cons a es ih =>
    intro s h j t
    obtain ⟨a, b⟩ := a
    unfold mpFind at h
    split at h
    · cases h
    · rename_i e
      rw [List.cons_append]
      unfold mpFind
      by_cases hj : j = a
      · rw [if_pos hj, if_pos hj, if_neg (fun h' => e (by rw [← h', hj]))]
      · rw [if_neg hj, if_neg hj]; exact ih h j (t + 1)
theorem mpV_put (es : List (Int × Int)) (k v j : Int) : mpV (mpPut es k v) j = if j = k then v else mpV es j := by
  unfold mpV mpPut
  cases h : mpFind k 0 es with
  | none =>
    simp only
    rw [mpFind_app h]
    split <;> rfl
  | some p =>
    obtain ⟨i, w⟩ := p
    simp only
    have := mpFind_set (v := v) h j 0
    rw [Nat.sub_zero] at this
    rw [this]
    split <;> rfl
theorem mpRes_V (es : List (Int × Int)) (k : Int) : mpRes false (mpFind k 0 es) = .lit (.int .i64 (mpV es k)) := by
  unfold mpV
  cases mpFind k 0 es with
  | none => rfl
  | some p => rfl
end Go.Hx
namespace Go.Proofs
open Go.Hx
def parOk (P r : List Int) : Bool := decide (∀ p ∈ P, ¬ r.getD p.toNat 0 < 0)
def rowI (cs P r : List Int) : Int := idxL (atL cs P) (atL r P)
def keyC (cs P : List Int) (v : Nat) (r : List Int) : Option Int := if ¬ r.getD v 0 < 0 ∧ parOk P r = true then some (rowI cs P r * cs.getD v 0 + r.getD v 0) else none
def tabStep (cs P : List Int) (v : Nat) (es : List (Int × Int)) (r : List Int) : List (Int × Int) := match keyC cs P v r with
  | some k => mpPut es k (mpV es k + 1)
  | none => es
def cntF (cs P : List Int) (v : Nat) (xs : List (List Int)) (k : Int) : Nat := xs.countP fun r => decide (keyC cs P v r = some k)
theorem tab_count (cs P : List Int) (v : Nat) (xs : List (List Int)) : ∀ (es : List (Int × Int)) (k : Int), mpV (xs.foldl (tabStep cs P v) es) k = mpV es k + cntF cs P v xs k := by
  induction xs with
  | nil => intro es k; simp [cntF]
  | cons r xs ih =>
    intro es k
    rw [List.foldl_cons, ih]
    unfold cntF
    rw [List.countP_cons]
    unfold tabStep
    cases h : keyC cs P v r with
    | none => simp
    | some q =>
      simp only
      rw [mpV_put]
      by_cases hq : k = q
      · subst hq; simp; omega
      · have hq' : ¬ q = k := fun e => hq e.symm
        simp [hq, hq']
theorem cntF_le (cs P : List Int) (v : Nat) (xs : List (List Int)) (k : Int) : cntF cs P v xs k ≤ xs.length := List.countP_le_length
def parsL (n s : Nat) : List Int := ((List.range n).filter fun p => s.testBit p).map fun (p : Nat) => (p : Int)
theorem parsL_rng {n s : Nat} : ∀ p ∈ parsL n s, 0 ≤ p ∧ p < n := fun p hp => by
  obtain ⟨q, hq, rfl⟩ := List.mem_map.1 hp
  have := List.mem_range.1 (List.mem_filter.1 hq).1
  omega
theorem parsL_len (n s : Nat) : (parsL n s).length ≤ n := by
  unfold parsL
  rw [List.length_map]
  have := List.length_filter_le (fun p => s.testBit p) (List.range n)
  rw [List.length_range] at this
  exact this
theorem parsL_succ (n s : Nat) : parsL (n + 1) s = if s.testBit n then parsL n s ++ [(n : Int)] else parsL n s := by
  unfold parsL
  rw [List.range_succ, List.filter_append]
  by_cases h : s.testBit n = true
  · rw [if_pos h]; simp [h]
  · rw [if_neg h]; simp [h]
def cntsL (cs P : List Int) (v : Nat) (xs : List (List Int)) (prior : Int) (j : Nat) : List Int := (List.range (cs.getD v 0).toNat).map fun (k : Nat) => prior + (cntF cs P v xs ((j : Int) * cs.getD v 0 + k) : Int)
theorem cntsL_len (cs P : List Int) (v : Nat) (xs : List (List Int)) (prior : Int) (j : Nat) : (cntsL cs P v xs prior j).length = (cs.getD v 0).toNat := by simp [cntsL]
theorem cntsL_get {cs P : List Int} {v : Nat} {xs : List (List Int)} {prior : Int} {j k : Nat} (h : k < (cs.getD v 0).toNat) : (cntsL cs P v xs prior j)[k]? = some (prior + (cntF cs P v xs ((j : Int) * cs.getD v 0 + k) : Int)) := by
  unfold cntsL; rw [List.getElem?_map, List.getElem?_range h]; rfl
theorem cntsL_rng {cs P : List Int} {v : Nat} {xs : List (List Int)} {prior : Int} {j : Nat} (hp : 0 ≤ prior ∧ prior ≤ 10) (hx : xs.length ≤ 40) : ∀ x ∈ cntsL cs P v xs prior j, 0 ≤ x ∧ x ≤ 50 := fun x h => by
  obtain ⟨k, _, rfl⟩ := List.mem_map.1 h
  have := cntF_le cs P v xs ((j : Int) * cs.getD v 0 + k)
  omega
structure FitN (cs : List Int) (xs : List (List Int)) (grain prior least : Int) (n v s : Nat) (x : NodeP) : Prop where
  card : x.card = cs.getD v 0
  par : x.parents = parsL n s
  len : (x.rows.length : Int) = prodL (atL cs (parsL n s))
  row : ∀ j r, x.rows[j]? = some r → ShareOk least (spareOf grain least (cntsL cs (parsL n s) v xs prior j)) (cntsL cs (parsL n s) v xs prior j) r
def FitK (cs : List Int) (xs : List (List Int)) (ps : List Nat) (grain prior least : Int) (k : Nat) (ns : List NodeP) : Prop := ns.length = k ∧ ∀ (v s : Nat) (x : NodeP), ps[v]? = some s → ns[v]? = some x → FitN cs xs grain prior least ps.length v s x
theorem FitN.unique {cs : List Int} {xs : List (List Int)} {grain prior least : Int} {n v s : Nat} {x y : NodeP} (hx : FitN cs xs grain prior least n v s x) (hy : FitN cs xs grain prior least n v s y) : x = y := by
  obtain ⟨xc, xp, xr⟩ := x
  obtain ⟨yc, yp, yr⟩ := y
  obtain ⟨a1, a2, a3, a4⟩ := hx
  obtain ⟨b1, b2, b3, b4⟩ := hy
  simp only at a1 a2 a3 a4 b1 b2 b3 b4
  have hl : xr.length = yr.length := by omega
  have hr : xr = yr := by
    apply List.ext_getElem?
    intro j
    rcases Nat.lt_or_ge j xr.length with h | h
    · obtain ⟨r, h1⟩ := get_of_lt h
      obtain ⟨q, h2⟩ := get_of_lt (l := yr) (i := j) (by omega)
      rw [h1, h2, (a4 j r h1).unique (b4 j q h2)]
    · rw [List.getElem?_eq_none h, List.getElem?_eq_none (by omega)]
  rw [a1, a2, b1, b2, hr]
theorem FitK.unique {cs : List Int} {xs : List (List Int)} {ps : List Nat} {grain prior least : Int} {ns ns' : List NodeP} (h : FitK cs xs ps grain prior least ps.length ns) (h' : FitK cs xs ps grain prior least ps.length ns') : ns = ns' := by
  apply List.ext_getElem?
  intro v
  rcases Nat.lt_or_ge v ps.length with hv | hv
  · obtain ⟨s, hs⟩ := get_of_lt hv
    obtain ⟨x, hx⟩ := get_of_lt (l := ns) (i := v) (by rw [h.1]; exact hv)
    obtain ⟨y, hy⟩ := get_of_lt (l := ns') (i := v) (by rw [h'.1]; exact hv)
    rw [hx, hy, (h.2 v s x hs hx).unique (h'.2 v s y hs hy)]
  · rw [List.getElem?_eq_none (by rw [h.1]; exact hv), List.getElem?_eq_none (by rw [h'.1]; exact hv)]
theorem FitK.snoc {cs : List Int} {xs : List (List Int)} {ps : List Nat} {grain prior least : Int} {k s : Nat} {ns : List NodeP} {x : NodeP} (h : FitK cs xs ps grain prior least k ns) (hs : ps[k]? = some s) (hx : FitN cs xs grain prior least ps.length k s x) : FitK cs xs ps grain prior least (k + 1) (ns ++ [x]) := by
  refine ⟨by simp [h.1], fun v s' x' hs' hx' => ?_⟩
  rcases Nat.lt_or_ge v ns.length with hv | hv
  · rw [List.getElem?_append_left hv] at hx'
    exact h.2 v s' x' hs' hx'
  · have := get_lt hx'
    rw [List.length_append, List.length_singleton] at this
    obtain rfl : v = ns.length := by omega
    rw [List.getElem?_append_right (Nat.le_refl _), Nat.sub_self] at hx'
    cases hx'
    rw [h.1] at hs' ⊢
    rw [hs] at hs'
    cases hs'
    exact hx
def WantOk (cs : List Int) (grain prior least : Int) : Prop := (1 ≤ grain ∧ grain ≤ 60) ∧ (0 ≤ prior ∧ prior ≤ 10) ∧ (0 ≤ least ∧ least ≤ grain) ∧ ∀ c ∈ cs, least * c ≤ grain
noncomputable def fitE (cs : List Int) (xs : List (List Int)) (ps : List Nat) (grain prior least : Int) : Int := if dataB cs xs = true then (@ite _ (GraphOk ps cs.length ∧ WantOk cs grain prior least) (Classical.propDecidable _) 0 2) else 250
theorem fitE_data {cs : List Int} {xs : List (List Int)} {ps : List Nat} {grain prior least : Int} (h : dataB cs xs = false) : fitE cs xs ps grain prior least = 250 := by unfold fitE; rw [if_neg (by rw [h]; decide)]
theorem fitE_arg {cs : List Int} {xs : List (List Int)} {ps : List Nat} {grain prior least : Int} (h : dataB cs xs = true) (h2 : ¬ (GraphOk ps cs.length ∧ WantOk cs grain prior least)) : fitE cs xs ps grain prior least = 2 := by
  unfold fitE; rw [if_pos h]; exact @if_neg _ (Classical.propDecidable _) h2 _ _ _
theorem fitE_ok {cs : List Int} {xs : List (List Int)} {ps : List Nat} {grain prior least : Int} (h : dataB cs xs = true) (h2 : GraphOk ps cs.length ∧ WantOk cs grain prior least) : fitE cs xs ps grain prior least = 0 := by
  unfold fitE; rw [if_pos h]; exact @if_pos _ (Classical.propDecidable _) h2 _ _ _
structure ParIn (cs P : List Int) : Prop where
  rng : ∀ p ∈ P, 0 ≤ p ∧ p < cs.length
  len : P.length ≤ 6
  card : ∀ c ∈ cs, 2 ≤ c ∧ c ≤ 4
theorem ParIn.at_get {cs P r : List Int} (h : ParIn cs P) (hr : r.length = cs.length) {k : Nat} {q : Int} (hq : P[k]? = some q) : ∃ (j : Nat) (c b : Int), q = j ∧ cs[j]? = some c ∧ r[j]? = some b ∧ (atL cs P)[k]? = some c ∧ (atL r P)[k]? = some b := by
  obtain ⟨j, rfl, c, hc⟩ := get_of_int (l := cs) (h.rng q (List.mem_of_getElem? hq)).1 (h.rng q (List.mem_of_getElem? hq)).2
  obtain ⟨b, hb⟩ := get_of_lt (l := r) (i := j) (by rw [hr]; exact get_lt hc)
  exact ⟨j, c, b, rfl, hc, hb, by rw [atL_get hq, Int.toNat_natCast, getD_of_get hc], by rw [atL_get hq, Int.toNat_natCast, getD_of_get hb]⟩
theorem ParIn.fits {cs P r : List Int} (h : ParIn cs P) (hc : CaseOk cs r) (hp : parOk P r = true) : FitsC (atL cs P) (atL r P) := by
  refine ⟨by rw [atL_len, atL_len], fun k c v h1 h2 => ?_⟩
  obtain ⟨q, hq⟩ := get_of_lt (l := P) (i := k) (by have := get_lt h1; rw [atL_len] at this; exact this)
  obtain ⟨j, c', b, rfl, hc', hb, e1, e2⟩ := h.at_get hc.1 hq
  rw [h1] at e1; rw [h2] at e2
  cases e1; cases e2
  have := hc.2 j _ _ hc' hb
  have hp' := of_decide_eq_true hp j (List.mem_of_getElem? hq)
  rw [Int.toNat_natCast, getD_of_get hb] at hp'
  omega
theorem ParIn.small {cs P : List Int} (h : ParIn cs P) : SmallC (atL cs P) ∧ ∀ c ∈ atL cs P, 2 ≤ c ∧ c ≤ 4 := by
  have h4 : ∀ c ∈ atL cs P, 2 ≤ c ∧ c ≤ 4 := fun c hc => by
    obtain ⟨q, hq, rfl⟩ := List.mem_map.1 hc
    obtain ⟨j, rfl, c, hc⟩ := get_of_int (l := cs) (h.rng q hq).1 (h.rng q hq).2
    rw [Int.toNat_natCast, getD_of_get hc]
    exact h.card c (List.mem_of_getElem? hc)
  exact ⟨⟨by rw [atL_len]; have := h.len; omega, fun x hx => by have := h4 x hx; omega⟩, h4⟩
theorem ParIn.prod {cs P : List Int} (h : ParIn cs P) (k : Nat) : 1 ≤ prodL ((atL cs P).take k) ∧ prodL ((atL cs P).take k) ≤ 4096 := small4 (fun c hc => h.small.2 c (List.mem_of_mem_take hc)) (by rw [List.length_take, atL_len]; have := h.len; omega)
theorem rowOf_gen {cs P r : List Int} (h : ParIn cs P) (hc : CaseOk cs r) (hp : parOk P r = true) (hcl : (cs.length : Int) < 2 ^ 38) (H : AHeap) (K : ARes → AHeap → Prop)
    (hK : K (.ret (lin (rowI cs P r))) H) : ACall Tryd.prog G0 69 [vecI cs, vecI P, vecI r] H K := by
  have pl : (atL cs P).length = P.length := atL_len _ _
  have vl : (atL r P).length = P.length := atL_len _ _
  have hf := h.fits hc hp
  have ft : ∀ k, FitsC ((atL cs P).take k) ((atL r P).take k) := fun k => ⟨by simp [pl, vl], fun i c b h1 h2 => by
    rw [List.getElem?_take] at h1 h2
    split at h1
    · rename_i hik
      rw [if_pos hik] at h2
      exact hf.2 i c b h1 h2
    · cases h1⟩
  have hr : ∀ k, 0 ≤ hornL ((atL cs P).take k) ((atL r P).take k) ∧ hornL ((atL cs P).take k) ((atL r P).take k) < 4096 := fun k => by
    rw [hornL_eq (ft k).1]
    have a := idxL_range (ft k)
    have b := h.prod k
    omega
  have plen := h.len
  refine ACall.of_body (n := 29) (rs := [.tmp 6]) Tryd.func69 rfl rfl rfl (by decide) (by kernel_rfl) (by simp) ?_
  simp (config := { maxSteps := 1000000 }) only [go_sem, appendA_U]
  refine W.loop0 268432000 (by rfl) (fun ρ H' => H' = H ∧ ∃ k : Nat, ρ 12 = lin k ∧ k ≤ P.length ∧ ρ 7 = lin (hornL ((atL cs P).take k) ((atL r P).take k))) (fun ρ H => P.length - (iv (ρ 12)).toNat) ?_ ?_
  · simp (config := { maxSteps := 1000000 }) only [go_sem, appendA_U]
    exact ⟨0, rfl, by omega, rfl⟩
  rintro ρ H' ⟨rfl, k, h16, hk, h7⟩
  refine vc_sound _ _ _ (by rfl) ?_
  by_cases hb : (k : Int) < P.length
  · obtain ⟨q, hq⟩ := get_of_lt (l := P) (i := k) (by omega)
    obtain ⟨j, c, b, rfl, hcj, hbv, a1, a2⟩ := h.at_get hc.1 hq
    have a3 := hf.2 k _ _ a1 a2
    have c4 := h.card c (List.mem_of_getElem? hcj)
    have hne2 := ne_of_get hq
    have hne3 := ne_of_get hbv
    have hne := ne_of_get hcj
    have hj : (j : Int) < cs.length := by have := get_lt hcj; omega
    have hj2 : (j : Int) < r.length := by have := get_lt hbv; omega
    have w1 := IntWalk.i64_in ((k : Int) + 1) (by omega)
    have r1 := hr (k + 1)
    rw [hornL_snoc a1 a2] at r1
    have r0 := hr k
    have m0 : 0 ≤ hornL ((atL cs P).take k) ((atL r P).take k) * c := Int.mul_nonneg r0.1 (by omega)
    have w2 := IntWalk.i64_in (hornL ((atL cs P).take k) ((atL r P).take k) * c) (by omega)
    have w3 := IntWalk.i64_in (hornL ((atL cs P).take k) ((atL r P).take k) * c + b) (by omega)
    simp (config := { maxSteps := 1000000 }) only [go_sem, h16, h7, hb, hq, hne2, appendA_U]
    refine W.draw 10 [0, 0, 0, 6, 14, 31, 0, 0, 192, 448] Tryd.mixed (by kernel_rfl) (by kernel_rfl) ?_
    simp (config := { maxSteps := 1000000 }) only [go_sem, h16, h7, hb, hq, hne, hne2, hne3, hj, hj2, hbv, hcj, w1, w2, w3, appendA_U]
    exact ⟨⟨k + 1, by simp, by omega, by rw [hornL_snoc a1 a2]⟩, by omega⟩
  · simp (config := { maxSteps := 1000000 }) only [go_sem, h16, h7, hb, appendA_U]
    rw [List.take_of_length_le (by omega), List.take_of_length_le (by omega), hornL_eq (by rw [pl, vl])]
    exact FinV.mk (Nat.le_refl _) hK
set_option maxHeartbeats 1000000 in
theorem tally1_spec {cs P r : List Int} {xs : List (List Int)} {v : Nat} {es : List (Int × Int)} (h : ParIn cs P) (hc : CaseOk cs r) (hcl : (cs.length : Int) < 2 ^ 38) (hv : v < cs.length) (hes : ∀ k, 0 ≤ mpV es k ∧ mpV es k ≤ 1000) (H : AHeap) (bv bp bt bd m : Nat)
    (gv : H.get bv = some (.arr 0 3 [lin v])) (gp : H.get bp = some (.arr 0 22 [vecI P])) (gt : H.get bt = some (.arr 0 119 [.yld m])) (gd : H.get bd = some (.arr 0 50 [vecI cs, vecV xs])) (gm : H.get m = some (.mp es)) (hm : m < H.next)
    (K : ARes → AHeap → Prop) (hK : ∀ H', H'.get m = some (.mp (tabStep cs P v es r)) → (∀ j, j ≠ m → H'.get j = H.get j) → H'.next = H.next → K (.ret (.tup [])) H') :
    ACall Tryd.prog G0 83 [vecI r, .ptr bv 0 0, .ptr bp 0 0, .ptr bt 0 0, .ptr bd 0 0] H K := by
  have lv := get_live gv
  have lp := get_live gp
  have lt := get_live gt
  have ld := get_live gd
  obtain ⟨x, hx⟩ := get_of_lt (l := r) (i := v) (by rw [hc.1]; exact hv)
  obtain ⟨c, hcv⟩ := get_of_lt (l := cs) (i := v) hv
  have hxn := ne_of_get hx
  have hcn := ne_of_get hcv
  have rl := hc.1
  have hvr : (v : Int) < r.length := by omega
  have hvc : (v : Int) < cs.length := by omega
  have c4 := h.card c (List.mem_of_getElem? hcv)
  have hx2 := hc.2 v c x hcv hx
  have plen := h.len
  have skip : keyC cs P v r = none → FinV Tryd.prog G0 H K (.tup []) H := fun hk => FinV.mk (Nat.le_refl _) (hK H (by unfold tabStep; rw [hk]; exact gm) (fun _ _ => rfl) rfl)
  refine ACall.of_body (n := 44) (rs := []) Tryd.func83 rfl rfl rfl (by decide) (by kernel_rfl) (by simp) ?_
  by_cases hx0 : x < 0
  · simp (config := { maxSteps := 1000000 }) only [go_sem, lv, hx, hxn, hvr, hx0, appendA_U]
    exact skip (by unfold keyC; rw [if_neg]; rw [getD_of_get hx]; exact fun hh => hh.1 hx0)
  simp (config := { maxSteps := 1000000 }) only [go_sem, lv, lp, hx, hxn, hvr, hx0, appendA_U]
  refine W.loop0 33521792 (by rfl) (fun ρ H' => H' = H ∧ ∃ k : Nat, ρ 15 = lin k ∧ k ≤ P.length ∧ ∀ p ∈ P.take k, ¬ r.getD p.toNat 0 < 0) (fun ρ H => P.length - (iv (ρ 15)).toNat) ?_ ?_
  · simp (config := { maxSteps := 1000000 }) only [go_sem, appendA_U]
    exact ⟨0, rfl, by omega, by simp⟩
  rintro ρ H' ⟨rfl, k, h15, hk, hall⟩
  refine vc_sound _ _ _ (by rfl) ?_
  by_cases hb : (k : Int) < P.length
  · obtain ⟨q, hq⟩ := get_of_lt (l := P) (i := k) (by omega)
    obtain ⟨j, cj, b, rfl, hcj, hbj, a1, a2⟩ := h.at_get hc.1 hq
    have hqn := ne_of_get hq
    have hbn := ne_of_get hbj
    have hjr : (j : Int) < r.length := by have := get_lt hbj; omega
    by_cases hb0 : b < 0
    · simp (config := { maxSteps := 1000000 }) only [go_sem, h15, hb, hq, hqn, hbj, hbn, hjr, hb0, appendA_U]
      refine skip ?_
      unfold keyC
      rw [if_neg]
      intro hh
      have := of_decide_eq_true hh.2 j (List.mem_of_getElem? hq)
      rw [Int.toNat_natCast, getD_of_get hbj] at this
      exact this hb0
    · have w1 := IntWalk.i64_in ((k : Int) + 1) (by omega)
      simp (config := { maxSteps := 1000000 }) only [go_sem, h15, hb, hq, hqn, hbj, hbn, hjr, hb0, w1, appendA_U]
      refine ⟨⟨k + 1, rfl, by omega, fun p hp => ?_⟩, by omega⟩
      rw [take_succ_get hq] at hp
      rcases List.mem_append.1 hp with hp | hp
      · exact hall p hp
      · obtain rfl := List.mem_singleton.1 hp
        rw [Int.toNat_natCast, getD_of_get hbj]; exact hb0
  rw [List.take_of_length_le (by omega)] at hall
  have hpo : parOk P r = true := decide_eq_true hall
  have hkey : keyC cs P v r = some (rowI cs P r * c + x) := by unfold keyC; rw [if_pos ⟨by rw [getD_of_get hx]; exact hx0, hpo⟩, getD_of_get hx, getD_of_get hcv]
  have hri := idxL_range (h.fits hc hpo)
  have hpr := h.prod (atL cs P).length
  rw [List.take_of_length_le (Nat.le_refl _)] at hpr
  have hri' : 0 ≤ rowI cs P r ∧ rowI cs P r < 4096 := ⟨hri.1, by unfold rowI; omega⟩
  have m0 : 0 ≤ rowI cs P r * c := Int.mul_nonneg hri'.1 (by omega)
  have m1 : rowI cs P r * c ≤ 4096 * 4 := Int.mul_le_mul (by omega) c4.2 (by omega) (by omega)
  have w2 := IntWalk.i64_in (rowI cs P r * c) (by omega)
  have w3 := IntWalk.i64_in (rowI cs P r * c + x) (by omega)
  have eb := hes (rowI cs P r * c + x)
  have w4 := IntWalk.i64_in (mpV es (rowI cs P r * c + x) + 1) (by omega)
  have isM : isIntMap Tryd.prog 119 = true := by kernel_rfl
  have hlk : lookupA Tryd.prog H' 119 (.yld m) (.lit (.int .i64 (rowI cs P r * c + x))) false = some (.lit (.int .i64 (mpV es (rowI cs P r * c + x)))) := by
    unfold lookupA
    rw [if_pos isM]
    simp only [gm]
    rw [mpRes_V]
  have hup : mapUpdA Tryd.prog H' 119 (.yld m) (.lit (.int .i64 (rowI cs P r * c + x))) (.lit (.int .i64 (mpV es (rowI cs P r * c + x) + 1))) = some (.lit undef, H'.upd m (.mp (mpPut es (rowI cs P r * c + x) (mpV es (rowI cs P r * c + x) + 1)))) := by
    unfold mapUpdA
    rw [if_pos isM]
    simp only [gm]
  simp (config := { maxSteps := 1000000 }) only [go_sem, h15, hb, appendA_U]
  refine W.draw 17 [0, 0, 2, 0, 0, 30, 0, 64, 0, 448, 960, 2046, 0, 0, 12288, 28672, 65534] Tryd.mixed (by kernel_rfl) (by kernel_rfl) ?_
  simp (config := { maxSteps := 1000000 }) only [go_sem, lt, ld, lp, appendA_U]
  refine ⟨lin (rowI cs P r), [], PCall.pure (fun H2 => rowOf_gen h hc hpo hcl H2 _ ⟨rfl, rfl⟩), ?_⟩
  simp (config := { maxSteps := 1000000 }) only [go_sem, lt, ld, lp, lv, hvc, hvr, hx, hxn, hcv, hcn, w2, w3, w4, hlk, hup, appendA_U]
  have e : tabStep cs P v es r = mpPut es (rowI cs P r * c + x) (mpV es (rowI cs P r * c + x) + 1) := by unfold tabStep; rw [hkey]
  exact FinV.mk (Nat.le_refl _) (hK _ (by rw [upd_get, if_pos rfl, e]) (fun j hj => by rw [upd_get, if_neg hj]) rfl)
set_option maxHeartbeats 2000000 in
theorem tally_spec {cs P : List Int} {xs : List (List Int)} {v : Nat} (h : ParIn cs P) (hd : DataOk cs xs) (hv : v < cs.length) (H : AHeap) (K : ARes → AHeap → Prop)
    (hK : ∀ m H' es, Over H H' → H.next ≤ m → m < H'.next → H'.get m = some (.mp es) → (∀ k, mpV es k = cntF cs P v xs k) → K (.ret (.tup [.yld m, lin (prodL (atL cs P))])) H') :
    ACall Tryd.prog G0 55 [dataV cs xs, lin v, vecI P] H K := by
  have c6 := hd.c1
  have x40 := hd.x1
  have plen := h.len
  refine ACall.of_body (n := 44) (rs := [.tmp 6, .tmp 7]) Tryd.func55 rfl rfl rfl (by decide) (by kernel_rfl) (by simp) ?_
  simp (config := { maxSteps := 1000000 }) only [go_sem, dataV, vecV, appendA_U]
  obtain ⟨H1, hH1⟩ : ∃ H1, H1 = ext H [.arr 0 50 [vecI cs, vecV xs], .arr 0 3 [lin v], .arr 0 22 [vecI P], .mp [], .arr 0 119 [.yld (H.next + 3)]] := ⟨_, rfl⟩
  have b0 : H1.get H.next = some (.arr 0 50 [vecI cs, vecV xs]) := by rw [hH1]; exact get_ext0 ..
  have b1 : H1.get (H.next + 1) = some (.arr 0 3 [lin v]) := by rw [hH1]; exact get_ext H _ 1 (by simp)
  have b2 : H1.get (H.next + 2) = some (.arr 0 22 [vecI P]) := by rw [hH1]; exact get_ext H _ 2 (by simp)
  have b3 : H1.get (H.next + 3) = some (.mp []) := by rw [hH1]; exact get_ext H _ 3 (by simp)
  have b4 : H1.get (H.next + 4) = some (.arr 0 119 [.yld (H.next + 3)]) := by rw [hH1]; exact get_ext H _ 4 (by simp)
  have n1 : H1.next = H.next + 5 := by rw [hH1]; rfl
  have o1 : Over H H1 := by rw [hH1]; exact .ext _ _
  refine W.env fun E hE => ?_
  have e3 : E 3 = .ptr H.next 0 0 := by rw [hE]; simp (config := { maxSteps := 1000000 }) only [go_sem, appendA_U]
  have e5 : E 5 = .ptr (H.next + 2) 0 0 := by rw [hE]; simp (config := { maxSteps := 1000000 }) only [go_sem, appendA_U]
  have e8 : E 8 = .ptr (H.next + 4) 0 0 := by rw [hE]; simp (config := { maxSteps := 1000000 }) only [go_sem, appendA_U]
  have e9 : E 9 = .clo 83 [] [.ptr (H.next + 1) 0 0, .ptr (H.next + 2) 0 0, .ptr (H.next + 4) 0 0, .ptr H.next 0 0] := by rw [hE]; simp (config := { maxSteps := 1000000 }) only [go_sem, appendA_U]
  have e18 : E 18 = .vec xs.length (xs.map vecI) := by rw [hE]; simp (config := { maxSteps := 1000000 }) only [go_sem, appendA_U]
  have e19 : E 19 = lin xs.length := by rw [hE]; simp (config := { maxSteps := 1000000 }) only [go_sem, appendA_U]
  have e20 : E 20 = lin 0 := by rw [hE]; simp (config := { maxSteps := 1000000 }) only [go_sem, appendA_U]
  clear hE
  show W _ _ _ _ _ _ ⟨E, ext H [.arr 0 50 [vecI cs, vecV xs], .arr 0 3 [lin v], .arr 0 22 [vecI P], .mp [], .arr 0 119 [.yld (H.next + 3)]]⟩
  rw [← hH1]
  clear hH1
  refine W.loop0 267388928 (by rfl) (fun ρ Hx => ∃ i : Nat, ρ 20 = lin i ∧ i ≤ xs.length ∧ Hx.get (H.next + 3) = some (.mp ((xs.take i).foldl (tabStep cs P v) [])) ∧ (∀ j, j ≠ H.next + 3 → Hx.get j = H1.get j) ∧ Hx.next = H1.next) (fun ρ H => xs.length - (iv (ρ 20)).toNat) ?_ ?_
  · exact ⟨0, e20, by omega, b3, fun _ _ => rfl, rfl⟩
  rintro ρ Hx ⟨i, h20, hi, hm, hold, hnx⟩
  refine W.env fun E1 hE1 => ?_
  have f3 : E1 3 = .ptr H.next 0 0 := by rw [hE1]; simp (config := { maxSteps := 1000000 }) only [go_sem, e3, appendA_U]
  have f5 : E1 5 = .ptr (H.next + 2) 0 0 := by rw [hE1]; simp (config := { maxSteps := 1000000 }) only [go_sem, e5, appendA_U]
  have f8 : E1 8 = .ptr (H.next + 4) 0 0 := by rw [hE1]; simp (config := { maxSteps := 1000000 }) only [go_sem, e8, appendA_U]
  have f9 : E1 9 = .clo 83 [] [.ptr (H.next + 1) 0 0, .ptr (H.next + 2) 0 0, .ptr (H.next + 4) 0 0, .ptr H.next 0 0] := by rw [hE1]; simp (config := { maxSteps := 1000000 }) only [go_sem, e9, appendA_U]
  have f18 : E1 18 = .vec xs.length (xs.map vecI) := by rw [hE1]; simp (config := { maxSteps := 1000000 }) only [go_sem, e18, appendA_U]
  have f19 : E1 19 = lin xs.length := by rw [hE1]; simp (config := { maxSteps := 1000000 }) only [go_sem, e19, appendA_U]
  have f20 : E1 20 = lin i := by rw [hE1]; simp (config := { maxSteps := 1000000 }) only [go_sem, h20, appendA_U]
  clear hE1
  refine vc_sound _ _ _ (by rfl) ?_
  by_cases hb : (i : Int) < xs.length
  · obtain ⟨r, hr⟩ := get_of_lt (l := xs) (i := i) (by omega)
    have hr' := vecV_get hr
    have hrn := ne_of_get hr'
    have w1 := IntWalk.i64_in ((i : Int) + 1) (by omega)
    have bnd : ∀ k, 0 ≤ mpV ((xs.take i).foldl (tabStep cs P v) []) k ∧ mpV ((xs.take i).foldl (tabStep cs P v) []) k ≤ 1000 := fun k => by
      rw [tab_count]
      have := cntF_le cs P v (xs.take i) k
      rw [List.length_take] at this
      have e : mpV [] k = 0 := rfl
      omega
    simp (config := { maxSteps := 1000000 }) only [go_sem, f9, f18, f19, f20, hb, hr', hrn, appendA_U]
    refine AApply.clo (tally1_spec h (hd.row r (List.mem_of_getElem? hr)) (by omega) hv bnd Hx (H.next + 1) (H.next + 2) (H.next + 4) H.next (H.next + 3) ((hold _ (by omega)).trans b1) ((hold _ (by omega)).trans b2) ((hold _ (by omega)).trans b4) ((hold _ (by omega)).trans b0) hm (by omega) _ fun H' g1 g2 g3 => ⟨trivial, ?_⟩)
    simp (config := { maxSteps := 1000000 }) only [go_sem, f20, w1, appendA_U]
    refine ⟨by omega, ⟨i + 1, rfl, by omega, by rw [take_succ_get hr, List.foldl_append]; exact g1, fun j hj => (g2 j hj).trans (hold j hj), by omega⟩, by rw [h20]; simp only [lin, iv_int]; omega⟩
  rw [List.take_of_length_le (by omega)] at hm
  have l0 := get_live ((hold H.next (by omega)).trans b0)
  have l2 := get_live ((hold (H.next + 2) (by omega)).trans b2)
  have l4 := get_live ((hold (H.next + 4) (by omega)).trans b4)
  simp (config := { maxSteps := 1000000 }) only [go_sem, f5, f19, f20, hb, l2, appendA_U]
  refine W.loop0 4396972789760 (by rfl) (fun ρ2 Hy => Hy = Hx ∧ ∃ k : Nat, ρ2 30 = lin k ∧ k ≤ P.length ∧ ρ2 12 = lin (prodL ((atL cs P).take k))) (fun ρ2 H => P.length - (iv (ρ2 30)).toNat) ?_ ?_
  · simp (config := { maxSteps := 1000000 }) only [go_sem, appendA_U]
    exact ⟨0, rfl, by omega, by simp [prodL_nil]⟩
  rintro ρ2 Hy ⟨rfl, k, h30, hk, h12⟩
  refine vc_sound _ _ _ (by rfl) ?_
  by_cases hb2 : (k : Int) < P.length
  · obtain ⟨q, hq⟩ := get_of_lt (l := P) (i := k) (by omega)
    obtain ⟨j, rfl, c, hcj⟩ := get_of_int (l := cs) (h.rng q (List.mem_of_getElem? hq)).1 (h.rng q (List.mem_of_getElem? hq)).2
    have pk : (atL cs P)[k]? = some c := by rw [atL_get hq, Int.toNat_natCast, getD_of_get hcj]
    have hqn := ne_of_get hq
    have hcn := ne_of_get hcj
    have hjl : (j : Int) < cs.length := by have := get_lt hcj; omega
    have w1 := IntWalk.i64_in ((k : Int) + 1) (by omega)
    have pr := h.prod (k + 1)
    rw [take_succ_get pk, prodL_snoc] at pr
    have w2 := IntWalk.i64_in (prodL ((atL cs P).take k) * c) (by omega)
    simp (config := { maxSteps := 1000000 }) only [go_sem, h30, h12, hb2, hq, hqn, f3, l0, hjl, hcj, hcn, w1, w2, appendA_U]
    exact ⟨⟨k + 1, rfl, by omega, by rw [take_succ_get pk, prodL_snoc]⟩, by omega⟩
  rw [List.take_of_length_le (by rw [atL_len]; omega)] at h12
  simp (config := { maxSteps := 1000000 }) only [go_sem, h30, h12, hb2, f8, l4, appendA_U]
  refine FinV.mk (by omega) (hK (H.next + 3) Hy _ ⟨by omega, fun id hid => (hold id (by omega)).trans (o1.old id hid)⟩ (by omega) (by omega) hm fun k => ?_)
  rw [tab_count]
  have e : mpV [] k = 0 := rfl
  omega
def famX (ps : List Nat) : List (List AVal) := (List.range ps.length).map fun (v : Nat) => [lin (v : Int), vecI (parsL ps.length (ps.getD v 0))]
theorem famX_get {ps : List Nat} {v : Nat} {s : Nat} (h : ps[v]? = some s) : (famX ps)[v]? = some [lin v, vecI (parsL ps.length s)] := by
  unfold famX
  rw [List.getElem?_map, List.getElem?_range (get_lt h), Option.map_some, getD_of_get h]
theorem famX_len (ps : List Nat) : (famX ps).length = ps.length := by simp [famX]
set_option maxHeartbeats 2000000 in
theorem fam_it (ps : List Nat) (hp : ∀ p ∈ ps, p < 2 ^ 64) (h6 : ps.length ≤ 6) (b N : Nat) (hbN : b < N) :
    ItG Tryd.prog G0 82 [] [.ptr b 0 0] (famX ps) N (fun H => H.get b = some (.arr 0 44 [vecB ps])) (fun _ _ => True) := by
  intro idy J Stop H K hN hS0 hJw hJ0 hY hK hSt
  have l0 := get_live (hS0 0 H hJ0)
  show ACall _ _ _ ([.yld idy] ++ [.ptr b 0 0]) _ _
  refine ACall.of_bodyW (n := 36) (rs := []) Tryd.func82 rfl rfl rfl (by decide) (by simp) ?_
  subst hN
  refine W.seq (vc_sound _ _ _ (by rfl) ?_)
  simp (config := { maxSteps := 1000000 }) only [go_sem, l0, appendA_U]
  refine W.block ?_
  refine W.env fun E hE => ?_
  have e0 : E 0 = .yld idy := by rw [hE]; simp (config := { maxSteps := 1000000 }) only [go_sem, appendA_U]
  have e1 : E 1 = .ptr b 0 0 := by rw [hE]; simp (config := { maxSteps := 1000000 }) only [go_sem, appendA_U]
  have e7 : E 7 = vecB ps := by rw [hE]; simp (config := { maxSteps := 1000000 }) only [go_sem, appendA_U]
  have e8 : E 8 = lin ps.length := by rw [hE]; simp (config := { maxSteps := 1000000 }) only [go_sem, appendA_U]
  have e9 : E 9 = lin 0 := by rw [hE]; simp (config := { maxSteps := 1000000 }) only [go_sem, appendA_U]
  clear hE
  refine W.loop0 68719476344 (by rfl) (fun ρ H' => ∃ v : Nat, ρ 9 = lin v ∧ v ≤ ps.length ∧ J v H' ∧ H.next ≤ H'.next) (fun ρ H => ps.length - (iv (ρ 9)).toNat) ?_ ?_
  · exact ⟨0, e9, by omega, hJ0, Nat.le_refl _⟩
  rintro ρ H' ⟨v, h9, hv, hj, hn⟩
  refine W.env fun E1 hE1 => ?_
  have f0 : E1 0 = .yld idy := by rw [hE1]; simp (config := { maxSteps := 1000000 }) only [go_sem, e0, appendA_U]
  have f1 : E1 1 = .ptr b 0 0 := by rw [hE1]; simp (config := { maxSteps := 1000000 }) only [go_sem, e1, appendA_U]
  have f7 : E1 7 = vecB ps := by rw [hE1]; simp (config := { maxSteps := 1000000 }) only [go_sem, e7, appendA_U]
  have f8 : E1 8 = lin ps.length := by rw [hE1]; simp (config := { maxSteps := 1000000 }) only [go_sem, e8, appendA_U]
  have f9 : E1 9 = lin v := by rw [hE1]; simp (config := { maxSteps := 1000000 }) only [go_sem, h9, appendA_U]
  clear hE1
  by_cases hb : (v : Int) < ps.length
  rotate_left
  · refine vc_sound _ _ _ (by rfl) ?_
    simp (config := { maxSteps := 1000000 }) only [go_sem, f8, f9, hb, appendA_U]
    obtain rfl : v = ps.length := by omega
    exact FinV.mk hn (hK H' (by rw [famX_len]; exact hj) hn)
  obtain ⟨s, hs⟩ := get_of_lt (l := ps) (i := v) (by omega)
  have hs64 := hp s (List.mem_of_getElem? hs)
  have hsn := ne_of_get hs
  have gb := hS0 v H' hj
  refine W.seq (vc_sound _ _ _ (by rfl) ?_)
  simp (config := { maxSteps := 1000000 }) only [go_sem, f8, f9, hb, appendA_U]
  refine W.seq (vc_sound _ _ _ (by rfl) ?_)
  simp (config := { maxSteps := 1000000 }) only [go_sem, appendA_U]
  refine W.seq (W.block ?_)
  refine W.seq (vc_sound _ _ _ (by rfl) ?_)
  simp (config := { maxSteps := 1000000 }) only [go_sem, f7, f9, hb, hs, hsn, appendA_U]
  refine W.seq (vc_sound _ _ _ (by rfl) ?_)
  simp (config := { maxSteps := 1000000 }) only [go_sem, appendA_U]
  refine W.env fun E2 hE2 => ?_
  have a0 : E2 0 = .yld idy := by rw [hE2]; simp (config := { maxSteps := 1000000 }) only [go_sem, f0, appendA_U]
  have a1 : E2 1 = .ptr b 0 0 := by rw [hE2]; simp (config := { maxSteps := 1000000 }) only [go_sem, f1, appendA_U]
  have a3 : E2 3 = lin v := by rw [hE2]; simp (config := { maxSteps := 1000000 }) only [go_sem, f9, appendA_U]
  have a4 : E2 4 = bitV s := by rw [hE2]; simp (config := { maxSteps := 1000000 }) only [go_sem, f7, f9, hb, hs, hsn, appendA_U]
  have a5 : E2 5 = .own H'.next 0 0 0 1 := by rw [hE2]; simp (config := { maxSteps := 1000000 }) only [go_sem, appendA_U]
  have a7 : E2 7 = vecB ps := by rw [hE2]; simp (config := { maxSteps := 1000000 }) only [go_sem, f7, appendA_U]
  have a8 : E2 8 = lin ps.length := by rw [hE2]; simp (config := { maxSteps := 1000000 }) only [go_sem, f8, appendA_U]
  have a9 : E2 9 = lin v := by rw [hE2]; simp (config := { maxSteps := 1000000 }) only [go_sem, f9, appendA_U]
  clear hE2
  obtain ⟨Ha, hHa⟩ : ∃ Ha, Ha = ext H' [.arr 0 3 []] := ⟨_, rfl⟩
  have na : Ha.next = H'.next + 1 := by rw [hHa]; rfl
  have oa : Over H' Ha := by rw [hHa]; exact .ext _ _
  have ga : OwnG H'.next Ha 3 (.own H'.next 0 0 0 1) (ints []) := by rw [hHa]; exact OwnG.new (cs := [])
  show W _ _ _ _ _ _ ⟨E2, ext H' [.arr 0 3 []]⟩
  rw [← hHa]
  clear hHa
  refine W.midN (fun s' => s'.ρ 0 = .yld idy ∧ s'.ρ 1 = .ptr b 0 0 ∧ s'.ρ 3 = lin v ∧ s'.ρ 5 = vecI (parsL ps.length s) ∧ s'.ρ 7 = vecB ps ∧ s'.ρ 8 = lin ps.length ∧ s'.ρ 9 = lin v ∧ H'.next < s'.H.next ∧ ∀ id, id < H'.next → s'.H.get id = H'.get id)
    (W.postWeak (Q' := fun e s' => e = .normal ∧ s'.ρ 0 = .yld idy ∧ s'.ρ 1 = .ptr b 0 0 ∧ s'.ρ 3 = lin v ∧ OwnG H'.next s'.H 3 (s'.ρ 5) (ints (parsL ps.length s)) ∧ s'.ρ 7 = vecB ps ∧ s'.ρ 8 = lin ps.length ∧ s'.ρ 9 = lin v ∧ H'.next < s'.H.next ∧ ∀ id, id < H'.next → s'.H.get id = H'.get id) ?_ ?_) ?_
  · have la := get_live ((oa.old b (by omega)).trans gb)
    refine W.seq (vc_sound _ _ _ (by rfl) ?_)
    simp (config := { maxSteps := 1000000 }) only [go_sem, a1, la, appendA_U]
    refine W.block ?_
    refine W.loop0 1073610848 (by rfl) (fun ρ2 Hx => ∃ p : Nat, ρ2 17 = lin p ∧ p ≤ ps.length ∧ Ha.next ≤ Hx.next ∧ (∀ id, id < H'.next → Hx.get id = H'.get id) ∧ OwnG H'.next Hx 3 (ρ2 5) (ints (parsL p s))) (fun ρ2 H => ps.length - (iv (ρ2 17)).toNat) ?_ ?_
    · simp (config := { maxSteps := 1000000 }) only [go_sem, a5, appendA_U]
      exact ⟨0, rfl, by omega, fun id h => oa.old id h, ga⟩
    rintro ρ2 Hx ⟨p, h17, hpl, hnx, hold, hO⟩
    refine W.env fun E3 hE3 => ?_
    have c0 : E3 0 = .yld idy := by rw [hE3]; simp (config := { maxSteps := 1000000 }) only [go_sem, a0, appendA_U]
    have c1 : E3 1 = .ptr b 0 0 := by rw [hE3]; simp (config := { maxSteps := 1000000 }) only [go_sem, a1, appendA_U]
    have c3 : E3 3 = lin v := by rw [hE3]; simp (config := { maxSteps := 1000000 }) only [go_sem, a3, appendA_U]
    have c4 : E3 4 = bitV s := by rw [hE3]; simp (config := { maxSteps := 1000000 }) only [go_sem, a4, appendA_U]
    obtain ⟨lv, hlv⟩ : ∃ lv, lv = ρ2 5 := ⟨_, rfl⟩
    have c5 : E3 5 = lv := by rw [hE3, hlv]; simp (config := { maxSteps := 1000000 }) only [go_sem, appendA_U]
    rw [← hlv] at hO
    have c7 : E3 7 = vecB ps := by rw [hE3]; simp (config := { maxSteps := 1000000 }) only [go_sem, a7, appendA_U]
    have c8 : E3 8 = lin ps.length := by rw [hE3]; simp (config := { maxSteps := 1000000 }) only [go_sem, a8, appendA_U]
    have c9 : E3 9 = lin v := by rw [hE3]; simp (config := { maxSteps := 1000000 }) only [go_sem, a9, appendA_U]
    have c16 : E3 16 = lin ps.length := by rw [hE3]; simp (config := { maxSteps := 1000000 }) only [go_sem, appendA_U]
    have c17 : E3 17 = lin p := by rw [hE3]; simp (config := { maxSteps := 1000000 }) only [go_sem, h17, appendA_U]
    clear hE3
    refine vc_sound _ _ _ (by rfl) ?_
    by_cases hb2 : (p : Int) < ps.length
    rotate_left
    · simp (config := { maxSteps := 1000000 }) only [go_sem, c0, c1, c3, c5, c7, c8, c9, c16, c17, hb2, appendA_U]
      obtain rfl : p = ps.length := by omega
      exact ⟨hO, by omega, hold⟩
    have w1 := IntWalk.i64_in ((p : Int) + 1) (by omega)
    have s1 := fun t x y => shrB (P := Tryd.prog) (t := t) (x := x) (y := y) (k' := .i64) (s := p) hs64
    have s2 := fun t x y => bit1 (P := Tryd.prog) (t := t) (x := x) (y := y) (s := p) hs64
    cases hbit : s.testBit p
    · simp (config := { maxSteps := 1000000 }) only [go_sem, c4, c5, c16, c17, hb2, s1, s2, hbit, w1, appendA_U]
      exact ⟨by omega, ⟨p + 1, rfl, by omega, hnx, hold, by rw [parsL_succ, hbit]; exact hO⟩, by rw [h17]; simp only [lin, iv_int]; omega⟩
    · have pll := parsL_len p s
      obtain ⟨v', H2, hA, hO2, hn2, hpp⟩ := app_intG (p : Int) hO (by omega) (by omega)
      simp (config := { maxSteps := 1000000 }) only [go_sem, c4, c5, c16, c17, hb2, s1, s2, hbit, w1, hA]
      exact ⟨by omega, ⟨p + 1, rfl, by omega, by omega, fun id h => (hpp id (by omega) (hO.ne h)).trans (hold id h), by rw [parsL_succ, hbit, if_pos rfl]; exact hO2⟩, by rw [h17]; simp only [lin, iv_int]; omega⟩
  · rintro e ⟨ρ2, Hb⟩ ⟨rfl, q0, q1, q3, q5, q7, q8, q9, qn, qold⟩
    simp only at q0 q1 q3 q5 q7 q8 q9 qn qold
    refine ⟨_, WeakS.cutE (s := ⟨ρ2, Hb⟩) (n := H'.next) (t0 := 5) (v' := vecI (parsL ps.length s)) G0_ok (q5.fzI fun i h => h), Nat.le_refl _, trivial, rfl, ?_⟩
    exact ⟨q0, q1, q3, rfl, q7, q8, q9, qn, fun id h => by show (Hb.cut H'.next).get id = _; rw [cut_get h]; exact qold id h⟩
  rintro ⟨ρ2, Hb⟩ ⟨q0, q1, q3, q5, q7, q8, q9, qn, qold⟩
  simp only at q0 q1 q3 q5 q7 q8 q9 qn qold
  have hjb := hJw v H' Hb hj ⟨by omega, fun id _ h => qold id h⟩
  refine vc_sound _ _ _ (by rfl) ?_
  simp (config := { maxSteps := 1000000 }) only [go_sem, q0, q3, q5, appendA_U]
  refine hY v [lin v, vecI (parsL ps.length s)] Hb _ (famX_get hs) hjb trivial (by omega) (fun H2 hj2 _ hn2 => ⟨trivial, ?_⟩) (fun H2 hs2 hn2 => ⟨trivial, ?_⟩)
  · have w1 := IntWalk.i64_in ((v : Int) + 1) (by omega)
    simp (config := { maxSteps := 1000000 }) only [go_sem, appendA_U]
    refine vc_sound _ _ _ (by rfl) ?_
    simp (config := { maxSteps := 1000000 }) only [go_sem, q9, w1, appendA_U]
    exact ⟨by omega, ⟨v + 1, rfl, by omega, hj2, by omega⟩, by rw [h9]; simp only [lin, iv_int]; omega⟩
  · simp (config := { maxSteps := 1000000 }) only [go_sem, appendA_U]
    exact FinV.mk (by omega) (hSt H2 hs2 (by omega))
theorem fam_clo (ps : List Nat) (H : AHeap) (K : ARes → AHeap → Prop) (hK : K (.ret (.clo 82 [] [.ptr H.next 0 0])) (ext H [.arr 0 44 [vecB ps]])) : ACall Tryd.prog G0 54 [vecB ps] H K := by
  refine ACall.of_body (n := 4) (rs := [.tmp 2]) Tryd.func54 rfl rfl rfl (by decide) (by kernel_rfl) (by simp) ?_
  simp (config := { maxSteps := 1000000 }) only [go_sem, appendA_U]
  exact FinV.mk (by rw [ext_next]; omega) hK
end Go.Proofs
