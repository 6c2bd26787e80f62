/- Own work: contracts. -/
import Derived.Test.YtikgmgmphkalkaaDoorConC
import Derived.Test.YtikgmgmphkalkaaDoorLibE
import Derived.Test.YtikgmgmphkalkaaDoorConB
set_option linter.all false
set_option maxRecDepth 100000
namespace Go.Hx
variable {P : Program} {G : Nat → Option (List AVal)} {n : Nat} {rd : Option Nat} {Q : AX → St → Prop}

def WrN (N : Nat) (H1 H2 : AHeap) : Prop := H1.next ≤ H2.next ∧ ∀ id, id ≠ N → id < H1.next → H2.get id = H1.get id
def ItG (P : Program) (G : Nat → Option (List AVal)) (f : FuncId) (first cap : List AVal) (xs : List (List AVal)) (N : Nat) (S0 : AHeap → Prop) (S : Nat → AHeap → Prop) : Prop :=
  ∀ (idy : Nat) (J : Nat → AHeap → Prop) (Stop : AHeap → Prop) (H : AHeap) (K : ARes → AHeap → Prop), H.next = N →
    (∀ k H1, J k H1 → S0 H1) → (∀ k H1 H2, J k H1 → WrN N H1 H2 → J k H2) → J 0 H →
    (∀ k x H1 K1, xs[k]? = some x → J k H1 → S k H1 → N < H1.next → (∀ H', J (k + 1) H' → S k H' → H1.next ≤ H'.next → K1 (.ret (.lit (.bool true))) H') → (∀ H', Stop H' → H1.next ≤ H'.next → K1 (.ret (.lit (.bool false))) H') → AApply P G (.yld idy) x H1 K1) →
    (∀ H', J xs.length H' → N ≤ H'.next → K (.ret (.tup [])) H') →
    (∀ H', Stop H' → N ≤ H'.next → K (.ret (.tup [])) H') →
    ACall P G f (first ++ [.yld idy] ++ cap) H K

theorem W.rangeItG {g : Operand} {ps : Array Tmp} {asg body : Code} {ρ : Env} {H : AHeap} {f : FuncId} {first cap : List AVal} {xs : List (List AVal)} {S0 : AHeap → Prop} {S : Nat → AHeap → Prop} (hg : evA G ρ g = .clo f first cap)
    (hit : ItG P G f first cap xs (H.next + 1) S0 S) (J : Nat → AHeap → Prop) (Stop : AX → AHeap → Prop) (hS : ∀ k H1, J k H1 → S0 H1) (hJw : ∀ k H1 H2, J k H1 → WrN (H.next + 1) H1 H2 → J k H2) (hlow : ∀ k H1, J k H1 → H.next < H1.next)
    (hJu : ∀ k H1 b, J k H1 → J k (H1.upd H.next b)) (hSu : ∀ c H1 b, Stop c H1 → Stop c (H1.upd H.next b)) (hSk : ∀ k H1 b, S k H1 → S k (H1.upd H.next b))
    (hJ0 : ∀ b, J 0 (ext H [b])) (hps : ps.toList.all (fun t => decide (t < n)) = true) (hxl : ∀ x ∈ xs, x.length = ps.size)
    (hrd : ∀ k H1, J k H1 → RdIn H1 rd) (hrd2 : ∀ c H1, Stop c H1 → RdIn H1 rd)
    (hround : ∀ k x H1 B Bb, xs[k]? = some x → J k H1 → S k H1 → H.next + 1 < H1.next → H1.get H.next = some B → (∃ st pd n' en ps' as' bo, Bb = Blk.loop st pd n' en ps' as' bo) →
      W P G n (some H.next) asg (asgIt P G n H.next B Bb H1.next body (fun H' => J (k + 1) H' ∧ S k H') Stop) ⟨setPs (envN ρ n) (ps.toList.zip x), H1⟩)
    (hend : ∀ H', J xs.length H' → H.next + 1 ≤ H'.next → Q .normal ⟨ρ, H'⟩)
    (hret : ∀ H', Stop .ret H' → H.next + 1 ≤ H'.next → Q .ret ⟨ρ, H'⟩) (hexit : ∀ i H', Stop (.exit i) H' → H.next + 1 ≤ H'.next → Q (.exit i) ⟨ρ, H'⟩) :
    W P G n rd (.rangeFunc g ps asg body) Q ⟨ρ, H⟩ := by
  refine W.rangeFunc (s := ⟨ρ, H⟩) hg ⟨_, lay_next _ _, ?_⟩
  obtain ⟨B, hB⟩ : ∃ B, B = Blk.loop .ready none n ρ ps asg body := ⟨_, rfl⟩
  obtain ⟨Bb, hBb⟩ : ∃ B, B = Blk.loop .busy none n ρ ps asg body := ⟨_, rfl⟩
  have nx : (ext H [B]).next = H.next + 1 := rfl
  show ACall P G f (first ++ [.yld H.next] ++ cap) (ext H [Blk.loop .ready none n ρ ps asg body]) (rangeQ rd Q ρ H.next)
  rw [← hB]
  refine hit H.next (fun k H1 => H1.get H.next = some B ∧ J k H1) (fun H1 => ∃ c pend, H1.get H.next = some (.loop .done (some pend) n ρ ps asg body) ∧ Stop c H1 ∧ ((c = .ret ∧ pend = .ret) ∨ ∃ i, c = .exit i ∧ pend = .exit i)) _ _ nx
    (fun k H1 h => hS k H1 h.2) (fun k H1 H2 h hw => ⟨(hw.2 _ (by omega) (hlow _ _ h.2)).trans h.1, hJw _ _ _ h.2 hw⟩) ⟨ext1_get_new, hJ0 B⟩ (fun k x H1 K1 hx hj hs hn hgo hst => ?_) (fun H' hj hn => ?_) (fun H' hj hn => ?_)
  · have hxm := hxl x (List.mem_of_getElem? hx)
    refine AApply.yld (hj.1.trans (congrArg some hB)) hxm hps ?_
    refine (hround k x H1 B Bb hx hj.2 hs hn hj.1 ⟨_, _, _, _, _, _, _, hBb⟩).mono fun e s1 h1 => ?_
    cases e with
    | normal =>
      obtain ⟨a1, a2⟩ := h1
      refine ⟨Bb, by rw [a1, hB, hBb]; rfl, ?_⟩
      refine a2.mono fun e2 s2 h2 => ?_
      cases e2 with
      | normal =>
        obtain ⟨b1, b2, b3, b4⟩ := h2
        exact ⟨B, by rw [b1, hB, hBb]; rfl, hgo _ ⟨by rw [upd_get, if_pos rfl], hJu _ _ _ b3⟩ (hSk _ _ _ b4) b2⟩
      | ret =>
        obtain ⟨b1, b2, b3⟩ := h2
        exact ⟨.loop .done (some .ret) n ρ ps asg body, by rw [b1, hBb]; rfl, hst _ ⟨.ret, .ret, by rw [upd_get, if_pos rfl], hSu _ _ _ b3, .inl ⟨rfl, rfl⟩⟩ b2⟩
      | exit i =>
        obtain ⟨b1, b2, b3⟩ := h2
        exact ⟨.loop .done (some (.exit i)) n ρ ps asg body, by rw [b1, hBb]; rfl, hst _ ⟨.exit i, .exit i, by rw [upd_get, if_pos rfl], hSu _ _ _ b3, .inr ⟨i, rfl, rfl⟩⟩ b2⟩
      | _ => exact h2.elim
    | _ => exact h1.elim
  · refine ⟨hrd _ _ hj.2, (none, .loop .exhausted none n ρ ps asg body), by rw [hj.1, hB]; rfl, ?_⟩
    exact hend _ (hJu _ _ _ hj.2) hn
  · obtain ⟨c, pend, h1, h2, h3⟩ := hj
    refine ⟨hrd2 _ _ h2, (some pend, .loop .exhausted (some pend) n ρ ps asg body), by rw [h1]; rfl, ?_⟩
    rcases h3 with ⟨rfl, rfl⟩ | ⟨i, rfl, rfl⟩
    · exact hret _ (hSu _ _ _ h2) hn
    · exact hexit i _ (hSu _ _ _ h2) hn
end Go.Hx
namespace Go.Proofs
open Go.Hx
def rowV (ns : List NodeP) (x : NodeP) (vals : List Int) : List Int := x.rows.getD (idxL (parC ns x) (atL vals x.parents)).toNat []
def wgtN (ns : List NodeP) (vals : List Int) (v : Nat) : Int := match ns[v]? with
  | some x => (rowV ns x vals).getD (vals.getD v 0).toNat 0
  | none => 1
def worlds (ns : List NodeP) : Nat := (prodL (cardsL ns)).toNat
structure RowAtW (g : Int) (ns : List NodeP) (x : NodeP) (vals : List Int) (v : Nat) (i : Nat) (r : List Int) (a w : Int) : Prop where
  idx : idxL (parC ns x) (atL vals x.parents) = i
  row : x.rows[i]? = some r
  val : vals[v]? = some a
  a0 : 0 ≤ a
  hw : r[a.toNat]? = some w
  wb : 0 ≤ w ∧ w ≤ g
  eq : wgtN ns vals v = w
  rv : rowV ns x vals = r
  len : (r.length : Int) = x.card
  al : a < r.length
theorem fz_data {S : Nat → Prop} {H : AHeap} {nx : Nat} {cv xv : AVal} {cs : List Int} {xs : List (List Int)} (h1 : Fz S H nx cv (vecI cs)) (h2 : Fz S H nx xv (vecV xs)) : Fz S H nx (.agg [cv, xv]) (dataV cs xs) := by
  refine .agg rfl fun i hi _ => ?_
  match i, hi with
  | 0, _ => exact h1
  | 1, _ => exact h2
end Go.Proofs
namespace Go.Proofs

def before (r : Nat → Int) (i j : Nat) : Prop := r j < r i ∨ (r i = r j ∧ i < j)
theorem before_asymm {r : Nat → Int} {i j : Nat} (h : before r i j) : ¬ before r j i := fun k => by unfold before at *; omega
theorem before_tri {r : Nat → Int} {i j : Nat} (h : i ≠ j) : before r i j ∨ before r j i := by unfold before; omega
structure Top (r : Nat → Int) (n k : Nat) (M : Nat → Bool) : Prop where
  count : (List.range n).countP M = k
  first : ∀ i j, i < n → j < n → M i = true → M j = false → before r i j

theorem countP_lt_of {l : List Nat} {p q : Nat → Bool} (h : ∀ x ∈ l, p x = true → q x = true) {a : Nat} (ha : a ∈ l) (hp : p a = false) (hq : q a = true) : l.countP p < l.countP q := by
  induction l with
  | nil => cases ha
  | cons x l ih =>
    have hm : l.countP p ≤ l.countP q := List.countP_mono_left fun y hy => h y (by simp [hy])
    rcases List.mem_cons.1 ha with rfl | ha
    · rw [List.countP_cons, List.countP_cons, hp, hq]
      simp
      omega
    · have := ih (fun y hy => h y (by simp [hy])) ha
      have hx := h x (by simp)
      rw [List.countP_cons, List.countP_cons]
      cases hpx : p x
      · simp; omega
      · rw [hx hpx]; simp; omega

theorem Top.unique {r : Nat → Int} {n k : Nat} {M M' : Nat → Bool} (h : Top r n k M) (h' : Top r n k M') : ∀ i, i < n → M i = M' i := by
  have key : ∀ {M M' : Nat → Bool}, Top r n k M → Top r n k M' → ∀ i, i < n → M i = true → M' i = true := by
    intro M M' h h' i hi hm
    rcases Bool.eq_false_or_eq_true (M' i) with e | e
    · exact e
    -- some place of M' is not in M
    have : ∃ j, j < n ∧ M' j = true ∧ M j = false := by
      refine Classical.byContradiction fun hno => ?_
      have hsub : ∀ x ∈ List.range n, M' x = true → M x = true := fun x hx hx' => by
        rcases Bool.eq_false_or_eq_true (M x) with e | e
        · exact e
        · exact absurd ⟨x, List.mem_range.1 hx, hx', e⟩ hno
      have := countP_lt_of hsub (List.mem_range.2 hi) e hm
      rw [h.count, h'.count] at this
      omega
    obtain ⟨j, hj, a, b⟩ := this
    exact absurd (h'.first j i hj hi a e) (before_asymm (h.first i j hi hj hm b))
  intro i hi
  have a := key h h' i hi
  have b := key h' h i hi
  cases h1 : M i <;> cases h2 : M' i <;> simp_all

theorem Top.zero {r : Nat → Int} {n : Nat} : Top r n 0 (fun _ => false) := ⟨by simp, fun _ _ _ _ h => by cases h⟩
theorem Top.step {r : Nat → Int} {n k b : Nat} {M : Nat → Bool} (h : Top r n k M) (hb : b < n) (hm : M b = false) (hmin : ∀ j, j < n → M j = false → j ≠ b → before r b j) :
    Top r n (k + 1) (fun i => decide (i = b) || M i) where
  count := by
    have : ∀ l : List Nat, l.Nodup → b ∈ l → l.countP (fun i => decide (i = b) || M i) = l.countP M + 1 := by
      intro l
      induction l with
      | nil => intro _ h; cases h
      | cons x l ih =>
        intro hnd hmem
        obtain ⟨h1, h2⟩ := List.nodup_cons.1 hnd
        rw [List.countP_cons, List.countP_cons]
        rcases List.mem_cons.1 hmem with rfl | hmem
        · have : l.countP (fun i => decide (i = b) || M i) = l.countP M := List.countP_congr fun y hy => by
            have : y ≠ b := by rintro rfl; exact h1 hy
            simp [this]
          rw [this]; simp [hm]
        · have hx : x ≠ b := by rintro rfl; exact h1 hmem
          rw [ih h2 hmem]; simp [hx]; omega
    rw [this _ List.nodup_range (List.mem_range.2 hb), h.count]
  first i j hi hj h1 h2 := by
    simp only [Bool.or_eq_true, decide_eq_true_eq, Bool.or_eq_false_iff, decide_eq_false_iff_not] at h1 h2
    rcases h1 with rfl | h1
    · exact hmin j hj h2.2 h2.1
    · exact h.first i j hi hj h1 h2.2

theorem Top.sorted {r : Nat → Int} {n k : Nat} {l : List Nat} (hp : l.Perm (List.range n)) (hs : l.Pairwise (before r)) (hk : k ≤ n) : Top r n k (fun i => decide (i ∈ l.take k)) where
  count := by
    rw [← hp.countP_eq]
    have hnd : l.Nodup := hp.nodup_iff.2 List.nodup_range
    have hl : l.length = n := by simpa using hp.length_eq
    conv => lhs; rw [← List.take_append_drop k l]
    rw [List.countP_append]
    have e1 : (l.take k).countP (fun i => decide (i ∈ (List.take k l ++ List.drop k l).take k)) = k := by
      have : (l.take k).length = k := by simp; omega
      conv => rhs; rw [← this]
      rw [List.countP_eq_length]
      intro x hx
      simpa using hx
    have e2 : (l.drop k).countP (fun i => decide (i ∈ (List.take k l ++ List.drop k l).take k)) = 0 := by
      rw [List.countP_eq_zero]
      intro x hx
      rw [List.take_append_drop]
      simp only [decide_eq_true_eq]
      intro hx2
      have := (List.take_append_drop k l) ▸ hnd
      rw [List.nodup_append] at this
      exact this.2.2 x hx2 x hx rfl
    rw [e1, e2]; rfl
  first i j hi hj h1 h2 := by
    simp only [decide_eq_true_eq, decide_eq_false_iff_not] at h1 h2
    have hjl : j ∈ l := hp.mem_iff.2 (List.mem_range.2 hj)
    rw [← List.take_append_drop k l] at hjl hs
    rcases List.mem_append.1 hjl with h | h
    · exact absurd h h2
    · exact (List.pairwise_append.1 hs).2.2 i h1 j h

def effC (c : List Int) : List Int := if 0 < c.sum then c else List.replicate c.length 1
def effT (c : List Int) : Int := if 0 < c.sum then c.sum else c.length
def partAt (sp : Int) (c : List Int) (i : Nat) : Int := sp * (effC c).getD i 0 / effT c
def restAt (sp : Int) (c : List Int) (i : Nat) : Int := sp * (effC c).getD i 0 % effT c
def spareOf (grain least : Int) (c : List Int) : Int := grain - least * c.length
def leftOf (sp : Int) (c : List Int) : Int := sp - ((List.range c.length).map (partAt sp c)).sum

theorem effC_len (c : List Int) : (effC c).length = c.length := by unfold effC; split <;> simp
theorem effC_sum (c : List Int) : (effC c).sum = effT c := by
  unfold effC effT; split
  · rfl
  · simp
theorem effC_nonneg {c : List Int} (h : ∀ x ∈ c, 0 ≤ x) : ∀ x ∈ effC c, 0 ≤ x := by
  unfold effC; split
  · exact h
  · intro x hx; rw [List.mem_replicate] at hx; omega
theorem effT_pos {c : List Int} (h : 0 < c.length) : 0 < effT c := by unfold effT; split <;> omega
theorem sum_getD : ∀ (l : List Int), ((List.range l.length).map fun i => l.getD i 0).sum = l.sum := by
  intro l
  have : ((List.range l.length).map fun i => l.getD i 0) = l := by
    apply List.ext_getElem
    · simp
    · intro i h1 h2; simp at h1 ⊢; simp [h1]
  rw [this]
theorem sum_map_add' (l : List Nat) (f g : Nat → Int) : (l.map fun i => f i + g i).sum = (l.map f).sum + (l.map g).sum := by
  induction l with
  | nil => rfl
  | cons x l ih => simp only [List.map_cons, List.sum_cons, ih]; omega
theorem sum_map_mul' (l : List Nat) (k : Int) (f : Nat → Int) : (l.map fun i => k * f i).sum = k * (l.map f).sum := by
  induction l with
  | nil => simp
  | cons x l ih => simp only [List.map_cons, List.sum_cons, ih]; rw [Int.mul_add]
theorem sum_le_const {l : List Nat} {f : Nat → Int} {b : Int} (h : ∀ i ∈ l, f i ≤ b) : (l.map f).sum ≤ b * l.length := by
  induction l with
  | nil => simp
  | cons x l ih =>
    have h1 := ih fun i hi => h i (by simp [hi])
    have h2 := h x (by simp)
    simp only [List.map_cons, List.sum_cons, List.length_cons]
    have : b * ((l.length + 1 : Nat) : Int) = b * l.length + b := by push_cast; rw [Int.mul_add]; simp
    omega
theorem sum_nonneg' {l : List Nat} {f : Nat → Int} (h : ∀ i ∈ l, 0 ≤ f i) : 0 ≤ (l.map f).sum := by
  induction l with
  | nil => simp
  | cons x l ih =>
    have h1 := ih fun i hi => h i (by simp [hi])
    have h2 := h x (by simp)
    simp only [List.map_cons, List.sum_cons]; omega

theorem rest_bound {sp : Int} {c : List Int} (h : 0 < c.length) (i : Nat) : 0 ≤ restAt sp c i ∧ restAt sp c i < effT c :=
  ⟨Int.emod_nonneg _ (by have := effT_pos h; omega), Int.emod_lt_of_pos _ (effT_pos h)⟩
theorem left_mul {sp : Int} {c : List Int} (h : 0 < c.length) : leftOf sp c * effT c = ((List.range c.length).map (restAt sp c)).sum := by
  have e : ∀ i, sp * (effC c).getD i 0 = effT c * partAt sp c i + restAt sp c i := fun i => by
    unfold partAt restAt
    exact (Int.mul_ediv_add_emod _ _).symm
  have h1 : ((List.range c.length).map fun i => sp * (effC c).getD i 0).sum = sp * effT c := by
    rw [sum_map_mul', ← effC_len c, sum_getD, effC_sum]
  have h2 : ((List.range c.length).map fun i => sp * (effC c).getD i 0).sum = effT c * ((List.range c.length).map (partAt sp c)).sum + ((List.range c.length).map (restAt sp c)).sum := by
    rw [← sum_map_mul', ← sum_map_add']
    congr 1
    exact List.map_congr_left fun i _ => e i
  unfold leftOf
  rw [Int.sub_mul, ← h1, h2, Int.mul_comm (effT c)]
  omega
theorem left_bound {sp : Int} {c : List Int} (h : 0 < c.length) : 0 ≤ leftOf sp c ∧ leftOf sp c < c.length := by
  have hT := effT_pos h
  have e := left_mul (sp := sp) h
  have h0 : 0 ≤ ((List.range c.length).map (restAt sp c)).sum := sum_nonneg' fun i _ => (rest_bound h i).1
  have h1 : ((List.range c.length).map (restAt sp c)).sum ≤ (effT c - 1) * (List.range c.length).length := sum_le_const fun i _ => by have := (rest_bound (sp := sp) h i).2; omega
  rw [← e] at h0 h1
  simp only [List.length_range] at h1
  constructor
  · exact Classical.byContradiction fun hn => by
      have : leftOf sp c * effT c < 0 := Int.mul_neg_of_neg_of_pos (by omega) hT
      omega
  · exact Classical.byContradiction fun hn => by
      have h3 : (c.length : Int) * effT c ≤ leftOf sp c * effT c := Int.mul_le_mul_of_nonneg_right (by omega) (by omega)
      have h4 : (effT c - 1) * (c.length : Int) = c.length * effT c - c.length := by rw [Int.sub_mul, Int.mul_comm]; omega
      omega

def sharesM (least sp : Int) (c : List Int) (M : Nat → Bool) : List Int := (List.range c.length).map fun i => least + partAt sp c i + if M i then 1 else 0
def ShareOk (least sp : Int) (c s : List Int) : Prop := ∃ M, Top (restAt sp c) c.length (leftOf sp c).toNat M ∧ s = sharesM least sp c M
theorem ShareOk.unique {least sp : Int} {c s s' : List Int} (h : ShareOk least sp c s) (h' : ShareOk least sp c s') : s = s' := by
  obtain ⟨M, h1, rfl⟩ := h
  obtain ⟨M', h2, rfl⟩ := h'
  unfold sharesM
  apply List.map_congr_left
  intro i hi
  rw [h1.unique h2 i (List.mem_range.1 hi)]

end Go.Proofs
namespace Go.Proofs

def sumR (n : Nat) (f : Nat → Int) : Int := ((List.range n).map f).sum
theorem sumR_add (n : Nat) (f g : Nat → Int) : sumR n (fun i => f i + g i) = sumR n f + sumR n g := sum_map_add' _ _ _
theorem sumR_mul (n : Nat) (k : Int) (f : Nat → Int) : sumR n (fun i => k * f i) = k * sumR n f := sum_map_mul' _ _ _
theorem sumR_congr {n : Nat} {f g : Nat → Int} (h : ∀ i, i < n → f i = g i) : sumR n f = sumR n g := by
  unfold sumR; rw [List.map_congr_left fun i hi => h i (List.mem_range.1 hi)]
theorem sum_map_le {l : List Nat} {f g : Nat → Int} (h : ∀ i ∈ l, f i ≤ g i) : (l.map f).sum ≤ (l.map g).sum := by
  induction l with
  | nil => simp
  | cons x l ih =>
    have h1 := ih fun i hi => h i (by simp [hi])
    have h2 := h x (by simp)
    simp only [List.map_cons, List.sum_cons]; omega
theorem sumR_le {n : Nat} {f g : Nat → Int} (h : ∀ i, i < n → f i ≤ g i) : sumR n f ≤ sumR n g := sum_map_le fun i hi => h i (List.mem_range.1 hi)
theorem count_sum (l : List Nat) (p : Nat → Bool) : ((l.countP p : Nat) : Int) = (l.map fun i => if p i then (1 : Int) else 0).sum := by
  induction l with
  | nil => rfl
  | cons x l ih =>
    rw [List.countP_cons]
    cases h : p x
    · simp [ih, h]
    · simp [ih, h]; omega

theorem threshold (l : List Nat) (p : Nat → Bool) (g : Nat → Int) : ∃ θ : Int, 0 ≤ θ ∧ (∀ i ∈ l, p i = true → g i ≤ θ) ∧ (θ = 0 ∨ ∃ i ∈ l, p i = true ∧ θ = g i) := by
  induction l with
  | nil => exact ⟨0, by omega, fun i h => (by cases h), .inl rfl⟩
  | cons x l ih =>
    obtain ⟨θ, h0, h1, h2⟩ := ih
    by_cases hx : p x = true ∧ θ < g x
    · refine ⟨g x, by omega, fun i hi hp => ?_, .inr ⟨x, by simp, hx.1, rfl⟩⟩
      rcases List.mem_cons.1 hi with rfl | hi
      · exact Int.le_refl _
      · have := h1 i hi hp; omega
    · refine ⟨θ, h0, fun i hi hp => ?_, ?_⟩
      · rcases List.mem_cons.1 hi with rfl | hi
        · exact Classical.byContradiction fun hn => hx ⟨hp, by omega⟩
        · exact h1 i hi hp
      · rcases h2 with h2 | ⟨i, hi, hp, he⟩
        · exact .inl h2
        · exact .inr ⟨i, by simp [hi], hp, he⟩

theorem least_sum {n : Nat} {M N : Nat → Bool} {g : Nat → Int} (hg : ∀ i, i < n → 0 ≤ g i) (hM : ∀ i j, i < n → j < n → M i = true → M j = false → g i ≤ g j) (hc : (List.range n).countP M ≤ (List.range n).countP N) :
    sumR n (fun i => if M i then g i else 0) ≤ sumR n (fun i => if N i then g i else 0) := by
  obtain ⟨θ, h0, h1, h2⟩ := threshold (List.range n) M g
  have h3 : ∀ j, j < n → M j = false → θ ≤ g j := fun j hj hm => by
    rcases h2 with rfl | ⟨i, hi, hp, rfl⟩
    · exact hg j hj
    · exact hM i j (List.mem_range.1 hi) hj hp hm
  have hpt : sumR n (fun i => (if M i then g i else 0) + θ * (if N i then 1 else 0)) ≤ sumR n (fun i => (if N i then g i else 0) + θ * (if M i then 1 else 0)) := by
    refine sumR_le fun i hi => ?_
    have a := h1 i (List.mem_range.2 hi)
    have b := h3 i hi
    cases hm : M i <;> cases hn : N i
    · simp
    · simp; exact b hm
    · simp; exact a hm
    · simp
  rw [sumR_add, sumR_add, sumR_mul, sumR_mul] at hpt
  have e1 : sumR n (fun i => if M i then (1 : Int) else 0) = ((List.range n).countP M : Nat) := (count_sum _ _).symm
  have e2 : sumR n (fun i => if N i then (1 : Int) else 0) = ((List.range n).countP N : Nat) := (count_sum _ _).symm
  rw [e1, e2] at hpt
  have h4 : θ * ((List.range n).countP M : Nat) ≤ θ * ((List.range n).countP N : Nat) := Int.mul_le_mul_of_nonneg_left (by omega) h0
  omega

def absI (d : Int) : Int := max d (-d)
def posI (d : Int) : Int := max d 0
theorem abs_pos (d : Int) : absI d = 2 * posI d + (-1) * d := by unfold absI posI; omega
theorem abs_neg (d : Int) : absI d = 2 * posI (-d) + d := by unfold absI posI; omega

theorem abs_sum1 {n : Nat} {f : Nat → Int} (h : sumR n f = 0) : sumR n (fun i => absI (f i)) = 2 * sumR n (fun i => posI (f i)) := by
  rw [sumR_congr fun i _ => abs_pos _, sumR_add, sumR_mul, sumR_mul, h]; omega
theorem abs_sum2 {n : Nat} {f : Nat → Int} (h : sumR n f = 0) : sumR n (fun i => absI (f i)) = 2 * sumR n (fun i => posI (-f i)) := by
  rw [sumR_congr fun i _ => abs_neg _, sumR_add, sumR_mul, h]; omega
theorem countP_not (l : List Nat) (p : Nat → Bool) : l.countP (fun i => !p i) + l.countP p = l.length := by
  induction l with
  | nil => rfl
  | cons x l ih =>
    rw [List.countP_cons, List.countP_cons, List.length_cons]
    cases h : p x <;> simp <;> omega

theorem nearest {n : Nat} {t k : Nat} {ρ q x : Nat → Int} {M : Nat → Bool} (hρ : ∀ i, i < n → 0 ≤ ρ i ∧ ρ i < t) (hM : Top ρ n k M)
    (h0 : sumR n (fun i => (t : Int) * (q i + (if M i then 1 else 0)) - (t * q i + ρ i)) = 0) (h1 : sumR n (fun i => (t : Int) * x i - (t * q i + ρ i)) = 0) :
    sumR n (fun i => absI (t * (q i + (if M i then 1 else 0)) - (t * q i + ρ i))) ≤ sumR n (fun i => absI (t * x i - (t * q i + ρ i))) := by
  let N : Nat → Bool := fun i => decide (q i + 1 ≤ x i)
  have ge : ∀ i j, i < n → j < n → M i = true → M j = false → ρ j ≤ ρ i := fun i j hi hj a b => by
    have := hM.first i j hi hj a b
    unfold before at this; omega
  rcases Nat.le_total k ((List.range n).countP N) with hk | hk
  · rw [abs_sum1 h0, abs_sum1 h1]
    have a1 : sumR n (fun i => posI (t * (q i + (if M i then 1 else 0)) - (t * q i + ρ i))) = sumR n (fun i => if M i then t - ρ i else 0) := sumR_congr fun i hi => by
      have := hρ i hi
      rw [Int.mul_add]
      unfold posI
      cases M i <;> simp <;> omega
    have a2 : sumR n (fun i => if N i then t - ρ i else 0) ≤ sumR n (fun i => posI (t * x i - (t * q i + ρ i))) := sumR_le fun i hi => by
      have := hρ i hi
      unfold posI
      by_cases h : q i + 1 ≤ x i
      · have h5 : (t : Int) * (q i + 1) ≤ t * x i := Int.mul_le_mul_of_nonneg_left h (by omega)
        rw [Int.mul_add] at h5
        simp only [N, h, decide_true, if_true]
        omega
      · simp only [N, h, decide_false, Bool.false_eq_true, if_false]
        omega
    have a3 := least_sum (M := M) (N := N) (g := fun i => t - ρ i) (fun i hi => by have := hρ i hi; omega) (fun i j hi hj a b => by have := ge i j hi hj a b; omega) (by rw [hM.count]; exact hk)
    rw [a1]
    omega
  · rw [abs_sum2 h0, abs_sum2 h1]
    have a1 : sumR n (fun i => posI (-(t * (q i + (if M i then 1 else 0)) - (t * q i + ρ i)))) = sumR n (fun i => if !M i then ρ i else 0) := sumR_congr fun i hi => by
      have := hρ i hi
      rw [Int.mul_add]
      unfold posI
      cases M i <;> simp <;> omega
    have a2 : sumR n (fun i => if !N i then ρ i else 0) ≤ sumR n (fun i => posI (-(t * x i - (t * q i + ρ i)))) := sumR_le fun i hi => by
      have := hρ i hi
      unfold posI
      by_cases h : q i + 1 ≤ x i
      · simp only [N, h, decide_true, Bool.not_true, Bool.false_eq_true, if_false]
        omega
      · have h5 : (t : Int) * x i ≤ t * q i := Int.mul_le_mul_of_nonneg_left (by omega) (by omega)
        simp only [N, h, decide_false, Bool.not_false, if_true]
        omega
    have c1 := countP_not (List.range n) M
    have c2 := countP_not (List.range n) N
    have a3 := least_sum (M := fun i => !M i) (N := fun i => !N i) (g := ρ) (fun i hi => (hρ i hi).1) (fun i j hi hj a b => by
      simp only [Bool.not_eq_true', Bool.not_eq_false'] at a b
      exact ge j i hj hi b a) (by have := hM.count; omega)
    rw [a1]
    omega
end Go.Proofs
namespace Go.Proofs
theorem shares_len (least sp : Int) (c : List Int) (M : Nat → Bool) : (sharesM least sp c M).length = c.length := by simp [sharesM]
theorem shares_get {least sp : Int} {c : List Int} {M : Nat → Bool} {i : Nat} (h : i < c.length) : (sharesM least sp c M)[i]? = some (least + partAt sp c i + if M i then 1 else 0) := by
  unfold sharesM; rw [List.getElem?_map, List.getElem?_range h]; rfl
theorem sum_const (n : Nat) (a : Int) : ((List.range n).map fun _ => a).sum = a * n := by
  induction n with
  | zero => simp
  | succ n ih => rw [List.range_succ, List.map_append, List.sum_append, ih]; simp; rw [Int.mul_add, Int.mul_one]
theorem eff_nn {c : List Int} (h : ∀ x ∈ c, 0 ≤ x) (i : Nat) : 0 ≤ (effC c).getD i 0 := by
  rw [List.getD_eq_getElem?_getD]
  cases e : (effC c)[i]? with
  | none => exact Int.le_refl _
  | some a => exact effC_nonneg h a (List.mem_of_getElem? e)
theorem part_nn {c : List Int} (h : ∀ x ∈ c, 0 ≤ x) (h0 : 0 < c.length) {sp : Int} (hs : 0 ≤ sp) (i : Nat) : 0 ≤ partAt sp c i :=
  Int.ediv_nonneg (Int.mul_nonneg hs (eff_nn h i)) (Int.le_of_lt (effT_pos h0))
theorem share_sum {least grain : Int} {c s : List Int} (h0 : 0 < c.length) (h : ShareOk least (spareOf grain least c) c s) : s.length = c.length ∧ s.sum = grain := by
  obtain ⟨M, hM, rfl⟩ := h
  refine ⟨shares_len .., ?_⟩
  have hb := left_bound (sp := spareOf grain least c) h0
  have hc := count_sum (List.range c.length) M
  rw [hM.count] at hc
  have e1 : (sharesM least (spareOf grain least c) c M).sum = ((List.range c.length).map fun _ => least).sum + (((List.range c.length).map (partAt (spareOf grain least c) c)).sum + ((List.range c.length).map fun i => if M i then (1 : Int) else 0).sum) := by
    rw [← sum_map_add', ← sum_map_add']
    unfold sharesM
    congr 1
    exact List.map_congr_left fun i _ => by omega
  rw [e1, sum_const, ← hc]
  have : ((leftOf (spareOf grain least c) c).toNat : Int) = leftOf (spareOf grain least c) c := by omega
  rw [this]
  unfold leftOf spareOf
  omega
theorem share_ge {least grain : Int} {c s : List Int} (hc : ∀ x ∈ c, 0 ≤ x) (h0 : 0 < c.length) (hs : 0 ≤ spareOf grain least c) (h : ShareOk least (spareOf grain least c) c s) : ∀ x ∈ s, least ≤ x := by
  obtain ⟨M, hM, rfl⟩ := h
  intro x hx
  unfold sharesM at hx
  obtain ⟨i, hi, rfl⟩ := List.mem_map.1 hx
  have := part_nn hc h0 hs i
  split <;> omega
theorem sum_ge_mem : ∀ {l : List Int}, (∀ x ∈ l, 0 ≤ x) → ∀ x ∈ l, x ≤ l.sum
  | a :: l, h, x, hx => by
    have h1 : 0 ≤ l.sum := by
      have : ∀ l : List Int, (∀ x ∈ l, 0 ≤ x) → 0 ≤ l.sum := by
        intro l
        induction l with
        | nil => intro _; simp
        | cons b l ih => intro h; have := h b (by simp); have := ih fun x hx => h x (by simp [hx]); rw [List.sum_cons]; omega
      exact this l fun x hx => h x (by simp [hx])
    rw [List.sum_cons]
    rcases List.mem_cons.1 hx with rfl | hx
    · omega
    · have := sum_ge_mem (fun y hy => h y (by simp [hy])) x hx
      have := h a (by simp)
      omega
end Go.Proofs
namespace Go.Proofs
open Go.Hx
theorem getD_set {α : Type} (l : List α) (i j : Nat) (a d : α) (hi : i < l.length) : (l.set i a).getD j d = if i = j then a else l.getD j d := by
  rw [List.getD_eq_getElem?_getD, List.getD_eq_getElem?_getD, List.getElem?_set]
  by_cases h : i = j
  · subst h; rw [if_pos rfl, if_pos hi, if_pos rfl]; rfl
  · rw [if_neg h, if_neg h]
theorem lget {l : List Nat} {i : Nat} (h : i < l.length) : l[i]? = some (l.getD i 0) := by
  rw [List.getD_eq_getElem?_getD, List.getElem?_eq_getElem h]; rfl
def swapL (l : List Nat) (i j : Nat) : List Nat := (l.set i (l.getD j 0)).set j (l.getD i 0)
theorem swapL_get {l : List Nat} {i j : Nat} (hi : i < l.length) (hj : j < l.length) (hij : i ≠ j) (a : Nat) : (swapL l i j).getD a 0 = if a = j then l.getD i 0 else if a = i then l.getD j 0 else l.getD a 0 := by
  unfold swapL
  rw [getD_set _ _ _ _ _ (by rw [List.length_set]; exact hj), getD_set _ _ _ _ _ hi]
  by_cases h1 : a = j
  · rw [if_pos h1, if_pos h1.symm]
  · rw [if_neg h1, if_neg fun h => h1 h.symm]
    by_cases h2 : a = i
    · rw [if_pos h2, if_pos h2.symm]
    · rw [if_neg h2, if_neg fun h => h2 h.symm]
def Srt (f : Nat → Nat) (l : List Nat) (n : Nat) : Prop := ∀ a b, a < b → b < n → f (l.getD a 0) ≤ f (l.getD b 0)
def Ins (f : Nat → Nat) (l : List Nat) (i j : Nat) : Prop := (∀ a b, a < b → b ≤ i → a ≠ j → b ≠ j → f (l.getD a 0) ≤ f (l.getD b 0)) ∧ ∀ b, j < b → b ≤ i → f (l.getD j 0) ≤ f (l.getD b 0)
theorem ins_start {f : Nat → Nat} {l : List Nat} {i : Nat} (h : Srt f l i) : Ins f l i i := ⟨fun a b h1 h2 h3 h4 => h a b h1 (by omega), fun b h1 h2 => by omega⟩
theorem ins_done {f : Nat → Nat} {l : List Nat} {i j : Nat} (h : Ins f l i j) (hj : j ≤ i) (hd : j = 0 ∨ f (l.getD (j - 1) 0) ≤ f (l.getD j 0)) : Srt f l (i + 1) := by
  intro a b h1 h2
  by_cases hb : b = j
  · subst hb
    rcases hd with h0 | h0
    · omega
    · by_cases ha : a = b - 1
      · rw [ha]; exact h0
      · exact Nat.le_trans (h.1 a (b - 1) (by omega) (by omega) (by omega) (by omega)) h0
  · by_cases ha : a = j
    · subst ha; exact h.2 b h1 (by omega)
    · exact h.1 a b h1 (by omega) ha hb
theorem ins_step {f : Nat → Nat} {l : List Nat} {i j : Nat} (h : Ins f l i j) (hj : j ≤ i) (hi : i < l.length) (h0 : 0 < j) (hlt : f (l.getD j 0) < f (l.getD (j - 1) 0)) : Ins f (swapL l j (j - 1)) i (j - 1) := by
  have g := swapL_get (l := l) (i := j) (j := j - 1) (by omega) (by omega) (by omega)
  constructor
  · intro a b h1 h2 h3 h4
    rw [g a, g b, if_neg h3, if_neg h4]
    by_cases ha : a = j
    · rw [if_pos ha, if_neg (by omega)]
      exact h.1 (j - 1) b (by omega) h2 (by omega) (by omega)
    · rw [if_neg ha]
      by_cases hb : b = j
      · rw [if_pos hb]
        exact h.1 a (j - 1) (by omega) (by omega) ha (by omega)
      · rw [if_neg hb]
        exact h.1 a b h1 h2 ha hb
  · intro b h1 h2
    rw [g (j - 1), if_pos rfl, g b, if_neg (by omega)]
    by_cases hb : b = j
    · rw [if_pos hb]; exact Nat.le_of_lt hlt
    · rw [if_neg hb]; exact h.2 b (by omega) h2
theorem swapL_perm {l : List Nat} {i j : Nat} (hi : i < l.length) (hj : j < l.length) : (swapL l i j).Perm l := by
  unfold swapL
  rw [List.getD_eq_getElem?_getD, List.getD_eq_getElem?_getD, List.getElem?_eq_getElem hi, List.getElem?_eq_getElem hj]
  exact List.set_set_perm hi hj
def rankF (r : Nat → Int) (T n : Nat) (i : Nat) : Nat := (T - (r i).toNat) * n + i
theorem rank_lt {r : Nat → Int} {T n : Nat} (hr : ∀ i, i < n → 0 ≤ r i ∧ r i < T) {i j : Nat} (hi : i < n) (hj : j < n) : rankF r T n i < rankF r T n j ↔ before r i j := by
  have h1 := hr i hi
  have h2 := hr j hj
  unfold rankF before
  obtain ⟨a, ha⟩ : ∃ a, a = T - (r i).toNat := ⟨_, rfl⟩
  obtain ⟨b, hb⟩ : ∃ b, b = T - (r j).toNat := ⟨_, rfl⟩
  rw [← ha, ← hb]
  rcases Nat.lt_trichotomy a b with h | h | h
  · have : (a + 1) * n ≤ b * n := Nat.mul_le_mul_right _ h
    rw [Nat.add_mul, Nat.one_mul] at this
    constructor
    · intro _; left; omega
    · intro _; omega
  · subst h
    constructor
    · intro h; right; omega
    · rintro (h | h) <;> omega
  · have : (b + 1) * n ≤ a * n := Nat.mul_le_mul_right _ h
    rw [Nat.add_mul, Nat.one_mul] at this
    constructor
    · intro h; omega
    · rintro (h | h) <;> omega
theorem srt_before {r : Nat → Int} {T n : Nat} (hr : ∀ i, i < n → 0 ≤ r i ∧ r i < T) {l : List Nat} (hp : l.Perm (List.range n)) (hs : Srt (rankF r T n) l l.length) : l.Pairwise (before r) := by
  have hm : ∀ a ∈ l, a < n := fun a ha => List.mem_range.1 (hp.mem_iff.1 ha)
  have hnd : l.Nodup := hp.nodup_iff.2 List.nodup_range
  rw [List.pairwise_iff_getElem]
  intro i j hi hj hij
  have h := hs i j hij hj
  rw [List.getD_eq_getElem?_getD, List.getD_eq_getElem?_getD, List.getElem?_eq_getElem hi, List.getElem?_eq_getElem hj] at h
  simp only [Option.getD_some] at h
  have hne : l[i] ≠ l[j] := fun e => by
    have := (List.getElem?_inj hi hnd).1 (show l[i]? = l[j]? by rw [List.getElem?_eq_getElem hi, e, ← List.getElem?_eq_getElem hj])
    omega
  rcases before_tri hne (r := r) with b | b
  · exact b
  · have := (rank_lt hr (hm _ (List.getElem_mem hj)) (hm _ (List.getElem_mem hi))).2 b
    omega
end Go.Proofs
namespace Go.Hx
variable {P : Program} {G : Nat → Option (List AVal)} {Γ Γ' : Gam} {H H' : AHeap} {w w' : World}
theorem W.midN {n : Nat} {rd : Option Nat} {Q : AX → St → Prop} {s : St} {x y : Code} (Φ : St → Prop) (h : W P G n rd x (fun ax s' => ax = .normal ∧ Φ s') s) (h2 : ∀ s', Φ s' → W P G n rd y Q s') : W P G n rd (.seq x y) Q s :=
  W.seq (h.mono fun ax s' ⟨e, hp⟩ => by subst e; exact h2 s' hp)
theorem upd_self {H : AHeap} {id : Nat} {b : Blk} (h : H.get id = some b) : H.upd id b = H := by
  have e : (fun j => if j = id then some b else H.get j) = H.get := by
    funext j
    by_cases hj : j = id
    · rw [if_pos hj, hj, h]
    · rw [if_neg hj]
  show AHeap.mk (fun j => if j = id then some b else H.get j) H.next = H
  rw [e]
theorem upd_upd (H : AHeap) (id : Nat) (b c : Blk) : (H.upd id b).upd id c = H.upd id c := by
  unfold AHeap.upd
  congr 1
  funext j
  by_cases hj : j = id <;> simp [hj]
end Go.Hx
namespace Go.Proofs
open Go.Hx
def natsJ (l : List Nat) : List Int := l.map fun (v : Nat) => (v : Int)
theorem natsJ_len (l : List Nat) : (natsJ l).length = l.length := by simp [natsJ]
theorem natsJ_get {l : List Nat} {i k : Nat} (h : l[i]? = some k) : (natsJ l)[i]? = some (k : Int) := by simp [natsJ, h]
theorem natsJ_set (l : List Nat) (i k : Nat) : (natsJ l).set i (k : Int) = natsJ (l.set i k) := by unfold natsJ; rw [List.map_set]
def prm (i : Nat) : Int := primesL.getD i 2
def cntQ (q : Int) : Nat → Int → Nat
  | 0, _ => 0
  | f + 1, n => if n % q = 0 then cntQ q f (n / q) + 1 else 0
def rstQ (q : Int) : Nat → Int → Int
  | 0, n => n
  | f + 1, n => if n % q = 0 then rstQ q f (n / q) else n
def leftP (n : Int) : Nat → Int
  | 0 => n
  | i + 1 => rstQ (prm i) 6 (leftP n i)
def expN (n : Int) (i : Nat) : Nat := cntQ (prm i) 6 (leftP n i)
def addP (e : List Int) (t n : Int) : List Int := (List.range 18).map fun k => e.getD k 0 + t * (expN n k : Int)
def zeroP : List Int := List.replicate 18 0
theorem cnt_le (q : Int) : ∀ (f : Nat) (n : Int), cntQ q f n ≤ f := by
  intro f
  induction f with
  | zero => intro n; exact Nat.le_refl _
  | succ f ih =>
    intro n
    unfold cntQ
    split
    · have := ih (n / q); omega
    · omega
theorem exp_le (n : Int) (i : Nat) : expN n i ≤ 6 := cnt_le _ _ _
def InB (e : List Int) (b : Int) : Prop := ∀ x ∈ e, -b ≤ x ∧ x ≤ b
theorem InB.getD {e : List Int} {b : Int} (h : InB e b) (hb : 0 ≤ b) (k : Nat) : -b ≤ e.getD k 0 ∧ e.getD k 0 ≤ b := by
  rw [List.getD_eq_getElem?_getD]
  cases hk : e[k]? with
  | none => exact ⟨by simp; omega, by simpa using hb⟩
  | some x => exact h x (List.mem_of_getElem? hk)
theorem sgn_mul {t : Int} (ht : t = 1 ∨ t = -1) {c : Nat} (hc : c ≤ 6) : -6 ≤ t * (c : Int) ∧ t * (c : Int) ≤ 6 := by
  rcases ht with rfl | rfl <;> omega
theorem InB.add {e : List Int} {b t : Int} (h : InB e b) (hb : 0 ≤ b) (ht : t = 1 ∨ t = -1) (n : Int) : InB (addP e t n) (b + 6) := fun x hx => by
  obtain ⟨k, _, rfl⟩ := List.mem_map.1 hx
  have := h.getD hb k
  have := sgn_mul ht (exp_le n k)
  omega
theorem InB.zero : InB zeroP 0 := fun x hx => by
  obtain rfl := List.eq_of_mem_replicate hx
  omega
theorem InB.mono {e : List Int} {a b : Int} (h : InB e a) (hab : a ≤ b) : InB e b := fun x hx => by have := h x hx; omega
end Go.Proofs
namespace Go.Proofs.R01
open Go.Hx
section
variable {P : Program} {t : TypeId} {x y : Operand} {k k' : IntKind} {a b : Int}
theorem pureRun_bind {α β : Type} {s : Sem α} {f : α → Sem β} {a : α} (h : pureRun P s = some a) : pureRun P (s >>= f) = pureRun P (f a) := by
  induction s with
  | pure b => simp only [pureRun, Option.some.injEq] at h; subst h; rfl
  | program k ih => exact ih P h
  | mark m k ih => exact ih h
  | _ => simp [pureRun] at h
end
section
variable {P : Program} {G : Nat → Option (List AVal)}
end
end Go.Proofs.R01
namespace Go.Proofs.R01
open Go.Hx
def val : List Int → Nat
  | [] => 0
  | a :: l => a.toNat + 10000 * val l
end Go.Proofs.R01
namespace Go.Proofs.R01
open Go.Hx
theorem over_app {H H' H2 : AHeap} {v : AVal} {cs : List AVal} {e : TypeId} (ov : Over H H') (h : OwnG H.next H' e v cs) (hn : H'.next ≤ H2.next) (hp : ∀ k, k < H'.next → (∀ g n, v ≠ .own k g 0 n 1) → H2.get k = H'.get k) : Over H H2 :=
  ⟨by have := ov.next; omega, fun id hid => by
    rw [hp id (by have := ov.next; omega) fun g n he => ?_, ov.old id hid]
    rcases h with ⟨h, _⟩ | ⟨i2, g2, a1, _, h, _⟩
    · rw [h] at he; cases he
    · rw [h] at he; have := AVal.own.inj he; omega⟩
end Go.Proofs.R01
namespace Go.Proofs.R01
open Go.Hx
end Go.Proofs.R01
namespace Go.Proofs.R01
open Go.Hx
theorem setAt_ints {l : List Int} {k : Nat} (v : Int) (h : k < l.length) : setAt (ints l) k [.lit (.int .i64 v)] = ints (l.set k v) := by
  unfold setAt ints
  rw [List.map_set, List.set_eq_take_append_cons_drop, if_pos (by simpa using h)]
  simp [lin]
end Go.Proofs.R01
namespace Go.Proofs.R01
open Go.Hx
end Go.Proofs.R01
namespace Go.Proofs.R01
open Go.Hx
end Go.Proofs.R01
namespace Go.Proofs.R01
open Go.Hx
def vn : AVal → Nat
  | .vec _ l => val (l.map iv)
  | _ => 0
end Go.Proofs.R01
namespace Go.Proofs.R01
open Go.Hx
end Go.Proofs.R01
namespace Go.Hx
variable {P : Program} {H H' : AHeap}
end Go.Hx
namespace Go.Proofs
open Go.Hx
def U8 (n : Int) : Prop := 0 ≤ n ∧ n < 256
structure IsPerm (n : Nat) (p : List Int) : Prop where
  len : p.length = n
  nd : p.Nodup
  rng : ∀ x ∈ p, 0 ≤ x ∧ x < n
theorem isPerm_ins {n : Nat} {p : List Int} (h : IsPerm n p) (at' : Nat) (ha : at' ≤ n) : IsPerm (n + 1) (p.take at' ++ (n : Int) :: p.drop at') := by
  have hperm : (p.take at' ++ (n : Int) :: p.drop at').Perm ((n : Int) :: p) := by
    have := List.perm_middle (a := (n : Int)) (l₁ := p.take at') (l₂ := p.drop at')
    rwa [List.take_append_drop] at this
  refine ⟨by rw [hperm.length_eq]; simp [h.len], (hperm.nodup_iff).2 (List.nodup_cons.2 ⟨fun hm => ?_, h.nd⟩), fun x hx => ?_⟩
  · have := h.rng _ hm; omega
  · rcases List.mem_cons.1 (hperm.mem_iff.1 hx) with rfl | h2
    · omega
    · have := h.rng x h2; omega

end Go.Proofs
namespace Go.Hx
open Go.Proofs (get_lt get_of_lt)
variable {P : Program} {H : AHeap} {G : Nat → Option (List AVal)}
def OwnD2 (lo : Nat) (H : AHeap) (e1 e0 : TypeId) (v : AVal) (rows : List (List AVal)) : Prop :=
  ∃ cs : List AVal, OwnG lo H e1 v cs ∧ cs.length = rows.length ∧ (∀ (j : Nat) (r : List AVal) (c : AVal), rows[j]? = some r → cs[j]? = some c → OwnG lo H e0 c r) ∧ ∀ (i j a g g' n n' : Nat), cs[i]? = some (.own a g 0 n 1) → cs[j]? = some (.own a g' 0 n' 1) → i = j
theorem OwnD2.nil {lo : Nat} {e1 e0 : TypeId} : OwnD2 lo H e1 e0 (.lit (.slice none 0 0)) [] := ⟨[], .nil, rfl, fun j r c h => by simp at h, fun i j a g g' n n' h => by simp at h⟩
theorem OwnD2.toG {lo : Nat} {e1 e0 : TypeId} {v : AVal} {rows : List (List AVal)} (h : OwnD2 lo H e1 e0 v rows) : OwnG2 lo H e1 e0 v rows :=
  let ⟨cs, a, b, c, _⟩ := h; ⟨cs, a, b, c⟩
theorem OwnD2.lo {lo lo' : Nat} {e1 e0 : TypeId} {v : AVal} {rows : List (List AVal)} (h : OwnD2 lo H e1 e0 v rows) (hl : lo' ≤ lo) : OwnD2 lo' H e1 e0 v rows :=
  let ⟨cs, a, b, c, d⟩ := h; ⟨cs, a.keep hl (Nat.le_refl _) fun _ _ _ _ _ _ => rfl, b, fun j r q h1 h2 => (c j r q h1 h2).keep hl (Nat.le_refl _) fun _ _ _ _ _ _ => rfl, d⟩
theorem OwnD2.app {Hx : AHeap} {lo n : Nat} {e1 e0 : TypeId} {v x : AVal} {rows : List (List AVal)} {r : List AVal} {t : TypeId} {z : List AVal} (ht : P.underlying t = some (.slice e1)) (hz : P.cellsOf e1 = 1) (hzero : zeroA P e1 = some z) (hby : P.bytesOf e1 = 24) (hne : e1 ≠ e0)
    (hb : rows.length < 2 ^ 40) (h : OwnD2 lo Hx e1 e0 v rows) (ho : Over Hx H) (hlo : lo ≤ Hx.next) (hx : OwnG Hx.next H e0 x r) (hn : n = H.next + 1) :
    ∃ v' H', appendA P (ext H [.arr 0 e1 [x]]) n t t v (.own H.next 0 0 1 1) = some (v', H') ∧ OwnD2 lo H' e1 e0 v' (rows ++ [r]) ∧ H.next ≤ H'.next ∧ (∀ k, k < H.next → k < lo → H'.get k = H.get k) := by
  obtain ⟨cs, h1, h2, h3, h4⟩ := h
  have hon := ho.next
  have h1' := h1.over ho
  obtain ⟨v', H', hA, hO, hL, hp⟩ := app_oneG (P := P) (t := t) ht hz hzero hx.one (by rw [hby, h2]; omega) h1' (by omega) hn
  have key : ∀ lo' u l, OwnG lo' H e0 u l → OwnG lo' H' e0 u l := fun lo' u l hu => h1'.otherE hu hne hL hp
  have split : ∀ (j : Nat) (c : AVal), (cs ++ [x])[j]? = some c → (j < cs.length ∧ cs[j]? = some c) ∨ (j = cs.length ∧ c = x) := fun j c hc => by
    rcases Nat.lt_or_ge j cs.length with hj | hj
    · rw [List.getElem?_append_left hj] at hc
      exact .inl ⟨hj, hc⟩
    · have := get_lt hc
      rw [List.length_append, List.length_singleton] at this
      have hj : j = cs.length := by omega
      subst hj
      rw [List.getElem?_append_right (Nat.le_refl _), Nat.sub_self] at hc
      exact .inr ⟨rfl, (Option.some.inj hc).symm⟩
  have old : ∀ (j a g m : Nat), cs[j]? = some (.own a g 0 m 1) → a < Hx.next := fun j a g m hc => by
    obtain ⟨r', hr'⟩ : ∃ r', rows[j]? = some r' := ⟨_, List.getElem?_eq_getElem (by rw [← h2]; exact get_lt hc)⟩
    rcases h3 j r' _ hr' hc with ⟨e, _⟩ | ⟨i, g', _, b, e, _⟩
    · cases e
    · rw [(AVal.own.inj e).1]; exact b
  have new : ∀ a g m, x = .own a g 0 m 1 → Hx.next ≤ a := fun a g m he => by
    rcases hx with ⟨e, _⟩ | ⟨i, g', b, _, e, _⟩
    · rw [e] at he; cases he
    · rw [e] at he; rw [← (AVal.own.inj he).1]; exact b
  refine ⟨v', H', hA, ⟨cs ++ [x], hO, by simp [h2], fun j r' c hr hc => ?_, fun i j a g g' m m' hi hj => ?_⟩, hL, fun k hk hkl => hp k hk (h1.ne hkl)⟩
  · rcases split j c hc with ⟨a, b⟩ | ⟨a, b⟩
    · rw [List.getElem?_append_left (by omega)] at hr
      exact key _ _ _ ((h3 j r' c hr b).over ho)
    · rw [a, h2, List.getElem?_append_right (Nat.le_refl _), Nat.sub_self] at hr
      cases hr
      rw [b]
      exact key _ _ _ (hx.keep hlo (Nat.le_refl _) fun _ _ _ _ _ _ => rfl)
  · rcases split i _ hi with ⟨a1, b1⟩ | ⟨a1, b1⟩ <;> rcases split j _ hj with ⟨a2, b2⟩ | ⟨a2, b2⟩
    · exact h4 i j a g g' m m' b1 b2
    · have := old i a g m b1
      have := new a g' m' b2.symm
      omega
    · have := old j a g' m' b2
      have := new a g m b1.symm
      omega
    · omega
theorem OwnD2.row {lo : Nat} {e1 e0 : TypeId} {v : AVal} {rows : List (List AVal)} (h : OwnD2 lo H e1 e0 v rows) (hne : e1 ≠ e0) {k : Nat} {r : List AVal} (hr : rows[k]? = some r) (h0 : r ≠ []) :
    ∃ idt gt idr gr cells, v = .own idt gt 0 rows.length 1 ∧ H.get idt = some (.arr gt e1 cells) ∧ cells.length = rows.length ∧ lo ≤ idt ∧ idt < H.next ∧ cells[k]? = some (.own idr gr 0 r.length 1) ∧ H.get idr = some (.arr gr e0 r) ∧ lo ≤ idr ∧ idr < H.next ∧
      ∀ r' : List AVal, r'.length = r.length → OwnD2 lo (H.upd idr (.arr gr e0 r')) e1 e0 v (rows.set k r') := by
  obtain ⟨cs, h1, h2, h3, h4⟩ := h
  have hk := get_lt hr
  obtain ⟨c, hc⟩ := get_of_lt (l := cs) (i := k) (by omega)
  rcases h3 k r c hr hc with ⟨_, e⟩ | ⟨idr, gr, a1, a2, e, a4⟩
  · exact absurd e h0
  rcases h1 with ⟨_, e'⟩ | ⟨idt, gt, b1, b2, e', b4⟩
  · rw [e'] at h2; simp at h2; omega
  subst e
  have hit : idt ≠ idr := fun e => by rw [e, a4] at b4; cases b4; exact hne rfl
  refine ⟨idt, gt, idr, gr, cs, by rw [e', h2], b4, h2, b1, b2, hc, a4, a1, a2, fun r' hl => ⟨cs, .inr ⟨idt, gt, b1, by rw [upd_next]; exact b2, e', by rw [upd_get, if_neg hit]; exact b4⟩, by rw [List.length_set]; exact h2, fun j q c' hj hc' => ?_, h4⟩⟩
  by_cases e : j = k
  · subst e
    rw [List.getElem?_set_self hk] at hj
    rw [hc] at hc'
    cases hj
    cases hc'
    exact .inr ⟨idr, gr, a1, by rw [upd_next]; exact a2, by rw [hl], by rw [upd_get, if_pos rfl]⟩
  · rw [List.getElem?_set_ne (fun h => e h.symm)] at hj
    refine (h3 j q c' hj hc').keep (Nat.le_refl _) (by rw [upd_next]; exact Nat.le_refl _) fun i g _ _ _ hv => ?_
    rw [upd_get, if_neg]
    rintro rfl
    rw [hv] at hc'
    exact e (h4 j k i g gr _ _ hc' hc)
theorem WeakS.cutE (hG : GOk G) {s : St} {n t0 : Nat} {v' : AVal} (hv : Fz (fun id => n ≤ id) s.H s.H.next (s.ρ t0) v') : WeakS P G s ⟨fun t => if t = t0 then v' else s.ρ t, s.H.cut n⟩ := by
  intro m wb Γ a w hs
  refine WeakS.freeze (s := s) (s' := ⟨fun t => if t = t0 then v' else s.ρ t, s.H.cut n⟩) hG (fzH_cut hs.heap.clo n) (fun t => ?_) m wb Γ a w hs
  by_cases h : t = t0
  · subst h
    simp only [if_true]
    exact hv
  · simp only [h, if_false]
    exact .dead (hs.env t).belowN
end Go.Hx
namespace Go.Proofs
open Go.Hx
theorem fz_rows {S : Nat → Prop} {lo nx : Nat} {H : AHeap} {e1 e0 : TypeId} {v : AVal} {ps : List (List Int)} (h : OwnG2 lo H e1 e0 v (ps.map ints)) (hS : ∀ i, lo ≤ i → S i) : Fz S H nx v (vecV ps) := by
  have := h.fz (S := S) (nx := nx) (rows' := ps.map ints) hS rfl fun j r r' h1 h2 => by
    rw [h1] at h2
    cases h2
    refine ⟨rfl, fun i hi _ => ?_⟩
    rw [List.getElem?_map] at h1
    obtain ⟨z, _, rfl⟩ := Option.map_eq_some_iff.1 h1
    have e0 : (ints z)[i]? = some (ints z)[i] := List.getElem?_eq_getElem hi
    generalize (ints z)[i] = a at e0 ⊢
    rw [ints_get] at e0
    obtain ⟨b, _, rfl⟩ := Option.map_eq_some_iff.1 e0
    exact .lit _
  rw [List.length_map, List.map_map] at this
  have e : (ps.map ((fun r : List AVal => AVal.vec r.length r) ∘ ints)) = ps.map vecI := List.map_congr_left fun z _ => by simp [Function.comp, vecI, ints_length]
  rw [e] at this
  exact this
structure D25 where
  cards : List Int
  cases : List (List Int)
  follow : Int
  miss : List Int
def casesC (l : List (List Int)) : List AVal := (l.map bytesL).flatten
def D25.cells (d : D25) : List AVal := [.vec d.cards.length (bytesL d.cards), .vec d.cases.length (casesC d.cases), .lit (.int .u8 d.follow), .vec d.miss.length (bytesL d.miss)]
structure D25.Ok (d : D25) : Prop where
  cl : (d.cards.length : Int) < 2 ^ 63
  c8 : ∀ x ∈ d.cards, U8 x
  xl : (d.cases.length : Int) < 2 ^ 63
  x8 : ∀ r ∈ d.cases, r.length = 5 ∧ ∀ x ∈ r, U8 x
  f8 : U8 d.follow
  ml : (d.miss.length : Int) < 2 ^ 63
  m8 : ∀ x ∈ d.miss, U8 x
theorem casesC_get {l : List (List Int)} (h : ∀ r ∈ l, r.length = 5) {i j : Nat} {r : List Int} {x : Int} (hr : l[i]? = some r) (hx : r[j]? = some x) : (casesC l)[i * 5 + j]? = some (.lit (.int .u8 x)) := by
  induction l generalizing i with
  | nil => simp at hr
  | cons a l ih =>
    have ha : (bytesL a).length = 5 := by rw [bytesL_len]; exact h a (by simp)
    simp only [casesC, List.map_cons, List.flatten_cons]
    cases i with
    | zero =>
      obtain rfl : a = r := by simpa using hr
      have hj := get_lt hx
      rw [Nat.zero_mul, Nat.zero_add, List.getElem?_append_left (by rw [bytesL_len]; exact hj), bytesL_get hx]
    | succ i =>
      rw [show (i + 1) * 5 + j = 5 + (i * 5 + j) by omega, List.getElem?_append_right (by omega), ha, show 5 + (i * 5 + j) - 5 = i * 5 + j by omega]
      exact ih (fun r hr => h r (by simp [hr])) (by simpa using hr)
theorem casesC_len {l : List (List Int)} (h : ∀ r ∈ l, r.length = 5) : (casesC l).length = l.length * 5 := by
  induction l with
  | nil => rfl
  | cons a l ih =>
    have ha : (bytesL a).length = 5 := by rw [bytesL_len]; exact h a (by simp)
    have := ih fun r hr => h r (by simp [hr])
    simp only [casesC, List.map_cons, List.flatten_cons, List.length_append, List.length_cons] at this ⊢
    omega
def cardsK (l : List Int) : List Int := (l.take 5).map fun x => 2 + x % 2
def cardsD (d : D25) : List Int := if cardsK d.cards = [] then [2] else cardsK d.cards
def caseS (cs : List Int) (f : Int) (raw : List Int) : Nat → List Int
  | 0 => []
  | v + 1 => caseS cs f raw v ++ [(if 0 < v ∧ raw.getD v 0 % 8 < f % 8 then (caseS cs f raw v).getD (v - 1) 0 else raw.getD v 0) % cs.getD v 2]
def casesD (d : D25) : List (List Int) := (d.cases.take 40).map fun r => caseS (cardsD d) d.follow r (cardsD d).length
def missS (xs : List (List Int)) (m : Int) : List (List Int) :=
  let i := (m / 5 % (xs.length : Int)).toNat
  let r := xs.getD i []
  xs.set i (r.set (m % (r.length : Int)).toNat (-1))
def missD (d : D25) : List (List Int) := d.miss.foldl missS (casesD d)
theorem cardsK_rng (l : List Int) : ∀ c ∈ cardsK l, 2 ≤ c ∧ c ≤ 3 := fun c h => by
  obtain ⟨x, _, rfl⟩ := List.mem_map.1 h
  omega
theorem cardsD_rng (d : D25) : ∀ c ∈ cardsD d, 2 ≤ c ∧ c ≤ 3 := fun c h => by
  unfold cardsD at h
  split at h
  · obtain rfl := List.mem_singleton.1 h; omega
  · exact cardsK_rng _ c h
theorem cardsD_len (d : D25) : 1 ≤ (cardsD d).length ∧ (cardsD d).length ≤ 5 := by
  unfold cardsD
  split
  · exact ⟨by simp, by simp⟩
  · rename_i h
    refine ⟨List.length_pos_iff.2 h, ?_⟩
    simp only [cardsK, List.length_map, List.length_take]
    omega
theorem caseS_len (cs : List Int) (f : Int) (raw : List Int) : ∀ v, (caseS cs f raw v).length = v
  | 0 => rfl
  | v + 1 => by simp [caseS, caseS_len cs f raw v]
theorem getD_nn {l : List Int} (h : ∀ x ∈ l, 0 ≤ x) (k : Nat) : 0 ≤ l.getD k 0 := by
  rw [List.getD_eq_getElem?_getD]
  cases hk : l[k]? with
  | none => exact Int.le_refl _
  | some x => exact h x (List.mem_of_getElem? hk)
theorem caseS_rng {cs : List Int} (hc : ∀ c ∈ cs, 2 ≤ c ∧ c ≤ 3) {f : Int} {raw : List Int} (hr : ∀ x ∈ raw, 0 ≤ x) : ∀ v k x, (caseS cs f raw v)[k]? = some x → 0 ≤ x ∧ x < cs.getD k 2 := by
  have cp : ∀ k, 2 ≤ cs.getD k 2 := fun k => by
    rw [List.getD_eq_getElem?_getD]
    cases hk : cs[k]? with
    | none => exact Int.le_refl _
    | some c => exact (hc c (List.mem_of_getElem? hk)).1
  intro v
  induction v with
  | zero => intro k x h; simp [caseS] at h
  | succ v ih =>
    intro k x h
    unfold caseS at h
    rcases Nat.lt_or_ge k v with hk | hk
    · rw [List.getElem?_append_left (by rw [caseS_len]; exact hk)] at h
      exact ih k x h
    · have := get_lt h
      rw [List.length_append, List.length_singleton, caseS_len] at this
      obtain rfl : k = v := by omega
      rw [List.getElem?_append_right (by rw [caseS_len]; exact Nat.le_refl _), caseS_len, Nat.sub_self] at h
      obtain rfl := Option.some.inj h
      exact ⟨Int.emod_nonneg _ (by have := cp k; omega), Int.emod_lt_of_pos _ (by have := cp k; omega)⟩
theorem caseS_nn {cs : List Int} (hc : ∀ c ∈ cs, 2 ≤ c ∧ c ≤ 3) {f : Int} {raw : List Int} (hr : ∀ x ∈ raw, 0 ≤ x) (v : Nat) : ∀ x ∈ caseS cs f raw v, 0 ≤ x := fun x hx => by
  obtain ⟨k, hk⟩ := List.getElem?_of_mem hx
  exact (caseS_rng hc hr v k x hk).1
theorem casesD_fit {d : D25} : (casesD d).length ≤ 40 ∧ ∀ r ∈ casesD d, r.length = (cardsD d).length := by
  refine ⟨by unfold casesD; rw [List.length_map, List.length_take]; omega, fun r hr => ?_⟩
  obtain ⟨q, _, rfl⟩ := List.mem_map.1 hr
  exact caseS_len ..
def RowsN (n : Nat) (xs : List (List Int)) : Prop := ∀ r ∈ xs, r.length = n
theorem RowsN.set {n : Nat} {xs : List (List Int)} (h : RowsN n xs) {i : Nat} {r : List Int} (hr : r.length = n) : RowsN n (xs.set i r) := fun q hq => by
  rcases List.mem_or_eq_of_mem_set hq with h' | rfl
  · exact h q h'
  · exact hr
theorem missS_ok {n : Nat} {xs : List (List Int)} (h : RowsN n xs) (m : Int) : (missS xs m).length = xs.length ∧ RowsN n (missS xs m) := by
  refine ⟨by simp [missS], ?_⟩
  unfold missS
  intro q hq
  rcases List.mem_or_eq_of_mem_set hq with h' | rfl
  · exact h q h'
  · rw [List.length_set]
    rw [List.getD_eq_getElem?_getD]
    cases hk : xs[(m / 5 % (xs.length : Int)).toNat]? with
    | none =>
      exfalso
      have hm : xs.set (m / 5 % (xs.length : Int)).toNat (((xs.getD (m / 5 % (xs.length : Int)).toNat []).set (m % ((xs.getD (m / 5 % (xs.length : Int)).toNat []).length : Int)).toNat (-1))) = xs := by
        apply List.set_eq_of_length_le
        exact List.getElem?_eq_none_iff.1 hk
      rcases Nat.eq_zero_or_pos xs.length with h0 | h0
      · rw [List.eq_nil_of_length_eq_zero h0] at hq
        simp at hq
      · have := Int.emod_lt_of_pos (m / 5) (show (0 : Int) < xs.length by omega)
        have := Int.emod_nonneg (m / 5) (show (xs.length : Int) ≠ 0 by omega)
        have := List.getElem?_eq_none_iff.1 hk
        omega
    | some r => exact h r (List.mem_of_getElem? hk)
theorem missF_ok {n : Nat} (ms : List Int) : ∀ {xs : List (List Int)}, RowsN n xs → (ms.foldl missS xs).length = xs.length ∧ RowsN n (ms.foldl missS xs) := by
  induction ms with
  | nil => intro xs h; exact ⟨rfl, h⟩
  | cons m ms ih =>
    intro xs h
    obtain ⟨a, b⟩ := missS_ok h m
    obtain ⟨c, e⟩ := ih b
    exact ⟨c.trans a, e⟩
theorem missD_ok (d : D25) : (missD d).length ≤ 40 ∧ RowsN (cardsD d).length (missD d) := by
  obtain ⟨a, b⟩ := casesD_fit (d := d)
  obtain ⟨c, e⟩ := missF_ok d.miss (xs := casesD d) b
  exact ⟨by unfold missD; omega, e⟩
end Go.Proofs
