/-
  The evaluator is right, first part: stores, operands, operations. Own work: no program stands in this text.
-/
import Derived.Test.YtcccmbeolcjacaaHxZ
namespace Go.Hx
variable {P : Program} {G : Nat → Option (List AVal)}

theorem fNat_eq (n : Nat) (k : Nat → R) : fNat n k = k n := by cases n <;> rfl
theorem fInt_eq (n : Int) (k : Int → R) : fInt n k = k n := by
  cases n with
  | ofNat n => show fNat n (fun n => k (.ofNat n)) = _; rw [fNat_eq]
  | negSucc n => show fNat n (fun n => k (.negSucc n)) = _; rw [fNat_eq]
theorem fBool_eq (n : Bool) (k : Bool → R) : fBool n k = k n := by cases n <;> rfl
theorem fList_eq (l : List AVal) : ∀ (k : List AVal → R), fList l k = k l := by
  induction l with
  | nil => intro k; rfl
  | cons x l ih => intro k; exact ih _
theorem fVal_eq (v : Value) (k : Value → R) : fVal v k = k v := by
  unfold fVal
  split
  · rw [fInt_eq]
  · rw [fBool_eq]
  · rfl
theorem fAV_eq (v : AVal) (k : AVal → R) : fAV v k = k v := by
  cases v with
  | lit v => show fLit v k = _; unfold fLit; rw [fVal_eq]
  | vec n cs => show fVec n cs k = _; unfold fVec; rw [fNat_eq, fList_eq]
  | own a b c d e => show fOwn a b c d e k = _; unfold fOwn; simp only [fNat_eq]
  | ptr a b c => show fPtr a b c k = _; unfold fPtr; simp only [fNat_eq]
  | vptr cs n => show fVptr cs n k = _; unfold fVptr; rw [fNat_eq, fList_eq]
  | agg cs => show fAgg cs k = _; unfold fAgg; rw [fList_eq]
  | tup cs => show fTup cs k = _; unfold fTup; rw [fList_eq]
  | clo f a b => show fClo f a b k = _; unfold fClo; simp only [fNat_eq, fList_eq]
  | yld n => show fYld n k = _; unfold fYld; rw [fNat_eq]

theorem getA_nil (n : Nat) : getA .nil n = none := rfl
theorem getA_zero (v : Option AVal) (l r : BT AVal) : getA (.node v l r) 0 = v := rfl
theorem getA_succ (v : Option AVal) (l r : BT AVal) (m : Nat) : getA (.node v l r) (m + 1) = if m % 2 = 0 then getA l (m / 2) else getA r (m / 2) := by
  show Nat.rec (motive := fun _ => Option AVal) (getA l (m / 2)) (fun _ _ => getA r (m / 2)) (m % 2) = _
  rcases Nat.mod_two_eq_zero_or_one m with h | h <;> rw [h] <;> rfl
theorem getB_nil (n : Nat) : getB .nil n = none := rfl
theorem getB_zero (v : Option EBlk) (l r : BT EBlk) : getB (.node v l r) 0 = v := rfl
theorem getB_succ (v : Option EBlk) (l r : BT EBlk) (m : Nat) : getB (.node v l r) (m + 1) = if m % 2 = 0 then getB l (m / 2) else getB r (m / 2) := by
  show Nat.rec (motive := fun _ => Option EBlk) (getB l (m / 2)) (fun _ _ => getB r (m / 2)) (m % 2) = _
  rcases Nat.mod_two_eq_zero_or_one m with h | h <;> rw [h] <;> rfl

theorem half_eq {m n : Nat} (h : m % 2 = n % 2) : m / 2 = n / 2 ↔ m = n := by omega

theorem setNilA_some : ∀ (f n : Nat) (x : AVal) (k : BT AVal → R) (r : RR), setNilA f n x k = some r → ∃ t, k t = some r ∧ ∀ m, getA t m = if m = n then some x else none := by
  intro f
  induction f with
  | zero => intro n x k r h; cases h
  | succ f ih =>
    intro n x k r h
    cases n with
    | zero =>
      refine ⟨_, h, fun m => ?_⟩
      cases m with
      | zero => rfl
      | succ m => rw [getA_succ]; simp [getA_nil]
    | succ n =>
      have h' : Nat.rec (motive := fun _ => R) (setNilA f (n / 2) x fun l => k (.node none l .nil)) (fun _ _ => setNilA f (n / 2) x fun r => k (.node none .nil r)) (n % 2) = some r := h
      rcases Nat.mod_two_eq_zero_or_one n with h2 | h2 <;> rw [h2] at h'
      · obtain ⟨t, h3, h4⟩ := ih _ _ _ _ h'
        refine ⟨_, h3, fun m => ?_⟩
        cases m with
        | zero => rw [if_neg (by omega)]; rfl
        | succ m =>
          rw [getA_succ, h4, getA_nil]
          split
          · rename_i hm
            simp only [Nat.add_right_cancel_iff, half_eq (hm.trans h2.symm)]
          · rename_i hm
            rw [if_neg]
            rintro hmn
            have : m = n := by omega
            exact hm (this ▸ h2)
      · obtain ⟨t, h3, h4⟩ := ih _ _ _ _ h'
        refine ⟨_, h3, fun m => ?_⟩
        cases m with
        | zero => rw [if_neg (by omega)]; rfl
        | succ m =>
          rw [getA_succ, h4, getA_nil]
          split
          · rename_i hm
            rw [if_neg]
            rintro hmn
            have : m = n := by omega
            omega
          · rename_i hm
            have hm' : m % 2 = n % 2 := by omega
            simp only [Nat.add_right_cancel_iff, half_eq hm']

theorem setA_some : ∀ (t : BT AVal) (n : Nat) (x : AVal) (k : BT AVal → R) (r : RR), setA t n x k = some r → ∃ t', k t' = some r ∧ ∀ m, getA t' m = if m = n then some x else getA t m := by
  intro t
  induction t with
  | nil => intro n x k r h; exact setNilA_some 20 n x k r h
  | node v l r ihl ihr =>
    intro n x k rr h
    cases n with
    | zero =>
      refine ⟨_, h, fun m => ?_⟩
      cases m with
      | zero => rfl
      | succ m => rw [getA_succ, getA_succ]; simp
    | succ n =>
      have h' : Nat.rec (motive := fun _ => R) (setA l (n / 2) x fun l => k (.node v l r)) (fun _ _ => setA r (n / 2) x fun r => k (.node v l r)) (n % 2) = some rr := h
      rcases Nat.mod_two_eq_zero_or_one n with h2 | h2 <;> rw [h2] at h'
      · obtain ⟨t, h3, h4⟩ := ihl _ _ _ _ h'
        refine ⟨_, h3, fun m => ?_⟩
        cases m with
        | zero => rw [if_neg (by omega)]; rfl
        | succ m =>
          rw [getA_succ, getA_succ, h4]
          split
          · rename_i hm
            simp only [Nat.add_right_cancel_iff, half_eq (hm.trans h2.symm)]
          · rename_i hm
            rw [if_neg]
            rintro hmn
            have : m = n := by omega
            exact hm (this ▸ h2)
      · obtain ⟨t, h3, h4⟩ := ihr _ _ _ _ h'
        refine ⟨_, h3, fun m => ?_⟩
        cases m with
        | zero => rw [if_neg (by omega)]; rfl
        | succ m =>
          rw [getA_succ, getA_succ, h4]
          split
          · rename_i hm
            rw [if_neg]
            rintro hmn
            have : m = n := by omega
            omega
          · rename_i hm
            have hm' : m % 2 = n % 2 := by omega
            simp only [Nat.add_right_cancel_iff, half_eq hm']

theorem setNilB_some : ∀ (f n : Nat) (x : EBlk) (k : BT EBlk → R) (r : RR), setNilB f n x k = some r → ∃ t, k t = some r ∧ ∀ m, getB t m = if m = n then some x else none := by
  intro f
  induction f with
  | zero => intro n x k r h; cases h
  | succ f ih =>
    intro n x k r h
    cases n with
    | zero =>
      refine ⟨_, h, fun m => ?_⟩
      cases m with
      | zero => rfl
      | succ m => rw [getB_succ]; simp [getB_nil]
    | succ n =>
      have h' : Nat.rec (motive := fun _ => R) (setNilB f (n / 2) x fun l => k (.node none l .nil)) (fun _ _ => setNilB f (n / 2) x fun r => k (.node none .nil r)) (n % 2) = some r := h
      rcases Nat.mod_two_eq_zero_or_one n with h2 | h2 <;> rw [h2] at h'
      · obtain ⟨t, h3, h4⟩ := ih _ _ _ _ h'
        refine ⟨_, h3, fun m => ?_⟩
        cases m with
        | zero => rw [if_neg (by omega)]; rfl
        | succ m =>
          rw [getB_succ, h4, getB_nil]
          split
          · rename_i hm
            simp only [Nat.add_right_cancel_iff, half_eq (hm.trans h2.symm)]
          · rename_i hm
            rw [if_neg]
            rintro hmn
            have : m = n := by omega
            exact hm (this ▸ h2)
      · obtain ⟨t, h3, h4⟩ := ih _ _ _ _ h'
        refine ⟨_, h3, fun m => ?_⟩
        cases m with
        | zero => rw [if_neg (by omega)]; rfl
        | succ m =>
          rw [getB_succ, h4, getB_nil]
          split
          · rename_i hm
            rw [if_neg]
            rintro hmn
            have : m = n := by omega
            omega
          · rename_i hm
            have hm' : m % 2 = n % 2 := by omega
            simp only [Nat.add_right_cancel_iff, half_eq hm']

theorem setB_some : ∀ (t : BT EBlk) (n : Nat) (x : EBlk) (k : BT EBlk → R) (r : RR), setB t n x k = some r → ∃ t', k t' = some r ∧ ∀ m, getB t' m = if m = n then some x else getB t m := by
  intro t
  induction t with
  | nil => intro n x k r h; exact setNilB_some 20 n x k r h
  | node v l r ihl ihr =>
    intro n x k rr h
    cases n with
    | zero =>
      refine ⟨_, h, fun m => ?_⟩
      cases m with
      | zero => rfl
      | succ m => rw [getB_succ, getB_succ]; simp
    | succ n =>
      have h' : Nat.rec (motive := fun _ => R) (setB l (n / 2) x fun l => k (.node v l r)) (fun _ _ => setB r (n / 2) x fun r => k (.node v l r)) (n % 2) = some rr := h
      rcases Nat.mod_two_eq_zero_or_one n with h2 | h2 <;> rw [h2] at h'
      · obtain ⟨t, h3, h4⟩ := ihl _ _ _ _ h'
        refine ⟨_, h3, fun m => ?_⟩
        cases m with
        | zero => rw [if_neg (by omega)]; rfl
        | succ m =>
          rw [getB_succ, getB_succ, h4]
          split
          · rename_i hm
            simp only [Nat.add_right_cancel_iff, half_eq (hm.trans h2.symm)]
          · rename_i hm
            rw [if_neg]
            rintro hmn
            have : m = n := by omega
            exact hm (this ▸ h2)
      · obtain ⟨t, h3, h4⟩ := ihr _ _ _ _ h'
        refine ⟨_, h3, fun m => ?_⟩
        cases m with
        | zero => rw [if_neg (by omega)]; rfl
        | succ m =>
          rw [getB_succ, getB_succ, h4]
          split
          · rename_i hm
            rw [if_neg]
            rintro hmn
            have : m = n := by omega
            omega
          · rename_i hm
            have hm' : m % 2 = n % 2 := by omega
            simp only [Nat.add_right_cancel_iff, half_eq hm']

theorem toE_def (env : BT AVal) (t : Tmp) : toE env t = (getA env t).getD (.lit undef) := by
  unfold toE
  cases getA env t <;> rfl

theorem toE_set {env env' : BT AVal} {d : Nat} {v : AVal} (h : ∀ m, getA env' m = if m = d then some v else getA env m) : toE env' = putA (toE env) (some d) v := by
  funext t
  simp only [toE_def, h, putA]
  split <;> rfl

theorem putE_some {env : BT AVal} {d : Option Tmp} {v : AVal} {k : BT AVal → R} {r : RR} (h : putE env d v k = some r) : ∃ env', k env' = some r ∧ toE env' = putA (toE env) d v := by
  cases d with
  | none => exact ⟨env, h, rfl⟩
  | some d =>
    obtain ⟨t, h1, h2⟩ := setA_some _ _ _ _ _ h
    exact ⟨t, h1, toE_set h2⟩

theorem evO_eq (env : BT AVal) (x : Operand) (k : AVal → R) : evO G env x k = k (evA G (toE env) x) := by
  cases x with
  | tmp t =>
    show evT env t k = _
    unfold evT
    simp only [evA, toE_def]
    cases getA env t <;> rfl
  | const v => rfl
  | global g =>
    show evG G g k = _
    unfold evG
    simp only [evA]
    cases G g with
    | none => rfl
    | some c => exact fList_eq _ _
  | func f => rfl

theorem evOs_eq (env : BT AVal) (l : List Operand) : ∀ (k : List AVal → R), evOs G env l k = k (l.map (evA G (toE env))) := by
  induction l with
  | nil => intro k; rfl
  | cons x l ih =>
    intro k
    show evO G env x (fun x => evOs G env l fun l => k (x :: l)) = _
    rw [evO_eq, ih]
    rfl

theorem evOo_eq (env : BT AVal) (x : Option Operand) (k : Option AVal → R) : evOo G env x k = k (x.map (evA G (toE env))) := by
  cases x with
  | none => rfl
  | some x => exact evO_eq _ _ _

/-! ### operations -/
def ORrel (o : OR) (h : EH) (v : AVal) (H' : AHeap) : Prop :=
  match o with
  | .fail => False
  | .val u => v = u ∧ H' = toH h
  | .eff u r g e c fr => v = u ∧ H' = ⟨fun j => if j = r then some (.arr g e c) else (toH h).get j, if fr then h.nx + 1 else h.nx⟩

theorem toH_set {h : EH} {hp : BT EBlk} {r nx : Nat} {b : EBlk} (hs : ∀ m, getB hp m = if m = r then some b else getB h.hp m) : toH ⟨hp, nx⟩ = ⟨fun j => if j = r then some b.toBlk else (toH h).get j, nx⟩ := by
  unfold toH
  congr 1
  funext j
  show Option.map EBlk.toBlk (getB hp j) = _
  rw [hs]
  split <;> rfl

theorem applyOR_some {h : EH} {k : AVal → EH → R} {o : OR} {r : RR} (hr : applyOR h k o = some r) : ∃ v h', ORrel o h v (toH h') ∧ k v h' = some r := by
  cases o with
  | fail => cases hr
  | val v =>
    have hr' : fAV v (fun v => k v h) = some r := hr
    rw [fAV_eq] at hr'
    exact ⟨v, h, ⟨rfl, rfl⟩, hr'⟩
  | eff v r' g e c fr =>
    have hr' : (fNat r' fun r' => fNat g fun g => fList c fun c => setB h.hp r' (.arr g e c) fun hp => fAV v fun v => k v ⟨hp, Bool.casesOn (motive := fun _ => Nat) fr h.nx (Nat.succ h.nx)⟩) = some r := hr
    rw [fNat_eq, fNat_eq, fList_eq] at hr'
    obtain ⟨hp, h1, h2⟩ := setB_some _ _ _ _ _ hr'
    rw [fAV_eq] at h1
    refine ⟨v, _, ⟨rfl, ?_⟩, h1⟩
    rw [toH_set h2]
    cases fr <;> rfl

theorem putK_some {d : Option Tmp} {k : BT AVal → EH → R} {env : BT AVal} {o : OR} {h : EH} {r : RR} (hr : putK d k env o h = some r) : ∃ v env' h', ORrel o h v (toH h') ∧ toE env' = putA (toE env) d v ∧ k env' h' = some r := by
  obtain ⟨v, h', h1, h2⟩ := applyOR_some hr
  obtain ⟨env', h3, h4⟩ := putE_some h2
  exact ⟨v, env', h', h1, h4, h3⟩

theorem ORrel_opt {o : Option AVal} {h : EH} {v : AVal} {H' : AHeap} (hr : ORrel (.opt o) h v H') : o = some v ∧ H' = toH h := by
  cases o with
  | none => exact hr.elim
  | some u => exact ⟨by rw [hr.1], hr.2⟩

theorem wrapF_eq (k : IntKind) (i : Int) : wrapF k i = k.wrap i := by
  unfold wrapF
  split
  · have hr : ∀ j : Int, -9223372036854775808 ≤ j → j ≤ 9223372036854775807 → IntKind.i64.wrap j = j := fun j h1 h2 => IntWalk.i64_in j (by omega)
    cases i with
    | ofNat n =>
      show Bool.casesOn (motive := fun _ => Int) (Nat.ble n 9223372036854775807) _ _ = _
      cases hb : Nat.ble n 9223372036854775807 with
      | false => rfl
      | true =>
        have := Nat.le_of_ble_eq_true hb
        exact (hr (Int.ofNat n) (by simp only [Int.ofNat_eq_natCast]; omega) (by simp only [Int.ofNat_eq_natCast]; omega)).symm
    | negSucc n =>
      show Bool.casesOn (motive := fun _ => Int) (Nat.ble n 9223372036854775807) _ _ = _
      cases hb : Nat.ble n 9223372036854775807 with
      | false => rfl
      | true =>
        have := Nat.le_of_ble_eq_true hb
        exact (hr (Int.negSucc n) (by omega) (by omega)).symm
  · rfl

theorem ltF_eq (a b : Int) : ltF a b = decide (a < b) := by
  cases a with
  | ofNat m => cases b with
    | ofNat n =>
      show Nat.ble (m + 1) n = _
      rw [Bool.eq_iff_iff, Nat.ble_eq, decide_eq_true_iff]
      simp; omega
    | negSucc n =>
      show false = _
      symm
      rw [decide_eq_false_iff_not]
      simp only [Int.ofNat_eq_natCast]
      omega
  | negSucc m => cases b with
    | ofNat n =>
      show true = _
      symm
      rw [decide_eq_true_iff]
      simp only [Int.ofNat_eq_natCast]
      omega
    | negSucc n =>
      show Nat.ble (n + 1) m = _
      rw [Bool.eq_iff_iff, Nat.ble_eq, decide_eq_true_iff]
      omega
theorem eqF_eq (a b : Int) : eqF a b = decide (a = b) := by
  cases a with
  | ofNat m => cases b with
    | ofNat n =>
      show Nat.beq m n = _
      rw [Bool.eq_iff_iff, decide_eq_true_iff]
      constructor
      · intro h; rw [Nat.eq_of_beq_eq_true h]
      · intro h; rw [Int.ofNat.inj h]; exact Nat.beq_refl n
    | negSucc n =>
      show false = _
      symm
      rw [decide_eq_false_iff_not]
      intro h; cases h
  | negSucc m => cases b with
    | ofNat n =>
      show false = _
      symm
      rw [decide_eq_false_iff_not]
      intro h; cases h
    | negSucc n =>
      show Nat.beq m n = _
      rw [Bool.eq_iff_iff, decide_eq_true_iff]
      constructor
      · intro h; rw [Nat.eq_of_beq_eq_true h]
      · intro h; rw [Int.negSucc.inj h]; exact Nat.beq_refl n

theorem putI_some {d : Option Tmp} {k : BT AVal → EH → R} {env : BT AVal} {h : EH} {kd : IntKind} {i : Int} {r : RR} (hr : putI d k env h kd i = some r) : ∃ env', toE env' = putA (toE env) d (.lit (.int kd i)) ∧ k env' h = some r := by
  unfold putI at hr
  rw [fInt_eq] at hr
  obtain ⟨env', h1, h2⟩ := putE_some hr
  exact ⟨env', h2, h1⟩
theorem putB_some {d : Option Tmp} {k : BT AVal → EH → R} {env : BT AVal} {h : EH} {b : Bool} {r : RR} (hr : putB d k env h b = some r) : ∃ env', toE env' = putA (toE env) d (.lit (.bool b)) ∧ k env' h = some r := by
  unfold putB at hr
  rw [fBool_eq] at hr
  obtain ⟨env', h1, h2⟩ := putE_some hr
  exact ⟨env', h2, h1⟩

theorem not_decide_lt (a b : Int) : (decide (b < a)).not = decide (a ≤ b) := by
  rw [Bool.eq_iff_iff]
  simp

theorem intsR_some {op : BinOp} {t : TypeId} {x y : Operand} {f : IntsT} (hf : intsR op = some f) {kd : IntKind} {a b : Int} {d : Option Tmp} {k : BT AVal → EH → R} {env : BT AVal} {h : EH} {r : RR}
    (hr : f kd a b d k env h = some r) :
    ∃ v env', binA P op t x y (.lit (.int kd a)) (.lit (.int kd b)) = some v ∧ toE env' = putA (toE env) d v ∧ k env' h = some r := by
  unfold intsR at hf
  split at hf
  · cases hf; obtain ⟨env', h1, h2⟩ := putI_some hr; exact ⟨_, env', bin_add, by rw [h1, wrapF_eq]; rfl, h2⟩
  · cases hf; obtain ⟨env', h1, h2⟩ := putI_some hr; exact ⟨_, env', bin_sub, by rw [h1, wrapF_eq]; rfl, h2⟩
  · cases hf; obtain ⟨env', h1, h2⟩ := putI_some hr; exact ⟨_, env', bin_mul, by rw [h1, wrapF_eq]; rfl, h2⟩
  · cases hf; obtain ⟨env', h1, h2⟩ := putB_some hr; exact ⟨_, env', bin_lss, by rw [h1, ltF_eq], h2⟩
  · cases hf; obtain ⟨env', h1, h2⟩ := putB_some hr; exact ⟨_, env', bin_gtr, by rw [h1, ltF_eq], h2⟩
  · cases hf; obtain ⟨env', h1, h2⟩ := putB_some hr; exact ⟨_, env', bin_leq, by rw [h1, ltF_eq, not_decide_lt], h2⟩
  · cases hf; obtain ⟨env', h1, h2⟩ := putB_some hr; exact ⟨_, env', bin_geq, by rw [h1, ltF_eq, not_decide_lt], h2⟩
  · cases hf; obtain ⟨env', h1, h2⟩ := putB_some hr; exact ⟨_, env', bin_eql, by rw [h1, eqF_eq], h2⟩
  · cases hf; obtain ⟨env', h1, h2⟩ := putB_some hr; exact ⟨_, env', bin_neq, by rw [h1, eqF_eq], h2⟩
  · cases hf

theorem kindN_inj {a b : IntKind} (h : Nat.beq (kindN a) (kindN b) = true) : a = b := by
  have := Nat.eq_of_beq_eq_true h
  cases a <;> cases b <;> first | rfl | simp [kindN] at this

theorem loadF_some {h : EH} {t : TypeId} {a v : AVal} (hr : loadF P h t a = some v) : loadA P (toH h) t a = some v := by
  unfold loadF at hr
  split at hr
  · rename_i id gen off
    split at hr
    · rename_i g e cells hg
      show (match (toH h).get id with | some (.arr g _ cells) => if g = gen then partA P t cells off else none | _ => none) = some v
      have : (toH h).get id = some (.arr g e cells) := by show Option.map EBlk.toBlk (getB h.hp id) = _; rw [hg]; rfl
      rw [this]
      cases hb : Nat.beq g gen with
      | false => rw [hb] at hr; cases hr
      | true =>
        rw [hb] at hr
        simp only
        rw [if_pos (Nat.eq_of_beq_eq_true hb)]
        exact hr
    · cases hr
  · exact hr
  · cases hr

theorem storeF_rel {h : EH} {t : TypeId} {a x v : AVal} {H' : AHeap} (hr : ORrel (storeF P h t a x) h v H') : v = .lit undef ∧ storeA P (toH h) t a x = some H' := by
  unfold storeF at hr
  split at hr
  · rename_i id gen off
    split at hr
    · rename_i g e cells hg
      have hget : (toH h).get id = some (.arr g e cells) := by show Option.map EBlk.toBlk (getB h.hp id) = _; rw [hg]; rfl
      cases hb : Nat.beq g gen with
      | false => rw [hb] at hr; exact hr.elim
      | true =>
        rw [hb] at hr
        simp only at hr
        split at hr
        · rename_i hc
          refine ⟨hr.1, ?_⟩
          have hgg := Nat.eq_of_beq_eq_true hb
          show (match (toH h).get id with | some (.arr g e cells) => if g = gen ∧ x.cells.length = P.cellsOf t ∧ x.cells.all AVal.one = true ∧ off + x.cells.length ≤ cells.length then some ((toH h).upd id (.arr g e (setAt cells off x.cells))) else none | _ => none) = some H'
          rw [hget]
          simp only
          rw [if_pos ⟨hgg, hc⟩, hr.2]
          rfl
        · exact hr.elim
    · exact hr.elim
  · exact hr.elim

def VH (h : EH) : Prop := ∀ id b, getB h.hp id = some b → id < h.nx
theorem VH.wf {h : EH} (hv : VH h) : WFH (toH h) := fun id b hb => by
  have hb' : Option.map EBlk.toBlk (getB h.hp id) = some b := hb
  cases hg : getB h.hp id with
  | none => rw [hg] at hb'; cases hb'
  | some x => exact hv id x hg

def ORok (o : OR) (h : EH) : Prop :=
  match o with
  | .eff _ r _ _ _ fr => if fr then r = h.nx else r < h.nx
  | _ => True

theorem applyOR_ok {h : EH} {k : AVal → EH → R} {o : OR} {r : RR} (hv : VH h) (hok : ORok o h) (hr : applyOR h k o = some r) : ∃ v h', ORrel o h v (toH h') ∧ VH h' ∧ k v h' = some r := by
  cases o with
  | fail => cases hr
  | val v =>
    have hr' : fAV v (fun v => k v h) = some r := hr
    rw [fAV_eq] at hr'
    exact ⟨v, h, ⟨rfl, rfl⟩, hv, hr'⟩
  | eff v r' g e c fr =>
    have hr' : (fNat r' fun r' => fNat g fun g => fList c fun c => setB h.hp r' (.arr g e c) fun hp => fAV v fun v => k v ⟨hp, Bool.casesOn (motive := fun _ => Nat) fr h.nx (Nat.succ h.nx)⟩) = some r := hr
    rw [fNat_eq, fNat_eq, fList_eq] at hr'
    obtain ⟨hp, h1, h2⟩ := setB_some _ _ _ _ _ hr'
    rw [fAV_eq] at h1
    refine ⟨v, _, ⟨rfl, ?_⟩, ?_, h1⟩
    · rw [toH_set h2]
      cases fr <;> rfl
    · intro id b hb
      rw [h2] at hb
      cases fr with
      | false =>
        have hlt : r' < h.nx := hok
        show id < h.nx
        split at hb
        · omega
        · exact hv id b hb
      | true =>
        have hlt : r' = h.nx := hok
        show id < h.nx + 1
        split at hb
        · omega
        · have := hv id b hb; omega

/-- An operation that is no call of a function, done. -/
def Plain (P : Program) (G : Nat → Option (List AVal)) (o : Op) (d : Option Tmp) (k : BT AVal → EH → R) (env : BT AVal) (h : EH) (r : RR) : Prop :=
  ∃ v env' h', opA P G (toE env) (toH h) h.nx o = some (v, toH h') ∧ VH h' ∧ toE env' = putA (toE env) d v ∧ k env' h' = some r

theorem plain_putK {o : Op} {d : Option Tmp} {k : BT AVal → EH → R} {env : BT AVal} {x : OR} {h : EH} {r : RR} (hv : VH h) (hok : ORok x h) (hrel : ∀ v H', ORrel x h v H' → opA P G (toE env) (toH h) h.nx o = some (v, H'))
    (hr : putK d k env x h = some r) : Plain P G o d k env h r := by
  obtain ⟨v, h', h1, h2, h3⟩ := applyOR_ok hv hok hr
  obtain ⟨env', h4, h5⟩ := putE_some h3
  exact ⟨v, env', h', hrel _ _ h1, h2, h5, h4⟩

theorem plain_putE {o : Op} {d : Option Tmp} {k : BT AVal → EH → R} {env : BT AVal} {v : AVal} {h : EH} {r : RR} (hv : VH h) (hrel : opA P G (toE env) (toH h) h.nx o = some (v, toH h))
    (hr : putE env d v (fun env => k env h) = some r) : Plain P G o d k env h r := by
  obtain ⟨env', h4, h5⟩ := putE_some hr
  exact ⟨v, env', h, hrel, hv, h5, h4⟩

theorem ORok_opt (o : Option AVal) (h : EH) : ORok (.opt o) h := by cases o <;> trivial

theorem plain_opt {o : Op} {d : Option Tmp} {k : BT AVal → EH → R} {env : BT AVal} {x : Option AVal} {h : EH} {r : RR} (hv : VH h) (hrel : opA P G (toE env) (toH h) h.nx o = x.map fun v => (v, toH h))
    (hr : putK d k env (.opt x) h = some r) : Plain P G o d k env h r :=
  plain_putK hv (ORok_opt _ _) (fun v H' hx => by
    obtain ⟨h1, h2⟩ := ORrel_opt hx
    rw [hrel, h1, h2]
    rfl) hr

theorem fpO_eff (ρ : Env) (id : Nat) (o : Op) : (fpO P G ρ id o).eff = [] ∨ ∃ r, (fpO P G ρ id o).eff = [r] := by
  have hid : ∀ v : AVal, idsV v = [] ∨ ∃ r, idsV v = [r] := fun v => by cases v <;> first | exact .inl rfl | exact .inr ⟨_, rfl⟩
  have hb : ∀ (b : Builtin) (ats : List TypeId) (args : List AVal), (fpB P id b ats args).eff = [] ∨ ∃ r, (fpB P id b ats args).eff = [r] := fun b ats args => by
    unfold fpB
    split
    · split
      · exact hid _
      · exact .inr ⟨_, rfl⟩
    · exact hid _
    · exact .inl rfl
    · exact .inl rfl
  unfold fpO
  split <;> first | exact .inl rfl | exact .inr ⟨_, rfl⟩ | exact hid _ | skip
  split
  · exact hb _ _ _
  · exact .inl rfl

theorem genO_ok {E : EP} {env : BT AVal} {h : EH} {o : Op} (hv : VH h) : ORok (genO E env h o) h ∧ ∀ v H', ORrel (genO E env h o) h v H' → opA E.P E.G (toE env) (toH h) h.nx o = some (v, H') := by
  unfold genO genF
  split
  · exact ⟨trivial, fun _ _ h => h.elim⟩
  · rename_i u H2 hop
    obtain ⟨e, al, h1, h2, h3, h4, h5, _⟩ := opA_local (hv.wf) hop
    split
    · rename_i hf
      refine ⟨trivial, fun v H' hx => ?_⟩
      have he : e = none := by
        cases e with
        | none => rfl
        | some kb =>
          have h3' := (h3 kb.1 kb.2 rfl).1
          have hf' : (fpO E.P E.G (toE env) (toH h).next o).eff = [] := hf
          rw [hf'] at h3'
          cases h3'
      have hal : al = false := by
        cases al with
        | false => rfl
        | true =>
          obtain ⟨b, hb⟩ := h4 rfl
          rw [he] at hb
          cases hb
      obtain ⟨rfl, rfl⟩ := hx
      subst he
      subst hal
      rw [hop]
      congr 2
      have h1' : H2.get = (toH h).get := h1
      have h2' : H2.next = (toH h).next := h2
      cases H2
      simp only at h1' h2'
      rw [h1', h2']
    · rename_i r l hf
      split
      · rename_i g e' c hg
        have hf' : (fpO E.P E.G (toE env) (toH h).next o).eff = r :: l := hf
        have hl : l = [] := by
          rcases fpO_eff (P := E.P) (G := E.G) (toE env) (toH h).next o with h6 | ⟨r', h6⟩
          · rw [hf'] at h6; cases h6
          · rw [hf'] at h6; cases h6; rfl
        subst hl
        have key : H2 = ⟨fun j => if j = r then some (.arr g e' c) else (toH h).get j, if al then (toH h).next + 1 else (toH h).next⟩ ∧ (if al = true then r = h.nx else r < h.nx) := by
          cases e with
          | none =>
            have hal : al = false := by
              cases al with
              | false => rfl
              | true => obtain ⟨b, hb⟩ := h4 rfl; cases hb
            subst hal
            have h1' : H2.get = (toH h).get := h1
            have h2' : H2.next = (toH h).next := h2
            have hgr : (toH h).get r = some (.arr g e' c) := by rw [← h1']; exact hg
            refine ⟨?_, hv.wf r _ hgr⟩
            cases H2
            simp only at h1' h2'
            rw [h1', h2']
            congr 1
            funext j
            split
            · rename_i hj; rw [hj, hgr]
            · rfl
          | some kb =>
            obtain ⟨kk, b⟩ := kb
            obtain ⟨h7, h8⟩ := h3 kk b rfl
            rw [hf'] at h7
            have hkk : kk = r := by simpa using h7
            subst hkk
            have hb : b = .arr g e' c := by
              rw [h1] at hg
              simp only [effGet, if_true] at hg
              exact Option.some.inj hg
            subst hb
            refine ⟨?_, ?_⟩
            · cases H2
              simp only at h1 h2
              rw [h1, h2]
              rfl
            · cases al with
              | true =>
                obtain ⟨b, hb⟩ := h4 rfl
                simp only [Option.some.injEq, Prod.mk.injEq] at hb
                exact hb.1
              | false => exact h5 _ (h8 rfl)
        have hbeq : Nat.beq r h.nx = al := by
          cases al with
          | true => rw [show r = h.nx from key.2]; exact Nat.beq_refl _
          | false =>
            have : r < h.nx := key.2
            cases hb : Nat.beq r h.nx with
            | false => rfl
            | true => have := Nat.eq_of_beq_eq_true hb; omega
        rw [hbeq]
        refine ⟨?_, fun v H' hx => ?_⟩
        · have := key.2
          cases al <;> exact this
        · obtain ⟨rfl, rfl⟩ := hx
          rw [hop, key.1]
          rfl
      · exact ⟨trivial, fun _ _ h => h.elim⟩

theorem plain_gen {E : EP} {ih : EvT} {rd : Option Nat} {o : Op} {d : Option Tmp} {k : BT AVal → EH → R} {env : BT AVal} {h : EH} {r : RR} (hv : VH h) (hr : rGen o E ih rd d k env h = some r) : Plain E.P E.G o d k env h r :=
  plain_putK hv (genO_ok hv).1 (genO_ok hv).2 hr
end Go.Hx
