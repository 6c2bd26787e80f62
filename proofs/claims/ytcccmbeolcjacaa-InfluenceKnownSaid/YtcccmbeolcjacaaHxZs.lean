/-
  The evaluator is right, last part: calls, regions, code. Own work: no program stands in this text.
-/
import Derived.Test.YtcccmbeolcjacaaHxZr
namespace Go.Hx

def gdK (z : AVal) (K : ARes → AHeap → Prop) : ARes → AHeap → Prop := fun r H' => match r with
  | .ret v => K (.ret (.tup [v, .lit (.int .i64 0)])) H'
  | .panic => K (.ret (.tup [z, .lit (.int .i64 6)])) H'

structure EOk (E : EP) : Prop where
  gok : GOk E.G
  mixed : E.P.follows .mixedOrders = true
  known : ∀ f l, E.known f = some l → ∀ a v, (a, v) ∈ l → ACall E.P E.G f a noH fun r H' => ∃ u, r = .ret u ∧ Fresh H' u v
  gd : ∀ f z, E.gd f = some z → ∀ g cap H K, ACall E.P E.G g cap H (gdK z K) → ACall E.P E.G f [.clo g [] cap] H K

def CRes : RR → ARes → EH → Prop
  | .ret v h, x, h' => x = .ret v ∧ h' = h
  | .panic h, x, h' => x = .panic ∧ h' = h
  | _, _, _ => False

def EvOk (E : EP) (ih : EvT) : Prop := ∀ rd n c env h r, ih rd n c env h = some r → VH h → fits n c = true →
  ∃ x env' h', r = .ev x env' h' ∧ VH h' ∧ ∀ Q : AX → St → Prop, Q x ⟨toE env', toH h'⟩ → W E.P E.G n rd c Q ⟨toE env, toH h⟩

theorem W.here {P : Program} {G : Nat → Option (List AVal)} {n : Nat} {rd : Option Nat} {c : Code} {Q : AX → St → Prop} {s s' : St} {x : AX} (h : ∀ Q : AX → St → Prop, Q x s' → W P G n rd c Q s) (hq : Q x s') : W P G n rd c Q s :=
  (h (fun y t => y = x ∧ t = s') ⟨rfl, rfl⟩).mono fun y t ht => by rw [ht.1, ht.2]; exact hq

def CallOk (E : EP) (f : FuncId) (args : List AVal) (h : EH) (r : RR) : Prop :=
  ∃ x h', CRes r x h' ∧ VH h' ∧ ∀ K : ARes → AHeap → Prop, K x (toH h') → ACall E.P E.G f args (toH h) K
def AppOk (E : EP) (fv : AVal) (args : List AVal) (h : EH) (r : RR) : Prop :=
  ∃ x h', CRes r x h' ∧ VH h' ∧ ∀ K : ARes → AHeap → Prop, K x (toH h') → AApply E.P E.G fv args (toH h) K

section
variable {E : EP} {ih : EvT}

theorem boolRec_some {b : Bool} {x : R} {r : RR} (h : Bool.rec (motive := fun _ => R) none x b = some r) : b = true ∧ x = some r := by
  cases b with
  | false => cases h
  | true => exact ⟨rfl, h⟩

theorem nil_VH : VH ⟨.nil, 0⟩ := fun _ _ h => by cases h
theorem toH_nil : toH ⟨.nil, 0⟩ = noH := rfl

theorem evCall_ok (hI : EvOk E ih) {f : FuncId} {args : List AVal} {h : EH} {r : RR} (hv : VH h) (hr : evCall E ih f args h = some r) : CallOk E f args h r := by
  unfold evCall at hr
  cases hf : E.P.funcs[f]? with
  | none => rw [hf] at hr; cases hr
  | some fn =>
    rw [hf] at hr
    have hr1 : Option.rec (motive := fun _ => R) none (fun c => evFn E ih fn c args h) fn.body = some r := hr
    cases hb : fn.body with
    | none => rw [hb] at hr1; cases hr1
    | some c =>
      rw [hb] at hr1
      have hr2 : evFn E ih fn c args h = some r := hr1
      unfold evFn at hr2
      obtain ⟨hok, hr3⟩ := boolRec_some hr2
      obtain ⟨hle, hr4⟩ := boolRec_some hr3
      have hle := Nat.le_of_ble_eq_true hle
      unfold okFn at hok
      simp only [Bool.and_eq_true, Bool.not_eq_true'] at hok
      obtain ⟨env, hr5, henv⟩ := listE_env hr4
      have body : ∀ K : ARes → AHeap → Prop, W E.P E.G fn.ntmps none c (bodyQ E.P E.G fn.results.toList (toH h) K) ⟨envOf args, toH h⟩ → ACall E.P E.G f args (toH h) K := fun K hW => ACall.of_bodyW hf hb rfl rfl hok.2 hle hW
      unfold endCall at hr5
      have ret : ∀ env' h' vs, resA E.P (toH h') (toE env') fn.results.toList = some vs → endRet h.nx (resV vs) h' = some r → VH h' → (∀ Q : AX → St → Prop, (Q .normal ⟨toE env', toH h'⟩ ∧ Q .ret ⟨toE env', toH h'⟩) → W E.P E.G fn.ntmps none c Q ⟨toE env, toH h⟩) → CallOk E f args h r := by
        intro env' h' vs hvs he hv' hW
        unfold endRet at he
        obtain ⟨hnx, he2⟩ := boolRec_some he
        rw [fAV_eq] at he2
        have he3 : r = .ret (resV vs) h' := (Option.some.inj he2).symm
        subst he3
        refine ⟨.ret (resV vs), h', ⟨rfl, rfl⟩, hv', fun K hK => body K ?_⟩
        rw [← henv]
        have hfin : wpo (resA E.P (toH h') (toE env') fn.results.toList) fun vs => FinV E.P E.G (toH h) K (resV vs) (toH h') := ⟨vs, hvs, FinV.mk (Nat.le_of_ble_eq_true hnx) hK⟩
        exact hW _ ⟨hfin, hfin⟩
      split at hr5
      · rename_i env' h' hi
        obtain ⟨x, e2, h2, h3, h4, h5⟩ := hI _ _ _ _ _ _ hi hv hok.1
        cases h3
        split at hr5
        · rename_i vs hvs; exact ret _ _ _ hvs hr5 h4 fun Q hq => h5 Q hq.1
        · cases hr5
      · rename_i env' h' hi
        obtain ⟨x, e2, h2, h3, h4, h5⟩ := hI _ _ _ _ _ _ hi hv hok.1
        cases h3
        split at hr5
        · rename_i vs hvs; exact ret _ _ _ hvs hr5 h4 fun Q hq => h5 Q hq.2
        · cases hr5
      · rename_i env' h' hi
        obtain ⟨x, e2, h2, h3, h4, h5⟩ := hI _ _ _ _ _ _ hi hv hok.1
        cases h3
        obtain ⟨hnx, he2⟩ := boolRec_some hr5
        have he3 : r = .panic h' := (Option.some.inj he2).symm
        subst he3
        refine ⟨.panic, h', ⟨rfl, rfl⟩, h4, fun K hK => body K ?_⟩
        rw [← henv]
        exact h5 _ ⟨toH h', WeakV.refl _ _, Nat.le_of_ble_eq_true hnx, hK⟩
      · cases hr5

theorem evAlone_ok (hI : EvOk E ih) {f : FuncId} {args : List AVal} {v : AVal} (hr : evAlone E ih f args = some v) : ACall E.P E.G f args noH fun r H' => ∃ u, r = .ret u ∧ Fresh H' u v := by
  unfold evAlone at hr
  split at hr
  · rename_i u h' hc
    obtain ⟨x, h2, hcr, hv2, hK⟩ := evCall_ok hI nil_VH hc
    obtain ⟨rfl, rfl⟩ := hcr
    exact hK _ ⟨u, rfl, freshV_some _ hr⟩
  · cases hr

theorem frame_call (hE : EOk E) {f : FuncId} {args args' : List AVal} {rs : List Nat} {v : AVal} {h : EH} (hm : mapV (viewV h 40) args = some (args', rs)) (hc : ACall E.P E.G f args' noH fun r H' => ∃ u, r = .ret u ∧ Fresh H' u v)
    (H2 : AHeap) (ha : ∀ r, r ∈ rs → H2.get r = (toH h).get r) : ACall E.P E.G f args H2 fun r H' => r = .ret v ∧ H' = H2 := by
  obtain ⟨h1, h2⟩ := mapV_some hm
  exact ACall.frame hE.gok h1 (fun i hi hi' => let ⟨ri, h3, h4⟩ := h2 i hi hi'; viewV_some 40 h3 H2 fun r hr => ha r (h4 r hr)) hc

theorem evClo_ok (hE : EOk E) (hI : EvOk E ih) {f : FuncId} {first cap args : List AVal} {h : EH} {r : RR} (hv : VH h) (hr : evClo E ih f first cap args h = some r) : CallOk E f (first ++ args ++ cap) h r := by
  unfold evClo at hr
  split at hr
  · rw [fList_eq] at hr
    split at hr
    · exact evCall_ok hI hv hr
    · rename_i l hl
      unfold evKnown at hr
      split at hr
      · cases hr
      · rename_i p hm
        split at hr
        · rename_i v hk
          have : r = .ret v h := (Option.some.inj hr).symm
          subst this
          refine ⟨.ret v, h, ⟨rfl, rfl⟩, hv, fun K hK => ?_⟩
          exact (frame_call hE hm (hE.known f l hl _ _ (findK_some hk)) (toH h) fun _ _ => rfl).mono fun x H' ⟨h1, h2⟩ => by rw [h1, h2]; exact hK
        · exact evCall_ok hI hv hr
  · rename_i z hz
    rw [fList_eq] at hr
    unfold evGuard at hr
    split at hr
    · rename_i g cap2 heq
      rw [heq]
      unfold endGuard at hr
      split at hr
      · rename_i v h' hc
        obtain ⟨x, h2, hcr, hv2, hK⟩ := evCall_ok hI hv hc
        obtain ⟨rfl, rfl⟩ := hcr
        have : r = .ret (.tup [v, .lit (.int .i64 0)]) h2 := (Option.some.inj hr).symm
        subst this
        exact ⟨_, h2, ⟨rfl, rfl⟩, hv2, fun K hK2 => hE.gd f z hz g cap2 (toH h) K (hK _ hK2)⟩
      · rename_i h' hc
        obtain ⟨x, h2, hcr, hv2, hK⟩ := evCall_ok hI hv hc
        obtain ⟨rfl, rfl⟩ := hcr
        have : r = .ret (.tup [z, .lit (.int .i64 6)]) h2 := (Option.some.inj hr).symm
        subst this
        exact ⟨_, h2, ⟨rfl, rfl⟩, hv2, fun K hK2 => hE.gd f z hz g cap2 (toH h) K (hK _ hK2)⟩
      · cases hr
    · cases hr

theorem toH_loop {h : EH} {id : Nat} {st : LoopState} {pend : Option Code} {n : Nat} {env : BT AVal} {ps : Array Tmp} {asg body : Code} (hg : getB h.hp id = some (.loop st pend n env ps asg body)) :
    (toH h).get id = some (.loop st pend n (toE env) ps asg body) := by
  show Option.map EBlk.toBlk (getB h.hp id) = _
  rw [hg]
  rfl

theorem VH.set {h : EH} (hv : VH h) {hp : BT EBlk} {id : Nat} {b : EBlk} (hs : ∀ m, getB hp m = if m = id then some b else getB h.hp m) (hid : id < h.nx) : VH ⟨hp, h.nx⟩ := by
  intro j x hj
  rw [hs] at hj
  show j < h.nx
  split at hj
  · omega
  · exact hv _ _ hj

theorem toH_upd {h : EH} {hp : BT EBlk} {id : Nat} {b : EBlk} (hs : ∀ m, getB hp m = if m = id then some b else getB h.hp m) : toH ⟨hp, h.nx⟩ = (toH h).upd id b.toBlk := by
  rw [toH_set (nx := h.nx) hs]
  rfl

theorem evYld_ok (hI : EvOk E ih) {id : Nat} {args : List AVal} {h : EH} {r : RR} (hv : VH h) (hr : evYld ih id args h = some r) : AppOk E (.yld id) args h r := by
  unfold evYld at hr
  split at hr
  · rename_i pend n env ps asg body hg
    obtain ⟨hok, hr1⟩ := boolRec_some hr
    unfold okLoop at hok
    simp only [Bool.and_eq_true] at hok
    obtain ⟨hokB, hf1, hf2, hps⟩ := hok
    obtain ⟨e0, hr2, hlen, he0⟩ := listP_some hr1
    have hget := toH_loop hg
    have hid : id < h.nx := hv _ _ hg
    -- the rule of a round
    have rule : ∀ K : ARes → AHeap → Prop, W E.P E.G n (some id) asg (asgQ E.P E.G n id body K) ⟨toE e0, toH h⟩ → AApply E.P E.G (.yld id) args (toH h) K := fun K hW => by
      refine AApply.yld hget (by simpa using hlen) hps ?_
      rw [envN_ok hokB, ← he0]
      exact hW
    unfold evBody at hr2
    split at hr2
    · rename_i e1 h1 hi
      obtain ⟨x, e2, h2, h3, h4, h5⟩ := hI _ _ _ _ _ _ hi hv hf1
      cases h3
      split at hr2
      · rename_i pend2 n2 env2 ps2 asg2 body2 hg1
        obtain ⟨hp1, hr3, hs1⟩ := setB_some _ _ _ _ _ hr2
        have hget1 := toH_loop hg1
        have hv1 : VH ⟨hp1, h1.nx⟩ := h4.set hs1 (h4 _ _ hg1)
        have hup1 := toH_upd (h := h1) hs1
        have mk : ∀ (x2 : AX) (e3 : BT AVal) (h3 : EH) (st : LoopState) (pd : Option Code) (b : Bool), ih (some id) n body e1 ⟨hp1, h1.nx⟩ = some (.ev x2 e3 h3) → roundEnd id st pd b h3 = some r →
            (∀ K : ARes → AHeap → Prop, roundQ id K x2 ⟨toE e3, toH h3⟩ = wpo (setLoop st pd ((toH h3).get id)) fun blk => K (.ret (.lit (.bool b))) ((toH h3).upd id blk)) → AppOk E (.yld id) args h r := by
          intro x2 e3 h3 st pd b hi2 hre hq
          obtain ⟨x', e', h', h6, h7, h8⟩ := hI _ _ _ _ _ _ hi2 hv1 hf2
          cases h6
          unfold roundEnd at hre
          split at hre
          · rename_i n3 env3 ps3 asg3 body3 hg3
            obtain ⟨hp3, hr4, hs3⟩ := setB_some _ _ _ _ _ hre
            have hr5 : r = .ret (.lit (.bool b)) ⟨hp3, h3.nx⟩ := (Option.some.inj hr4).symm
            subst hr5
            have hup3 := toH_upd (h := h3) hs3
            refine ⟨_, _, ⟨rfl, rfl⟩, h7.set hs3 (h7 _ _ hg3), fun K hK => rule K (h5 _ ?_)⟩
            refine ⟨_, by rw [hget1]; rfl, ?_⟩
            have hbusy : (toH h1).upd id (.loop .busy pend2 n2 (toE env2) ps2 asg2 body2) = toH ⟨hp1, h1.nx⟩ := hup1.symm
            show W E.P E.G n (some id) body (roundQ id K) ⟨toE e1, (toH h1).upd id (.loop .busy pend2 n2 (toE env2) ps2 asg2 body2)⟩
            rw [hbusy]
            refine h8 _ ?_
            rw [hq]
            refine ⟨.loop st pd n3 (toE env3) ps3 asg3 body3, by rw [toH_loop hg3]; rfl, ?_⟩
            rw [hup3] at hK
            exact hK
          · cases hre
        unfold endRound at hr3
        split at hr3
        · rename_i e3 h3 hi2; exact mk _ _ _ _ _ _ hi2 hr3 fun _ => rfl
        · rename_i e3 h3 hi2; exact mk _ _ _ _ _ _ hi2 hr3 fun _ => rfl
        · rename_i i e3 h3 hi2; exact mk _ _ _ _ _ _ hi2 hr3 fun _ => rfl
        · cases hr3
      · cases hr2
    · cases hr2
  · cases hr

theorem evApply_ok (hE : EOk E) (hI : EvOk E ih) {fv : AVal} {args : List AVal} {h : EH} {r : RR} (hv : VH h) (hr : evApply E ih fv args h = some r) : AppOk E fv args h r := by
  unfold evApply at hr
  split at hr
  · obtain ⟨x, h', h1, h2, h3⟩ := evClo_ok hE hI hv hr
    exact ⟨x, h', h1, h2, fun K hK => AApply.clo (h3 K hK)⟩
  · exact evYld_ok hI hv hr
  · cases hr

theorem rdIn_ok {h : EH} {rd : Option Nat} (hr : rdInE h rd = true) : RdIn (toH h) rd := by
  unfold rdInE at hr
  split at hr
  · trivial
  · rename_i id
    split at hr
    · rename_i st pend n env ps asg body hg
      exact ⟨st, pend, n, toE env, ps, asg, body, toH_loop hg⟩
    · cases hr

/-- What is known of the rest. -/
abbrev Rest (r : RR) (KQ : (AX → St → Prop) → St → Prop) (env : BT AVal) (h : EH) : Prop :=
  ∃ x e2 h2, r = .ev x e2 h2 ∧ VH h2 ∧ ∀ Q : AX → St → Prop, Q x ⟨toE e2, toH h2⟩ → KQ Q ⟨toE env, toH h⟩

theorem bin_nil {P : Program} {op : BinOp} {t : TypeId} {x y : Operand} {a b v : AVal} (h : binA P op t x y a b = some v) : nilOf op a b = none := by
  cases hn : nilOf op a b with
  | none => rfl
  | some c =>
    exfalso
    unfold nilOf at hn
    unfold binA at h
    split at hn
    · cases a <;> simp_all [AVal.toVal]
    · cases a <;> simp_all [AVal.toVal]
    · cases hn

theorem plain_opV {P : Program} {G : Nat → Option (List AVal)} {rd : Option Nat} {Q : AX → St → Prop} {o : Oper} {K : St → Prop} {s : St} {v : AVal} {H' : AHeap} (hop : opA P G s.ρ s.H s.H.next o.op = some (v, H')) (hk : K ⟨putA s.ρ o.dst v, H'⟩) : opV P G rd Q o K s := by
  unfold opV
  split
  · rename_i h; rw [h] at hop; simp [opA] at hop
  · rename_i h; rw [h] at hop; simp [opA] at hop
  · rename_i op t x y u h
    rw [h] at hop
    have hb : (binA P op t x y (evA G s.ρ x) (evA G s.ρ y)).map (fun v => (v, s.H)) = some (v, H') := hop
    simp only [Option.map_eq_some_iff, Prod.mk.injEq] at hb
    obtain ⟨v', hb1, _, _⟩ := hb
    rw [bin_nil hb1]
    exact ⟨(v, H'), hop, hk⟩
  · exact ⟨(v, H'), hop, hk⟩

theorem runOp_ok (hE : EOk E) (hI : EvOk E ih) {rd : Option Nat} {o : Oper} {k : BT AVal → EH → R} {env : BT AVal} {h : EH} {r : RR} {KQ : (AX → St → Prop) → St → Prop} (hv : VH h)
    (hk : ∀ env' h', VH h' → k env' h' = some r → Rest r KQ env' h') (hr : runOp o.op E ih rd o.dst k env h = some r) : Rest r (fun Q => opV E.P E.G rd Q o (KQ Q)) env h := by
  rcases runOp_cases hv hr with ⟨v, env', h', hop, hv', he, hkr⟩ | ⟨op, t, x, y, u, env', hop, hn, hs, he, hkr⟩ | ⟨fv, args, ats, hop, hrv⟩ | ⟨x, hop, hrp⟩
  · obtain ⟨x, e2, h2, h3, h4, h5⟩ := hk _ _ hv' hkr
    refine ⟨x, e2, h2, h3, h4, fun Q hq => plain_opV (v := v) (H' := toH h') hop ?_⟩
    have := h5 Q hq
    rw [he] at this
    exact this
  · obtain ⟨x', e2, h2, h3, h4, h5⟩ := hk _ _ hv hkr
    refine ⟨x', e2, h2, h3, h4, fun Q hq => ?_⟩
    unfold opV
    rw [hop]
    simp only
    rw [hn]
    refine ⟨hs, fun b hb => ?_⟩
    have hb' := hb rfl
    subst hb'
    have := h5 Q hq
    rw [he] at this
    cases hnq : (op == BinOp.neq) <;> rw [hnq] at this <;> exact this
  · unfold rValue at hrv
    rw [evOs_eq, evO_eq] at hrv
    unfold contCall at hrv
    have key : ∀ {x : ARes} {h' : EH} {r0 : RR}, evApply E ih (evA E.G (toE env) fv) (args.toList.map (evA E.G (toE env))) h = some r0 → CRes r0 x h' → VH h' ∧ ∀ (Q : AX → St → Prop), (RdIn (toH h') rd ∧ match (x : ARes) with
        | .ret v => KQ Q ⟨putA (toE env) o.dst v, toH h'⟩
        | .panic => Q .panic ⟨toE env, toH h'⟩) → opV E.P E.G rd Q o (KQ Q) ⟨toE env, toH h⟩ := by
      intro x h' r0 happ hc
      obtain ⟨x2, h2, hc2, hv2, hK⟩ := evApply_ok hE hI hv happ
      have hx : x2 = x ∧ h2 = h' := by
        cases r0 with
        | ret v h0 => exact ⟨hc2.1.trans hc.1.symm, hc2.2.trans hc.2.symm⟩
        | panic h0 => exact ⟨hc2.1.trans hc.1.symm, hc2.2.trans hc.2.symm⟩
        | ev => exact hc.elim
      obtain ⟨rfl, rfl⟩ := hx
      refine ⟨hv2, fun Q hq => ?_⟩
      unfold opV
      rw [hop]
      exact hK _ hq
    split at hrv
    · rename_i v h' happ
      obtain ⟨hrd, hrv2⟩ := boolRec_some hrv
      obtain ⟨hv', hq⟩ := key happ (x := .ret v) (h' := h') ⟨rfl, rfl⟩
      obtain ⟨env', h1, h2⟩ := putE_some hrv2
      obtain ⟨x, e2, h3, h4, h5, h6⟩ := hk _ _ hv' h1
      refine ⟨x, e2, h3, h4, h5, fun Q hQ => hq Q ⟨rdIn_ok hrd, ?_⟩⟩
      have := h6 Q hQ
      rw [h2] at this
      exact this
    · rename_i h' happ
      obtain ⟨hrd, hrv2⟩ := boolRec_some hrv
      obtain ⟨hv', hq⟩ := key happ (x := .panic) (h' := h') ⟨rfl, rfl⟩
      exact ⟨.panic, env, h', (Option.some.inj hrv2).symm, hv', fun Q hQ => hq Q ⟨rdIn_ok hrd, hQ⟩⟩
    · cases hrv
  · unfold rPanic at hrp
    split at hrp
    · rename_i t v heq
      refine ⟨.panic, env, h, (Option.some.inj hrp).symm, hv, fun Q hq => ?_⟩
      unfold opV
      rw [hop]
      exact ⟨⟨t, v, heq⟩, hq⟩
    · cases hrp

theorem wantK_some {all : Array Oper} {ρ : Env} {o : Oper} {yes no : R} {r : RR} (hr : wantK all ρ o.guard yes no = some r) : (wantA all ρ o = some true ∧ yes = some r) ∨ (wantA all ρ o = some false ∧ no = some r) := by
  unfold wantK at hr
  unfold wantA
  cases hg : o.guard with
  | none => rw [hg] at hr; exact .inl ⟨rfl, hr⟩
  | some jw =>
    obtain ⟨j, want⟩ := jw
    rw [hg] at hr
    have hr2 : wantS all ρ yes no (j, want) = some r := hr
    unfold wantS at hr2
    simp only at hr2 ⊢
    split at hr2
    · rename_i d hd
      rw [hd]
      simp only
      split at hr2
      · rename_i b hb
        rw [hb]
        cases hbw : b == want with
        | true => rw [hbw] at hr2; exact .inl ⟨by show some (b == want) = _; rw [hbw], hr2⟩
        | false => rw [hbw] at hr2; exact .inr ⟨by show some (b == want) = _; rw [hbw], hr2⟩
      · rename_i v hnb hb
        rw [hb]
        exact .inr ⟨by cases v <;> first | rfl | exact absurd rfl (hnb _), hr2⟩
      · cases hr2
    · rename_i hd
      rw [hd]
      exact .inr ⟨rfl, hr2⟩

theorem evOps_ok (hE : EOk E) (hI : EvOk E ih) {rd : Option Nat} {all : Array Oper} {r : RR} : ∀ (l : List Oper) (env : BT AVal) (h : EH), VH h → evOps E ih rd all l env h = some r → Rest r (fun Q => opsV E.P E.G rd Q all l) env h := by
  intro l
  induction l with
  | nil => exact fun env h hv hr => ⟨.normal, env, h, (Option.some.inj hr).symm, hv, fun Q hq => hq⟩
  | cons o l ihl =>
    intro env h hv hr
    have hr1 : wantK all (toE env) o.guard (runOp o.op E ih rd o.dst (evOps E ih rd all l) env h) (putE env o.dst (.lit undef) fun env => evOps E ih rd all l env h) = some r := hr
    rcases wantK_some hr1 with ⟨hw, hr2⟩ | ⟨hw, hr2⟩
    · obtain ⟨x, e2, h2, h3, h4, h5⟩ := runOp_ok hE hI (KQ := fun Q => opsV E.P E.G rd Q all l) hv (fun env' h' hv' hk => ihl env' h' hv' hk) hr2
      exact ⟨x, e2, h2, h3, h4, fun Q hq => ⟨true, hw, h5 Q hq⟩⟩
    · obtain ⟨env', h1, h2⟩ := putE_some hr2
      obtain ⟨x, e2, h2', h3, h4, h5⟩ := ihl env' h hv h1
      refine ⟨x, e2, h2', h3, h4, fun Q hq => ⟨false, hw, ?_⟩⟩
      have := h5 Q hq
      rw [h2] at this
      exact this

/-! ### a loop, its first round -/
theorem drop_step {I : Machine → Prop} {P : Program} {m t m1 : Machine} (h : StepsIn I P m t) (hs : step P m = .next m1) (hne : m ≠ t) : StepsIn I P m1 t := by
  cases h with
  | refl => exact absurd rfl hne
  | head hI h' h'' =>
    rw [hs] at h'
    cases h'
    exact h''

theorem lone_ne {b b' : Frame} {a a' : Act} {k k' : List Item} {cs cs' : List Frame} {w w' : World} (h : k ≠ k') : lone (b.atR a k) cs w ≠ lone (b'.atR a' k') cs' w' := by
  intro he
  simp only [lone, Machine.mk.injEq, Array.mk.injEq, List.cons.injEq, Goroutine.mk.injEq, Frame.atR, Frame.mk.injEq] at he
  exact h he.2.1.1.1.2.2.1
theorem lone_ne_mode {b b' : Frame} {a a' : Act} {k k' : List Item} {cs cs' : List Frame} {w w' : World} {u : FrameMode} (h : u ≠ .run) : lone (b.atR a k) cs w ≠ lone { b'.atR a' k' with mode := u } cs' w' := by
  intro he
  simp only [lone, Machine.mk.injEq, Array.mk.injEq, List.cons.injEq, Goroutine.mk.injEq, Frame.atR, Frame.mk.injEq] at he
  exact h he.2.1.1.1.2.2.2.2.1.symm

theorem exitTo_len {id : Nat} : ∀ {k k' : List Item}, exitTo id k = some k' → k'.length ≤ k.length := by
  intro k
  induction k with
  | nil => intro k' h; cases h
  | cons x k ih =>
    intro k' h
    have hle : exitTo id k = some k' → k'.length ≤ (x :: k).length := fun h => Nat.le_succ_of_le (ih h)
    cases x with
    | inBlock id' =>
      simp only [exitTo] at h
      split at h
      · cases h; simp
      · exact hle h
    | _ => exact hle h

theorem W.unroll {P : Program} {G : Nat → Option (List AVal)} {n : Nat} {rd : Option Nat} {c : Code} {Q : AX → St → Prop} {s : St} (hQ : ∀ l s, ¬ Q (.goto l) s) (h : W P G n rd c (thenA (W P G n rd (.loop c) Q) Q) s) : W P G n rd (.loop c) Q s := by
  intro wb Γ a w rb hs hr b k cs hro hb hrm
  have h0 : (lone (b.atR a (.code (.loop c) :: k)) cs w).fenced P (fenceOf rb) := fenced_calm hb hrm rfl
  obtain ⟨e, a₁, w₁, ⟨x, s₁, Γ₁, hx, hq, hs₁, E₁, hn₁, hr₁, hf₁⟩, harr⟩ := h wb Γ a w rb hs hr b (.inLoop c :: k) cs hro hb hrm
  cases e with
  | normal =>
    cases x with
    | normal =>
      obtain ⟨e, a₂, w₂, hp, harr₂⟩ := hq wb Γ₁ a₁ w₁ rb hs₁ hr₁ b k cs hro hb hrm
      have hp' := hp.step E₁ hn₁ hf₁ fun t ht => ht
      refine ⟨e, a₂, w₂, hp', ?_⟩
      have start : StepsIn (Machine.fenced P (fenceOf rb)) P (lone (b.atR a (.code (.loop c) :: k)) cs w) (lone (b.atR a₁ (.code c :: .inLoop c :: k)) cs w₁) :=
        .head h0 stepR_loop (StepsIn.trans harr (.one (fenced_calm hb hrm rfl) stepR_inLoop))
      obtain ⟨y, s₂, Γ₂, hy, hq₂, _⟩ := hp
      have hl : ∀ (k' : List Item), k'.length ≤ k.length → Item.code (.loop c) :: k ≠ k' := fun k' hk' he => by subst he; simp only [List.length_cons] at hk'; omega
      cases e with
      | normal => exact start.trans (drop_step harr₂ stepR_loop (lone_ne (hl _ (Nat.le_refl _))))
      | exit id =>
        refine ⟨fun k' hk' => start.trans (drop_step (harr₂.1 k' hk') stepR_loop (lone_ne (hl _ (exitTo_len hk')))), fun hr2 hk' => ?_⟩
        obtain ⟨k₁, h1, h2⟩ := harr₂.2 hr2 hk'
        exact ⟨k₁, h1, start.trans (drop_step h2 stepR_loop (lone_ne (k' := .code (.exit id) :: k₁) (fun he => by cases he)))⟩
      | goto l => cases y with
        | goto l' => exact absurd hq₂ (hQ _ _)
        | _ => exact hy.elim
      | ret =>
        refine ⟨fun hr2 => ?_, fun hr2 => ?_⟩
        · obtain ⟨todo, h1⟩ := harr₂.1 hr2
          exact ⟨todo, start.trans (drop_step h1 stepR_loop (lone_ne_mode (fun he => by cases he)))⟩
        · obtain ⟨k₁, h1⟩ := harr₂.2 hr2
          exact ⟨k₁, start.trans (drop_step h1 stepR_loop (lone_ne (k' := .code .ret :: k₁) (fun he => by cases he)))⟩
      | panic ch =>
        obtain ⟨todo, h1⟩ := harr₂
        exact ⟨todo, start.trans (drop_step h1 stepR_loop (lone_ne_mode (fun he => by cases he)))⟩
      | outgrown => cases y <;> exact hy.elim
    | _ => exact hx.elim
  | exit id => cases x with
    | exit j => exact ⟨_, a₁, w₁, ⟨.exit j, s₁, Γ₁, hx, hq, hs₁, E₁, hn₁, hr₁, hf₁⟩, .of_steps (.one h0 stepR_loop) (.pass (x := .inLoop c) rfl (fun _ _ => .inl (by simp)) harr)⟩
    | _ => exact hx.elim
  | goto id => cases x with
    | goto j => exact ⟨_, a₁, w₁, ⟨.goto j, s₁, Γ₁, hx, hq, hs₁, E₁, hn₁, hr₁, hf₁⟩, .of_steps (.one h0 stepR_loop) (.pass (x := .inLoop c) rfl (fun _ _ => .inl (by simp)) harr)⟩
    | _ => exact hx.elim
  | ret => cases x with
    | ret => exact ⟨_, a₁, w₁, ⟨.ret, s₁, Γ₁, hx, hq, hs₁, E₁, hn₁, hr₁, hf₁⟩, .of_steps (.one h0 stepR_loop) (.pass (x := .inLoop c) rfl (fun _ _ => .inl (by simp)) harr)⟩
    | _ => exact hx.elim
  | panic ch => cases x with
    | panic => exact ⟨_, a₁, w₁, ⟨.panic, s₁, Γ₁, hx, hq, hs₁, E₁, hn₁, hr₁, hf₁⟩, .of_steps (.one h0 stepR_loop) (.pass (x := .inLoop c) rfl (fun _ _ => .inl (by simp)) harr)⟩
    | _ => exact hx.elim
  | outgrown => cases x <;> exact hx.elim

/-! ### regions that draw -/
theorem apartB_ok {b : Nat} {f : FP} {acc : List (Nat × FP)} (h : apartB b f acc = true) : ApartA b f acc := by
  intro p hp hb
  have := List.all_eq_true.1 h p hp
  rw [hb, Bool.false_or, Bool.and_eq_true, List.all_eq_true, List.all_eq_true] at this
  refine ⟨fun r hr hr2 => ?_, fun r hr hr2 => ?_⟩
  · have := this.1 r hr
    simp [hr2] at this
  · have := this.2 r hr
    simp [hr2] at this

theorem drawOp_ok (hE : EOk E) (hI : EvOk E ih) {o : Oper} {b i : Nat} {acc : List (Nat × FP)} {k : DrawT} {env : BT AVal} {h : EH} {r : RR} {KQ : (AX → St → Prop) → List (Nat × FP) → St → Prop} (hv : VH h)
    (hk : ∀ acc env' h', VH h' → k acc env' h' = some r → Rest r (fun Q => KQ Q acc) env' h') (hr : drawOp E ih o b i acc k env h = some r) :
    Rest r (fun Q s => opD E.P E.G o (fun f s' => ApartA b f acc ∧ KQ Q (addF i f acc) s') s) env h := by
  have gen : ∀ {op : Op}, o.op = op → drawOne o.dst b i acc k env (fpO E.P E.G (toE env) h.nx op) (genO E env h op) h = some r → (∀ fv args ats, op ≠ .call ⟨.value fv, args, ats⟩) →
      Rest r (fun Q s => opD E.P E.G o (fun f s' => ApartA b f acc ∧ KQ Q (addF i f acc) s') s) env h := by
    intro op hop hd hne
    unfold drawOne at hd
    obtain ⟨hap, hd2⟩ := boolRec_some hd
    obtain ⟨v, h', h1, h2, h3⟩ := applyOR_ok hv (genO_ok hv).1 hd2
    obtain ⟨env', h4, h5⟩ := putE_some h3
    obtain ⟨x, e2, h6, h7, h8, h9⟩ := hk _ _ _ h2 h4
    refine ⟨x, e2, h6, h7, h8, fun Q hq => ?_⟩
    have hopA := (genO_ok hv).2 _ _ h1
    have hq2 := h9 Q hq
    rw [h5] at hq2
    unfold opD
    split
    · rename_i hop2; exact absurd (hop.symm.trans hop2) (hne _ _ _)
    · refine ⟨(v, toH h'), by rw [hop]; exact hopA, ?_⟩
      rw [hop]
      exact ⟨apartB_ok hap, hq2⟩
  unfold drawOp at hr
  split at hr
  · rename_i c hop
    split at hr
    · rename_i fv hc
      rw [evOs_eq, evO_eq] at hr
      unfold drawCall at hr
      split at hr
      · rename_i f first cap hfv
        split at hr
        · rename_i p hgd hm
          split at hr
          · rename_i v hal
            obtain ⟨hlt, hr2⟩ := boolRec_some hr
            unfold drawOne at hr2
            obtain ⟨hap, hd2⟩ := boolRec_some hr2
            have hd3 : fAV v (fun v => putE env o.dst v fun env => k (addF i ⟨[], p.2⟩ acc) env h) = some r := hd2
            rw [fAV_eq] at hd3
            obtain ⟨env', h4, h5⟩ := putE_some hd3
            obtain ⟨x, e2, h6, h7, h8, h9⟩ := hk _ _ _ hv h4
            refine ⟨x, e2, h6, h7, h8, fun Q hq => ?_⟩
            have hq2 := h9 Q hq
            rw [h5] at hq2
            obtain ⟨callee, args, ats⟩ := c
            simp only at hc
            subst hc
            unfold opD
            rw [hop]
            refine ⟨v, p.2, ⟨fun r hr => ?_, fun H2 ha _ => ?_⟩, apartB_ok hap, hq2⟩
            · have := List.all_eq_true.1 hlt r hr
              rw [Nat.blt_eq] at this
              exact this
            · show AApply E.P E.G (evA E.G (toE env) fv) _ H2 _
              rw [hfv]
              exact AApply.clo (frame_call hE hm (evAlone_ok hI hal) H2 ha)
          · cases hr
        · cases hr
      · cases hr
    · rename_i hne
      refine gen hop hr fun fv args ats he => ?_
      have he2 : c = ⟨.value fv, args, ats⟩ := Op.call.inj he
      exact hne fv (by rw [he2])
  · cases hr
  · rename_i op hne1 hne2 
    exact gen rfl hr fun fv args ats he => hne1 _ he

theorem drawOps_ok (hE : EOk E) (hI : EvOk E ih) {all : Array Oper} {tail : BT AVal → EH → R} {r : RR} {TQ : (AX → St → Prop) → St → Prop} (ht : ∀ env h, VH h → tail env h = some r → Rest r TQ env h) :
    ∀ (l : List Oper) (bs : List Nat) (i : Nat) (acc : List (Nat × FP)) (env : BT AVal) (h : EH), VH h → drawOps E ih all tail l bs i acc env h = some r → Rest r (fun Q => opsD E.P E.G all (TQ Q) bs i acc l) env h := by
  intro l
  induction l with
  | nil =>
    intro bs i acc env h hv hr
    obtain ⟨x, e2, h2, h3, h4, h5⟩ := ht env h hv hr
    exact ⟨x, e2, h2, h3, h4, fun Q hq => by cases bs <;> exact h5 Q hq⟩
  | cons o l ihl =>
    intro bs i acc env h hv hr
    cases bs with
    | nil => cases hr
    | cons b bs =>
      have hr1 : wantK all (toE env) o.guard (drawOp E ih o b i acc (drawOps E ih all tail l bs (i + 1)) env h) (putE env o.dst (.lit undef) fun env => drawOps E ih all tail l bs (i + 1) acc env h) = some r := hr
      rcases wantK_some hr1 with ⟨hw, hr2⟩ | ⟨hw, hr2⟩
      · obtain ⟨x, e2, h2, h3, h4, h5⟩ := drawOp_ok hE hI (KQ := fun Q acc => opsD E.P E.G all (TQ Q) bs (i + 1) acc l) hv (fun acc env' h' hv' hk => ihl bs (i + 1) acc env' h' hv' hk) hr2
        exact ⟨x, e2, h2, h3, h4, fun Q hq => ⟨true, hw, h5 Q hq⟩⟩
      · obtain ⟨env', h1, h2⟩ := putE_some hr2
        obtain ⟨x, e2, h2', h3, h4, h5⟩ := ihl bs (i + 1) acc env' h hv h1
        refine ⟨x, e2, h2', h3, h4, fun Q hq => ⟨false, hw, ?_⟩⟩
        have := h5 Q hq
        rw [h2] at this
        exact this

/-! ### code -/
theorem evScope_some {r0 : R} {r : RR} (h : evScope r0 = some r) : r0 = some r ∧ ∀ l e h, r ≠ .ev (.goto l) e h := by
  unfold evScope at h
  split at h
  · cases h
  · rename_i hne
    subst h
    exact ⟨rfl, fun l e h he => hne l e h (by rw [he])⟩

theorem step_ok (hE : EOk E) (hI : EvOk E ih) : EvOk E (evStep E ih) := by
  intro rd n c env h r hr hv hf
  have seqK : ∀ (a : Code) (b : Code), fits n a = true → fits n b = true → evSeq ih rd n b (ih rd n a env h) = some r →
      ∃ x env' h', r = .ev x env' h' ∧ VH h' ∧ ∀ Q : AX → St → Prop, Q x ⟨toE env', toH h'⟩ → W E.P E.G n rd a (thenA (W E.P E.G n rd b Q) Q) ⟨toE env, toH h⟩ := by
    intro a b hfa hfb hs
    unfold evSeq at hs
    split at hs
    · rename_i e1 h1 hi
      obtain ⟨x, e2, h2, h3, h4, h5⟩ := hI _ _ _ _ _ _ hi hv hfa
      cases h3
      obtain ⟨x', e', h', h6, h7, h8⟩ := hI _ _ _ _ _ _ hs h4 hfb
      exact ⟨x', e', h', h6, h7, fun Q hq => h5 _ (h8 Q hq)⟩
    · rename_i r0 hne
      obtain ⟨x, e2, h2, h3, h4, h5⟩ := hI _ _ _ _ _ _ hs hv hfa
      subst h3
      refine ⟨x, e2, h2, rfl, h4, fun Q hq => h5 _ ?_⟩
      cases x with
      | normal => exact absurd hs (hne _ _)
      | _ => exact hq
  cases c with
  | skip => exact ⟨.normal, env, h, (Option.some.inj hr).symm, hv, fun Q hq => .skip hq⟩
  | label l => exact ⟨.normal, env, h, (Option.some.inj hr).symm, hv, fun Q hq => .label hq⟩
  | exit i => exact ⟨.exit i, env, h, (Option.some.inj hr).symm, hv, fun Q hq => .exit hq⟩
  | ret => exact ⟨.ret, env, h, (Option.some.inj hr).symm, hv, fun Q hq => .ret hq⟩
  | goto l => cases hr
  | refuse w => cases hr
  | region id ops dr =>
    have hr1 : Bool.rec (motive := fun _ => R) (evOps E ih rd ops ops.toList env h) (evDraw E ih rd ops (masks ops.toList []) (cutK (masks ops.toList []) ops.toList.length) env h) dr = some r := hr
    cases dr with
    | false =>
      obtain ⟨x, e2, h2, h3, h4, h5⟩ := evOps_ok hE hI ops.toList env h hv hr1
      exact ⟨x, e2, h2, h3, h4, fun Q hq => .region hf (h5 Q hq)⟩
    | true =>
      have hr2 : evDraw E ih rd ops (masks ops.toList []) (cutK (masks ops.toList []) ops.toList.length) env h = some r := hr1
      unfold evDraw at hr2
      obtain ⟨hok, hr3⟩ := boolRec_some hr2
      obtain ⟨x, e2, h2, h3, h4, h5⟩ := drawOps_ok hE hI (TQ := fun Q => opsV E.P E.G rd Q ops (ops.toList.drop (cutK (masks ops.toList []) ops.toList.length))) (fun env h hv hr => evOps_ok hE hI _ env h hv hr) _ _ _ _ env h hv hr3
      exact ⟨x, e2, h2, h3, h4, fun Q hq => W.draw _ _ hE.mixed hf hok (h5 Q hq)⟩
  | seq a b =>
    simp only [fits, Bool.and_eq_true] at hf
    obtain ⟨x, e2, h2, h3, h4, h5⟩ := seqK a b hf.1 hf.2 hr
    exact ⟨x, e2, h2, h3, h4, fun Q hq => .seq (h5 Q hq)⟩
  | cond x a b =>
    simp only [fits, Bool.and_eq_true] at hf
    have hr1 : evCond (evA E.G (toE env) x) (ih rd n a env h) (ih rd n b env h) = some r := hr
    unfold evCond at hr1
    split at hr1
    · rename_i t ht
      cases t with
      | true =>
        obtain ⟨y, e2, h2, h3, h4, h5⟩ := hI _ _ _ _ _ _ hr1 hv hf.1
        exact ⟨y, e2, h2, h3, h4, fun Q hq => .cond ht (h5 Q hq)⟩
      | false =>
        obtain ⟨y, e2, h2, h3, h4, h5⟩ := hI _ _ _ _ _ _ hr1 hv hf.2
        exact ⟨y, e2, h2, h3, h4, fun Q hq => .cond ht (h5 Q hq)⟩
    · cases hr1
  | block id b =>
    have hr1 : evBlock id (ih rd n b env h) = some r := hr
    unfold evBlock at hr1
    split at hr1
    · rename_i i e1 h1 hi
      obtain ⟨x, e2, h2, h3, h4, h5⟩ := hI _ _ _ _ _ _ hi hv hf
      cases h3
      cases hb : Nat.beq i id with
      | true =>
        rw [hb] at hr1
        have := Nat.eq_of_beq_eq_true hb
        refine ⟨.normal, e1, h1, (Option.some.inj hr1).symm, h4, fun Q hq => .block (h5 _ ?_)⟩
        show (if i = id then Q .normal _ else Q (.exit i) _)
        rw [if_pos this]
        exact hq
      | false =>
        rw [hb] at hr1
        have : ¬ i = id := fun h => by rw [h] at hb; rw [show Nat.beq id id = true from Nat.beq_refl _] at hb; cases hb
        refine ⟨.exit i, e1, h1, (Option.some.inj hr1).symm, h4, fun Q hq => .block (h5 _ ?_)⟩
        show (if i = id then Q .normal _ else Q (.exit i) _)
        rw [if_neg this]
        exact hq
    · rename_i r0 hne
      obtain ⟨x, e2, h2, h3, h4, h5⟩ := hI _ _ _ _ _ _ hr1 hv hf
      subst h3
      refine ⟨x, e2, h2, rfl, h4, fun Q hq => .block (h5 _ ?_)⟩
      cases x with
      | exit i => exact absurd hr1 (hne _ _ _)
      | _ => exact hq
  | loop b =>
    have hr1 : evScope (evSeq ih rd n (.loop b) (ih rd n b env h)) = some r := hr
    obtain ⟨hr2, hng⟩ := evScope_some hr1
    obtain ⟨x, e2, h2, h3, h4, h5⟩ := seqK b (.loop b) hf hf hr2
    refine ⟨x, e2, h2, h3, h4, fun Q hq => (W.unroll (Q := fun y t => y = x ∧ t = ⟨toE e2, toH h2⟩) (fun l s hx => ?_) (h5 _ ⟨rfl, rfl⟩)).mono fun y t ht => by rw [ht.1, ht.2]; exact hq⟩
    subst h3
    rw [← hx.1] at hng
    exact hng _ _ _ rfl
  | scope b =>
    have hr1 : evScope (ih rd n b env h) = some r := hr
    obtain ⟨hr2, hng⟩ := evScope_some hr1
    obtain ⟨x, e2, h2, h3, h4, h5⟩ := hI _ _ _ _ _ _ hr2 hv hf
    subst h3
    refine ⟨x, e2, h2, rfl, h4, fun Q hq => .scope (h5 _ ?_)⟩
    cases x with
    | goto i => exact absurd rfl (hng _ _ _)
    | _ => exact hq
  | rangeFunc f ps asg body =>
    have hr1 : evRange E ih rd n env h ps asg body (evA E.G (toE env) f) = some r := hr
    unfold evRange at hr1
    split at hr1
    · rename_i g first cap hg
      obtain ⟨hp1, hr2, hs1⟩ := setB_some _ _ _ _ _ hr1
      rw [fList_eq] at hr2
      have hv1 : VH ⟨hp1, h.nx + 1⟩ := by
        intro j b hj
        rw [hs1] at hj
        show j < h.nx + 1
        split at hj
        · omega
        · have := hv _ _ hj; omega
      have hlay : (toH h).lay (toH h).next (.loop .ready none n (toE env) ps asg body) = some (toH ⟨hp1, h.nx + 1⟩) := by
        rw [toH_set (nx := h.nx + 1) hs1]
        unfold AHeap.lay
        rw [if_pos rfl]
        rfl
      have rule : ∀ Q : AX → St → Prop, ACall E.P E.G g (first ++ [.yld h.nx] ++ cap) (toH ⟨hp1, h.nx + 1⟩) (rangeQ rd Q (toE env) h.nx) → W E.P E.G n rd (.rangeFunc f ps asg body) Q ⟨toE env, toH h⟩ :=
        fun Q hq => W.rangeFunc hg ⟨_, hlay, hq⟩
      unfold endRange at hr2
      split at hr2
      · rename_i v h2 hc
        obtain ⟨x, h3, hcr, hv3, hK⟩ := evCall_ok hI hv1 hc
        obtain ⟨rfl, rfl⟩ := hcr
        obtain ⟨hrd, hr3⟩ := boolRec_some hr2
        split at hr3
        · cases hr3
        · rename_i st pend n2 env2 ps2 asg2 body2 hne hg3
          obtain ⟨hp3, hr4, hs3⟩ := setB_some _ _ _ _ _ hr3
          have hup := toH_upd (h := h3) hs3
          have hv4 := hv3.set hs3 (hv3 _ _ hg3)
          have hend : endA ((toH h3).get h.nx) = some (pend, .loop .exhausted pend n2 (toE env2) ps2 asg2 body2) := by
            rw [toH_loop hg3]
            unfold endA
            cases st with
            | busy => exact (hne rfl).elim
            | _ => rfl
          have fin : ∀ x : AX, (∀ Q : AX → St → Prop, Q x ⟨toE env, toH ⟨hp3, h3.nx⟩⟩ → jumpQ Q ⟨toE env, toH ⟨hp3, h3.nx⟩⟩ pend) → r = .ev x env ⟨hp3, h3.nx⟩ →
              ∃ x env' h', r = .ev x env' h' ∧ VH h' ∧ ∀ Q : AX → St → Prop, Q x ⟨toE env', toH h'⟩ → W E.P E.G n rd (.rangeFunc f ps asg body) Q ⟨toE env, toH h⟩ := by
            intro x hx he
            refine ⟨x, env, _, he, hv4, fun Q hq => rule Q (hK _ ⟨rdIn_ok hrd, _, hend, ?_⟩)⟩
            have := hx Q hq
            rw [hup] at this
            exact this
          unfold endLoop at hr4
          split at hr4
          · exact fin .normal (fun Q hq => hq) (Option.some.inj hr4).symm
          · exact fin .ret (fun Q hq => hq) (Option.some.inj hr4).symm
          · rename_i i; exact fin (.exit i) (fun Q hq => hq) (Option.some.inj hr4).symm
          · cases hr4
        · cases hr3
      · rename_i h2 hc
        obtain ⟨x, h3, hcr, hv3, hK⟩ := evCall_ok hI hv1 hc
        obtain ⟨rfl, rfl⟩ := hcr
        obtain ⟨hrd, hr3⟩ := boolRec_some hr2
        exact ⟨.panic, env, h3, (Option.some.inj hr3).symm, hv3, fun Q hq => rule Q (hK _ ⟨rdIn_ok hrd, hq⟩)⟩
      · cases hr2
    · cases hr1

theorem evN_ok (hE : EOk E) : ∀ fuel, EvOk E (evN E fuel) := by
  intro fuel
  induction fuel with
  | zero => intro rd n c env h r hr; cases hr
  | succ f ih => exact step_ok hE ih

/-- What the evaluator says of a call over the empty heap is so. -/
theorem evMain_ok (hE : EOk E) {fuel : Nat} {f : FuncId} {args : List AVal} {v : AVal} (h : evMain E fuel f args = some v) : ACall E.P E.G f args noH fun r H' => ∃ u, r = .ret u ∧ Fresh H' u v :=
  evAlone_ok (evN_ok hE fuel) h

theorem isTrue_some {o : Option AVal} (h : isTrue o = true) : o = some (.lit (.bool true)) := by
  unfold isTrue at h
  split at h
  · rename_i b
    rw [h]
  · cases h
end
end Go.Hx
