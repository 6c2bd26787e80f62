/-
  A function's contract out of its body. Own work: no program stands in this text.
-/
import Derived.Test.YtikgmgmphkalkaaDoorLibA
import Derived.OrdersIn
set_option linter.all false
namespace Go.Hx
variable {P:Program} {G:Nat -> Option (List AVal)} {Γ Γ':au} {H H':AHeap} {w w':World}
theorem yY {r:Nat}{x:Option (List Deferred)}(hr:w.heap[r]? = some (.deferred x))(o:Obj)(ho:∀ c e f, o ≠ .cells c e f)(b i:Nat):(bc w r o).cell? ⟨b, i, none⟩ = w.cell? ⟨b, i, none⟩ := by
  simp only[World.cell?, dw]
  by_cases h:b = r /\ r < w.heap.size
  · rw[QN h, h.1, hr]
    cases o <;> first | rfl | exact absurd rfl (ho _ _ _)
  · rw[QQ h]
theorem RelV.closed {v:AVal}{cv:Value}{r:Nat}{x:Option (List Deferred)}(hr:w.heap[r]? = some (.deferred x)){o:Obj}(ho:∀ c e f, o ≠ .cells c e f)(h:RelV P Γ H w v cv):RelV P Γ H (bc w r o) v cv := by
  induction h with
  | lit v => exact .lit v
  | vec0 a cap => exact .vec0 a cap
  | vec hb hlt hlen hcs hcell hrel ih => exact .vec hb (by rw[hU]; exact hlt) hlen hcs (fun i hi => (yY hr o ho _ _).trans (hcell i hi)) ih
  | own h => exact .own h
  | ptr h => exact .ptr h
  | vptr hb hlt hcs hcell hrel ih => exact .vptr hb (by rw[hU]; exact hlt) hcs (fun i hi => (yY hr o ho _ _).trans (hcell i hi)) ih
  | agg hcs hrel ih => exact .agg hcs ih
  | tup hcs hrel ih => exact .tup hcs ih
  | clo hfs hcs hf hc ih1 ih2 => exact .clo hfs hcs ih1 ih2
  | yld h => exact .yld h
theorem RelH.closed (R:RelH P G Γ H w){r:Nat}{x:Option (List Deferred)}(hr:w.heap[r]? = some (.deferred x))(hown:¬ Γ.dZ r){o:Obj}(ho:∀ c e f, o ≠ .cells c e f):RelH P G Γ H (bc w r o) where
  arr id g e cells hg := by
    have h1 := R.arr id g e cells hg
    cases hΓ:Γ id with
    | none => rw[hΓ]at h1; exact h1
    | some y =>
      obtain⟨b, base, n⟩ := y
      rw[hΓ]at h1
      obtain⟨c, a1, a2, a3, a4⟩ := h1
      refine⟨c, ?_, a2, a3, fun i hi => let ⟨cv, b1, b2⟩ := a4 i hi; ⟨cv, b1, b2.closed hr ho⟩⟩
      rw[dw, QQ]
      · exact a1
      · rintro⟨rfl, _⟩
        exact hown ⟨id, base, n, hΓ⟩
  loop id st pend n env ps asg body hg := by
    obtain⟨b, rr, a1, a2, a3, a4, a5, a6, a7, a8, a9⟩ := R.loop id st pend n env ps asg body hg
    refine⟨b, rr, a1, ?_, a3, a4, a5, a6, a7, a8, fun t ht => (a9 t ht).closed hr ho⟩
    rw[dw, QQ]
    · exact a2
    · rintro⟨rfl, _⟩
      exact hown ⟨id, 0, 0, a1⟩
  mp id es hg := by
    obtain⟨b, a1, a2⟩ := R.mp id es hg
    refine⟨b, a1, ?_⟩
    rw[dw, QQ]
    · exact a2
    · rintro⟨rfl, _⟩
      exact hown ⟨id, 0, 0, a1⟩
  rsv := R.rsv
  inj := R.inj
  dom := R.dom
  lt id b base n h := by rw[hU]; exact R.lt id b base n h
  next := R.next
  glob g cells h := (R.glob g cells h).closed hr ho
  gsz g cells h := by
    obtain⟨c, e, f, h1, h2⟩ := R.gsz g cells h
    refine⟨c, e, f, ?_, h2⟩
    rw[dw, QQ]
    · exact h1
    · rintro⟨rfl, _⟩
      rw[hr]at h1
      cases h1
theorem Evo.closed {Γ₀:au}{H₀:AHeap}{w₀:World}(E:Evo Γ₀ H₀ w₀ Γ H w){r:Nat}{x:Option (List Deferred)}(hx:w.heap[r]? = some (.deferred x))(hr:w₀.heap.size <= r)(o:Obj)(ho:∀ c e f, o ≠ .cells c e f):Evo Γ₀ H₀ w₀ Γ H (bc w r o) where
  os := E.os
  tape := E.tape
  output := E.output
  size := by rw[hU]; exact E.size
  keep b hb ho := by
    obtain⟨h1, h2⟩ := E.keep b hb ho
    refine⟨?_, h2⟩
    rw[dw, QQ (by omega)]
    exact h1
  live := E.live
  frz a ha := (oO hx (fun _ _ _ h => by cases h) (fun c e f h => absurd h (ho c e f)) a).trans (E.frz a ha)
theorem Eb {fn : Func} {tmps : Array Value} {R : Ending → World → Prop} {u : FrameMode} {ρ : Env} {Γ₀ : au} {H₀ : AHeap} {w₀ : World} (hu : u ≠ .run) : ∀ (ds : List Deferred) (w : World),
    (∀ d, d ∈ ds -> ∃ r, d = { target := .collected r, args := #[] } /\ w₀.heap.size <= r /\ oK Γ w r) -> ds.Pairwise (fun d e => d.target ≠ e.target) ->
    RelH P G Γ H w -> (∀ t, RelV P Γ H w (ρ t) (tmps.getD t undef)) -> Evo Γ₀ H₀ w₀ Γ H w ->
    (∀ w', RelH P G Γ H w' -> (∀ t, RelV P Γ H w' (ρ t) (tmps.getD t undef)) -> Evo Γ₀ H₀ w₀ Γ H w' -> LeavesIn Fence.wide 0 P fn tmps R [] u w') ->
    LeavesInM Fence.wide 0 P fn tmps R ds u w := by
  intro ds
  induction ds with
  | nil => intro w _ _ R0 he E h; exact h w R0 he E
  | cons d ds ih =>
    intro w hd hp R0 he E h
    obtain⟨r, rfl, hle, hown, hblk⟩ := hd d (by simp)
    have ho:∀ c e f, Obj.deferred none ≠ .cells c e f := fun _ _ _ h => by cases h
    refine⟨hu, .inl ⟨r, bc w r (.deferred none), rfl, ?_, ?_⟩⟩
    · unfold Instr.takeDeferred
      have hg:(getObj r).run P w = .ok (.deferred (some [])) w := by simp [getObj, Sem.run, hblk]
      rw[aj hg]
      simp only
      have hset:(setObj r (.deferred none)).run P w = .ok () (bc w r (.deferred none)) := by simp [setObj, Sem.run, hblk, bc]
      rw[aj hset]
      rfl
    · refine ih _ (fun e he' => ?_) (Tz.1 hp).2 (R0.closed hblk hown ho) (fun t => (he t).closed hblk ho) (E.closed hblk hle _ ho) h
      obtain⟨r', rfl, hle', hown', hblk'⟩ := hd e (by simp [he'])
      refine⟨r', rfl, hle', hown', ?_⟩
      rw[dw, QQ]
      · exact hblk'
      · rintro⟨rfl, _⟩
        exact(Tz.1 hp).1 _ he' rfl
theorem Ec {t : TypeId} {a v : AVal} {ca : Value} (R : RelH P G Γ H w) (h : ee P H t a = some v) (ha : RelV P Γ H w a ca) :
    ∃ ad cv, ca = .pointer (some ad) /\ (loadVar t ad).run P w = .ok cv w /\ RelV P Γ H w v cv := by
  have h0 := h
  unfold ee at h
  split at h
  · rename_i id gen off
    split at h
    · rename_i g e cells hg
      split at h
      · rename_i hgg
        have hl:H.live id gen = some (e, cells) := by simp [AHeap.live, hg, hgg]
        obtain⟨b, base, n, hΓ, rfl⟩ := mT ha hl
        obtain⟨cv, h1, h2⟩ := qG h (oU R hl hΓ)
        exact⟨_, cv, rfl, h1, h2⟩
      · cases h
    · cases h
  · rename_i cells off
    cases ha with
    | vptr hb hlt hcs hcell hrel =>
      obtain⟨cv, h1, h2⟩ := qG h ⟨_, hcs, hcell, hrel⟩
      exact⟨_, cv, rfl, h1, h2⟩
  · cases h
def dF (P:Program)(H:AHeap)(ρ:Env):List ResultVar -> Option (List AVal)
  | [] => some []
  | .tmp t :: r => (dF P H ρ r).map (ρ t :: ·)
  | .cell a t :: r => (ee P H t (ρ a)).bind fun v => (dF P H ρ r).map (v :: ·)
def fP:List AVal -> AVal
  | [v] => v
  | vs => .tup vs
def ng (tmps:Array Value):ResultVar -> Sem Value
  | .tmp t => pure (tmps.getD t undef)
  | .cell a t => do loadVar t (<- asAddr (tmps.getD a undef))
theorem Ed {tmps : Array Value} {ρ : Env} (R : RelH P G Γ H w) (he : ∀ t, RelV P Γ H w (ρ t) (tmps.getD t undef)) : ∀ (rs : List ResultVar) (vs : List AVal), dF P H ρ rs = some vs →
    ∃ cs:List Value, (rs.mapM (ng tmps)).run P w = .ok cs w /\ cs.length = vs.length /\ ∀ i (_:i < vs.length) (_:i < cs.length), RelV P Γ H w vs[i] cs[i] := by
  intro rs
  induction rs with
  | nil =>
    intro vs h
    simp only[dF, Option.some.injEq]at h
    subst h
    exact⟨[], rfl, rfl, fun i h _ => absurd h (Q5 _)⟩
  | cons rv rs ih =>
    intro vs h
    have cons : ∀ (v : AVal) (cv : Value) (vs' : List AVal), (ng tmps rv).run P w = .ok cv w → RelV P Γ H w v cv → dF P H ρ rs = some vs' → ∃ cs : List Value, ((rv :: rs).mapM (ng tmps)).run P w = .ok cs w ∧
        cs.length = (v :: vs').length /\ ∀ i (_:i < (v :: vs').length) (_:i < cs.length), RelV P Γ H w (v :: vs')[i] cs[i] := by
      intro v cv vs' hm hv hr
      obtain⟨cs, h1, h2, h3⟩ := ih vs' hr
      refine⟨cv :: cs, ?_, by simp [h2], fun i a b => ?_⟩
      · rw[List.mapM_cons, aj hm, aj h1]; rfl
      · cases i with
        | zero => exact hv
        | succ i => exact h3 i (by simpa using a) (by simpa using b)
    cases rv with
    | tmp t =>
      simp only[dF, QJ]at h
      obtain⟨vs', h1, rfl⟩ := h
      exact cons (ρ t) _ vs' rfl (he t) h1
    | cell a t =>
      simp only[dF, QO, QJ]at h
      obtain⟨v, hv, vs', h1, rfl⟩ := h
      obtain⟨ad, cv, ha, hl, hr⟩ := Ec R hv (he a)
      refine cons v cv vs' ?_ hr h1
      simp only[ng, ha]
      have:(asAddr (.pointer (some ad))).run P w = .ok ad w := rfl
      rw[aj this]
      exact hl
theorem Ee (fn:Func)(tmps:Array Value):results fn tmps = (do let vs <- fn.results.mapM (ng tmps); pure (if h:vs.size = 1 then vs[0] else .tuple vs)) := by
  unfold results
  congr 1
theorem Ef {fn : Func} {tmps : Array Value} {ρ : Env} {vs : List AVal} (R : RelH P G Γ H w) (he : ∀ t, RelV P Γ H w (ρ t) (tmps.getD t undef)) (h : dF P H ρ fn.results.toList = some vs) :
    ∃ cv, (results fn tmps).run P w = .ok cv w /\ RelV P Γ H w (fP vs) cv := by
  obtain⟨cs, h1, h2, h3⟩ := Ed R he _ _ h
  have hm:(fn.results.mapM (ng tmps)).run P w = .ok cs.toArray w := by
    rw[TV, Sem.run_map, h1]
    rfl
  rw[Ee, aj hm]
  match vs, cs, h2, h3 with
  | [v], [c], _, h3 => exact⟨c, rfl, h3 0 (by simp) (by simp)⟩
  | [], [], _, h3 => exact⟨_, rfl, .tup (cs := []) rfl h3⟩
  | v :: v' :: vs, c :: c' :: cs, h2, h3 =>
    refine⟨.tuple (c :: c' :: cs).toArray, ?_, .tup h2 h3⟩
    have hne:¬ (c :: c' :: cs).toArray.size = 1 := by simp
    rw[dif_neg hne]
    rfl
def kG (P:Program)(G:Nat -> Option (List AVal))(H:AHeap)(v:AVal)(H':AHeap)(v':AVal):Prop :=
  ∀ Γ w, RelH P G Γ H w -> ∃ Γ', RelH P G Γ' H' w /\ Evo Γ H w Γ' H' w /\ ∀ cv, RelV P Γ H w v cv -> RelV P Γ' H' w v' cv
def az (P:Program)(G:Nat -> Option (List AVal))(H₀:AHeap)(K:ARes -> AHeap -> Prop)(v:AVal)(H:AHeap):Prop :=
  ∃ v' H', kG P G H v H' v' /\ H₀.next <= H'.next /\ K (.ret v') H'
theorem kG.refl (H:AHeap)(v:AVal):kG P G H v H v := fun Γ _ R => ⟨Γ, R, Evo.refl _ _ _, fun _ h => h⟩
theorem az.mk {H₀:AHeap}{K:ARes -> AHeap -> Prop}{v:AVal}{H:AHeap}(hn:H₀.next <= H.next)(hk:K (.ret v) H):az P G H₀ K v H := ⟨v, H, kG.refl H v, hn, hk⟩
def pq (P:Program)(G:Nat -> Option (List AVal))(rs:List ResultVar)(H₀:AHeap)(K:ARes -> AHeap -> Prop):AX -> St -> Prop
  | .normal, s | .ret, s => aP (dF P s.H s.ρ rs) fun vs => az P G H₀ K (fP vs) s.H
  | .panic, s => ∃ H', kG P G s.H (.lit undef) H' (.lit undef) /\ H₀.next <= H'.next /\ K .panic H'
  | _, _ => False
def fA (args:List AVal):Env := fun t => (args[t]?).getD (.lit undef)
theorem ah.dP {f : FuncId} {fn : Func} {c : Code} {args : List AVal} {K : ARes → AHeap → Prop} {rs : List ResultVar} {n : Nat} (hf : P.funcs[f]? = some fn) (hb : fn.body = some c) (hres : fn.results.toList = rs) (hnt : fn.ntmps = n) (hname : (fn.name == "runtime.NumGoroutine") = false)
    (hargs:args.length <= n) (hW:W P G n none c (pq P G rs H K) ⟨fA args, H⟩):ah P G f args H K := by
  subst hres
  subst hnt
  refine⟨⟨fn, hf, by rw[hb]; rfl, hname⟩, fun Γ w cargs R hr => ?_⟩
  refine callsIn_of_wp_marks hf hb trivial ?_
  have hs:RelS P G fn.ntmps ⟨w.heap.size, []⟩ Γ ⟨fA args, H⟩ { tmps := cargs ++ Array.replicate (fn.ntmps - cargs.size) undef, defers := [] } w := by
    refine⟨by have := hr.1; simp; omega, fun t => ?_, R, ⟨[], rfl, Marks.nil⟩, Nat.le_refl _⟩
    have hsz := hr.1
    by_cases ht:t < args.length
    · have h1 : (cargs ++ Array.replicate (fn.ntmps - cargs.size) undef).getD t undef = cargs[t]'(by omega) := by
        simp only[Ro]
        rw[TS (by omega), QS (by omega)]
        rfl
      have h2:fA args t = args[t] := by
        unfold fA
        rw[QK ht]
        rfl
      rw[h1]
      show RelV P Γ H w (fA args t) _
      rw[h2]
      exact hr.2 t ht (by omega)
    · have h1 : (cargs ++ Array.replicate (fn.ntmps - cargs.size) undef).getD t undef = undef := by
        simp only[Ro]
        rw[Array.getElem?_append_right (by omega), SN]
        split <;> rfl
      have h2:fA args t = .lit undef := by
        unfold fA
        rw[QR (by omega)]
        rfl
      rw[h1]
      show RelV P Γ H w (fA args t) _
      rw[h2]
      exact .lit _
  refine wpIn_mono (hW ⟨w.heap.size, []⟩ Γ _ w none hs rfl) ?_
  rintro e a' w' ⟨x, s', Γ', hx, hq, hs', E, hn, _, _⟩
  have leave : ∀ (u : FrameMode) (Q : World → Prop), u ≠ .run → (∀ w'', RelH P G Γ' s'.H w'' → (∀ t, RelV P Γ' s'.H w'' (s'.ρ t) (a'.tmps.getD t undef)) → Evo Γ H w Γ' s'.H w'' → LeavesIn Fence.wide 0 P fn a'.tmps (fO P G Γ H w K) [] u w'') →
      LeavesInM Fence.wide 0 P fn a'.tmps (fO P G Γ H w K) a'.defers u w' :=
    fun u _ hu hfin => by
      obtain⟨m, hm, hmarks⟩ := hs'.defers
      rw[hm, List.append_nil]
      exact Eb hu m w' hmarks.1 hmarks.2 hs'.heap hs'.env E hfin
  have normal:aP (dF P s'.H s'.ρ fn.results.toList) (fun vs => az P G H K (fP vs) s'.H) -> LeavesInM Fence.wide 0 P fn a'.tmps (fO P G Γ H w K) a'.defers .returning w' := by
    rintro⟨vs, hvs, v', H', hw, hn', hk⟩
    refine leave .returning (fun _ => True) (by simp) fun w'' R'' he'' E'' => ?_
    obtain⟨cv, h1, h2⟩ := Ef R'' he'' hvs
    obtain⟨Γ'', R3, E3, hv3⟩ := hw Γ' w'' R''
    exact⟨cv, h1, .ret v', H', Γ'', hv3 cv h2, hk, R3, E''.trans hn E3, hn'⟩
  cases e with
  | normal => cases x with
    | normal => exact normal hq
    | _ => exact hx.elim
  | ret => cases x with
    | ret => exact normal hq
    | _ => exact hx.elim
  | panic chain => cases x with
    | panic =>
      obtain⟨H', hw, hn', hk⟩ := hq
      refine leave (.panicking chain) (fun _ => True) (by simp) fun w'' R'' he'' E'' => ?_
      obtain⟨Γ'', R3, E3, _⟩ := hw Γ' w'' R''
      exact⟨.panic, H', Γ'', hx, hk, R3, E''.trans hn E3, hn'⟩
    | _ => exact hx.elim
  | exit i => cases x with
    | exit j => exact hq.elim
    | _ => exact hx.elim
  | goto i => cases x with
    | goto j => exact hq.elim
    | _ => exact hx.elim
  | outgrown => cases x <;> exact hx.elim
theorem ah.cu {f : FuncId} {fn : Func} {c : Code} {args : List AVal} {K : ARes → AHeap → Prop} {rs : List ResultVar} {n : Nat} (hf : P.funcs[f]? = some fn) (hb : fn.body = some c) (hres : fn.results.toList = rs) (hnt : fn.ntmps = n) (hname : (fn.name == "runtime.NumGoroutine") = false)
    (hfit:fits n c = true) (hargs:args.length <= n) (h:vc P G n none c (pq P G rs H K) ⟨fA args, H⟩):ah P G f args H K :=
  .dP hf hb hres hnt hname hargs (nf c _ _ hfit h)
end Go.Hx
namespace Go.Hx
variable {P:Program} {G:Nat -> Option (List AVal)} {Γ Γ':au} {H H':AHeap} {w w':World}
def aB:AVal -> List Nat
  | .own id _ _ _ _ => [id]
  | .ptr id _ _ => [id]
  | _ => []
def cB:AVal -> List Nat
  | .yld id => [id]
  | _ => []
structure FP where
  eff:List Nat
  rs:List Nat
def kH:AVal -> Bool
  | .own .. => true
  | _ => false
def iL (P:Program)(t:TypeId)(x:AVal):List Nat := match P.underlying t with
  | some (.slice _) => aB x
  | _ => []
def gH (P:Program)(id:Nat)(b:Builtin)(ats:List TypeId)(args:List AVal):FP :=
  match b, ats, args with
  | .append, _, [s, x] => if kH s then ⟨aB s, aB s ++ aB x⟩ else ⟨[id], aB x⟩
  | .copy, _, [d, x] => ⟨aB d, aB d ++ aB x⟩
  | .clear, _, [d] => ⟨aB d, aB d⟩
  | .len, [t], [x] => ⟨[], iL P t x⟩
  | _, _, _ => ⟨[], []⟩
def aY (P:Program)(G:Nat -> Option (List AVal))(ρ:Env)(id:Nat):Op -> FP
  | .load _ a => ⟨[], aB (af G ρ a)⟩
  | .nilCheck a => ⟨[], aB (af G ρ a)⟩
  | .slice _ a _ _ _ => ⟨[], aB (af G ρ a)⟩
  | .fieldAddr _ a _ => ⟨[], aB (af G ρ a)⟩
  | .indexAddr _ a _ => ⟨[], aB (af G ρ a)⟩
  | .convert _ _ a => ⟨[], aB (af G ρ a)⟩
  | .store _ a _ => ⟨aB (af G ρ a), aB (af G ρ a)⟩
  | .alloc _ => ⟨[id], []⟩
  | .box _ _ => ⟨[id], []⟩
  | .buildSlice _ _ _ => ⟨[id], []⟩
  | .makeSlice _ _ _ => ⟨[id], []⟩
  | .makeMap _ _ => ⟨[id], []⟩
  | .lookup _ x _ _ => ⟨[], cB (af G ρ x)⟩
  | .mapUpdate _ m _ _ | .insert _ m _ _ | .mapEntry _ m _ | .entryStore _ m _ _ => ⟨cB (af G ρ m), cB (af G ρ m)⟩
  | .call c => match c.callee with
    | .builtin b => gH P id b c.argTypes.toList (c.args.toList.map (af G ρ))
    | _ => ⟨[], []⟩
  | _ => ⟨[], []⟩
def cW (e:Option (Nat × Blk))(g:Nat -> Option Blk):Nat -> Option Blk :=
  match e with
  | none => g
  | some (k, b) => fun j => if j = k then some b else g j
def ef (H:AHeap):Prop := ∀ id b, H.get id = some b -> id < H.next
theorem ij (wf:ef H){id gen:Nat}{ec:TypeId × List AVal}(h:H.live id gen = some ec):id < H.next := wf id _ (gC (e := ec.1) (cells := ec.2) h)
theorem iM {H2:AHeap}{id:Nat}(h:H2.get id = H.get id)(gen:Nat):H2.live id gen = H.live id gen := by unfold AHeap.live; rw[h]
def Local (P:Program)(G:Nat -> Option (List AVal))(ρ:Env)(H:AHeap)(o:Op)(v:AVal)(H':AHeap)(f:FP):Prop :=
  ∃ (e:Option (Nat × Blk)) (al:Bool), H'.get = cW e H.get /\ H'.next = (if al then H.next + 1 else H.next) /\
    (∀ k b, e = some (k, b) -> k ∈ f.eff /\ (al = false -> k ∈ f.rs)) /\ (al = true -> ∃ b, e = some (H.next, b)) /\ (∀ r, r ∈ f.rs -> r < H.next) /\
    ∀ H2:AHeap, (∀ r, r ∈ f.rs -> H2.get r = H.get r) -> (al = true -> H2.get H.next = some .rsv /\ H.next ≠ H2.next) -> ae P G ρ H2 H.next o = some (v, ⟨cW e H2.get, H2.next⟩)
theorem cw {ρ:Env}{o:Op}{v:AVal}{f:FP}(hrs:∀ r, r ∈ f.rs -> r < H.next)(h:∀ H2:AHeap, (∀ r, r ∈ f.rs -> H2.get r = H.get r) -> ae P G ρ H2 H.next o = some (v, H2)):Local P G ρ H o v H f := by
  refine⟨none, false, rfl, rfl, ?_, ?_, hrs, fun H2 ha _ => h H2 ha⟩
  · intro k b h; cases h
  · intro h; cases h
theorem ni {ρ : Env} {o : Op} {v : AVal} {f : FP} {b : Blk} (hl : H.lay H.next b = some H') (hta : H.next ∈ f.eff) (hrs : ∀ r, r ∈ f.rs → r < H.next)
    (h:∀ H2:AHeap, (∀ r, r ∈ f.rs -> H2.get r = H.get r) -> ∀ H2', H2.lay H.next b = some H2' -> ae P G ρ H2 H.next o = some (v, H2')):Local P G ρ H o v H' f := by
  obtain⟨h1, h2⟩ := ia hl
  have h2':H'.next = H.next + 1 := by
    unfold AHeap.lay at hl
    rw[QN rfl]at hl
    simp only[Option.some.injEq]at hl
    rw[<- hl]
  refine⟨some (H.next, b), true, funext h1, by simp [h2'], ?_, ?_, hrs, fun H2 ha hr => ?_⟩
  · intro k b' hk
    simp only[Option.some.injEq, Prod.mk.injEq]at hk
    exact⟨hk.1 ▸ hta, fun h => by cases h⟩
  · exact fun _ => ⟨b, rfl⟩
  · obtain⟨hr1, hr2⟩ := hr rfl
    refine h H2 ha _ ?_
    unfold AHeap.lay
    rw[QQ hr2, hr1]
    rfl
theorem kI {ρ : Env} {o : Op} {v : AVal} {f : FP} {id : Nat} {b : Blk} (hid : id ∈ f.eff) (hid' : id ∈ f.rs) (hrs : ∀ r, r ∈ f.rs → r < H.next)
    (h:∀ H2:AHeap, (∀ r, r ∈ f.rs -> H2.get r = H.get r) -> ae P G ρ H2 H.next o = some (v, H2.upd id b)):Local P G ρ H o v (H.upd id b) f := by
  refine⟨some (id, b), false, rfl, rfl, ?_, ?_, hrs, fun H2 ha _ => h H2 ha⟩
  · intro k b' hk
    simp only[Option.some.injEq, Prod.mk.injEq]at hk
    exact⟨hk.1 ▸ hid, fun _ => hk.1 ▸ hid'⟩
  · intro h; cases h
theorem bI {n:Nat}:∀ r, r ∈ ([]:List Nat) -> r < n := fun _ h => by cases h
theorem eD {n id:Nat}(h:id < n):∀ r, r ∈ [id] -> r < n := fun r hr => by
  simp only[List.mem_singleton]at hr
  omega
theorem Eo {H2:AHeap}{t:TypeId}{a:AVal}(h:∀ r, r ∈ aB a -> H2.get r = H.get r):ee P H2 t a = ee P H t a := by
  cases a with
  | ptr id gen off => simp only[ee]; rw[h id (by simp [aB])]
  | _ => rfl
theorem Ep (wf:ef H){t:TypeId}{a v:AVal}(h:ee P H t a = some v):∀ r, r ∈ aB a -> r < H.next := by
  cases a with
  | ptr id gen off =>
    refine eD ?_
    simp only[ee]at h
    split at h
    · rename_i hg; exact wf _ _ hg
    · cases h
  | own => simp [ee]at h
  | _ => exact bI
theorem Er {t : TypeId} {a v : AVal} (h : fM P H t a v = some H') : ∃ id gen off g e cells, a = .ptr id gen off ∧ H.get id = some (.arr g e cells) ∧ ∃ cells', H' = H.upd id (.arr g e cells') ∧
    ∀ H2:AHeap, H2.get id = H.get id -> fM P H2 t a v = some (H2.upd id (.arr g e cells')) := by
  cases a with
  | ptr id gen off =>
    simp only[fM]at h
    split at h
    · rename_i g e cells hg
      split at h
      · rename_i hc
        simp only[Option.some.injEq]at h
        refine⟨id, gen, off, g, e, cells, rfl, hg, _, h.symm, fun H2 h2 => ?_⟩
        simp only[fM]
        rw[h2, hg]
        simp only
        rw[QN hc]
      · cases h
    · cases h
  | _ => simp [fM]at h
theorem Es (wf:ef H){t:TypeId}{x v:AVal}{i:Int}(h:ky P H t x i = some v):(∀ r, r ∈ aB x -> r < H.next) /\ ∀ H2:AHeap, (∀ r, r ∈ aB x -> H2.get r = H.get r) -> ky P H2 t x i = some v := by
  unfold ky at h ⊢
  split at h
  · split at h
    · rename_i hc
      split at h
      · rename_i id gen off
        simp only[QJ]at h
        obtain⟨ec, hl, hv⟩ := h
        refine⟨eD (ij wf hl), fun H2 h2 => ?_⟩
        rw[QN hc]
        simp only[iM (h2 id (by simp [aB])), hl, Option.map_some, hv]
      · refine⟨bI, fun H2 _ => ?_⟩
        rw[QN hc]
        exact h
      · cases h
    · cases h
  · split at h
    · rename_i hc
      split at h
      · rename_i id gen off len sz
        split at h
        · rename_i hi
          simp only[QJ]at h
          obtain⟨ec, hl, hv⟩ := h
          refine⟨eD (ij wf hl), fun H2 h2 => ?_⟩
          rw[QN hc, QN hi]
          simp only[iM (h2 id (by simp [aB])), hl, Option.map_some, hv]
        · cases h
      · refine⟨bI, fun H2 _ => ?_⟩
        rw[QN hc]
        exact h
      · cases h
    · cases h
  · cases h
theorem Et (wf:ef H){t:TypeId}{x v:AVal}{lo hi:Option AVal}(h:jE P H t x lo hi = some v):(∀ r, r ∈ aB x -> r < H.next) /\ ∀ H2:AHeap, (∀ r, r ∈ aB x -> H2.get r = H.get r) -> jE P H2 t x lo hi = some v := by
  unfold jE at h ⊢
  split at h
  · split at h
    · rename_i hc
      split at h
      · rename_i id gen off
        split at h
        · rename_i e' cells hl
          refine⟨eD (ij wf hl), fun H2 h2 => ?_⟩
          rw[QN hc]
          simp only[iM (h2 id (by simp [aB])), hl]
          exact h
        · cases h
      · refine⟨bI, fun H2 _ => ?_⟩
        rw[QN hc]
        exact h
      · cases h
    · cases h
  · split at h
    · rename_i hc
      split at h
      · rename_i id gen off len sz
        split at h
        · rename_i hi
          have h0 := h
          simp only[QO]at h
          obtain⟨ec, hl, _⟩ := h
          refine⟨eD (ij wf hl), fun H2 h2 => ?_⟩
          rw[QN hc, QN hi, iM (h2 id (by simp [aB]))]
          exact h0
        · cases h
      · refine⟨bI, fun H2 _ => ?_⟩
        rw[QN hc]
        exact h
      · refine⟨bI, fun H2 _ => ?_⟩
        rw[QN hc]
        exact h
      · cases h
    · cases h
  · split at h
    · exact⟨bI, fun H2 _ => h⟩
    · cases h
  · cases h
theorem Eu (wf:ef H){t:TypeId}{x v:AVal}(h:jF P H t x = some v):(∀ r, r ∈ iL P t x -> r < H.next) /\ ∀ H2:AHeap, (∀ r, r ∈ iL P t x -> H2.get r = H.get r) -> jF P H2 t x = some v := by
  unfold jF iL at *
  cases hu:P.underlying t with
  | none => rw[hu]at h; cases h
  | some d =>
    rw[hu]at h
    cases d with
    | slice e =>
      simp only at h ⊢
      split at h
      · exact⟨bI, fun _ _ => h⟩
      · rename_i id gen off len sz
        simp only[QJ]at h
        obtain⟨ec, hl, hv⟩ := h
        refine⟨eD (ij wf hl), fun H2 h2 => ?_⟩
        simp only[iM (h2 id (by simp [aB])), hl, Option.map_some, hv]
      · exact⟨bI, fun _ _ => h⟩
      · cases h
    | string => exact⟨bI, fun _ _ => h⟩
    | array n e => exact⟨bI, fun _ _ => h⟩
    | _ => cases h
theorem uJ (wf:ef H){sz:Nat}{x:AVal}{r:Nat × List AVal}(h:cr H sz x = some r):(∀ r, r ∈ aB x -> r < H.next) /\ ∀ H2:AHeap, (∀ r, r ∈ aB x -> H2.get r = H.get r) -> cr H2 sz x = some r := by
  unfold cr at h ⊢
  split at h
  · exact⟨bI, fun _ _ => h⟩
  · rename_i id gen off len sz'
    split at h
    · rename_i hsz
      simp only[QJ]at h
      obtain⟨ec, hl, hv⟩ := h
      refine⟨eD (ij wf hl), fun H2 h2 => ?_⟩
      rw[QN hsz]
      simp only[iM (h2 id (by simp [aB])), hl, Option.map_some, hv]
    · cases h
  · exact⟨bI, fun _ _ => h⟩
  · cases h
theorem y9 {a b:List Nat}{p:Nat -> Prop}(h1:∀ r, r ∈ a -> p r)(h2:∀ r, r ∈ b -> p r):∀ r, r ∈ a ++ b -> p r := fun r hr => (Q1.1 hr).elim (h1 r) (h2 r)
theorem Ew (wf : ef H) {ρ : Env} {c : Call} {t u : TypeId} {s x v : AVal} (hb : c.callee = .builtin .append) (hats : c.argTypes.toList = [t, u]) (hargs : c.args.toList.map (af G ρ) = [s, x])
    (h:bC P H H.next t u s x = some (v, H')):Local P G ρ H (.call c) v H' (aY P G ρ H.next (.call c)) := by
  have hfp:aY P G ρ H.next (.call c) = if kH s then ⟨aB s, aB s ++ aB x⟩ else ⟨[H.next], aB x⟩ := by
    simp only[aY, hb, hats, hargs, gH]
  have hop:∀ H2:AHeap, ae P G ρ H2 H.next (.call c) = bC P H2 H.next t u s x := fun H2 => by
    simp only[ae, hb, hats, hargs, eZ]
  rw[hfp]
  unfold bC at h
  split at h
  · rename_i e he
    split at h
    · rename_i e' he'
      simp only[QO]at h
      obtain⟨z, hz, nx, hsrc, h⟩ := h
      obtain⟨hxlt, hxl⟩ := uJ wf hsrc
      split at h
      · simp only[kH, Bool.false_eq_true, if_false]
        split at h
        · rename_i hn0
          simp only[Option.some.injEq, Prod.mk.injEq]at h
          obtain⟨rfl, rfl⟩ := h
          refine cw hxlt fun H2 h2 => ?_
          rw[hop]
          simp only[bC, he, he', hz, hxl H2 h2, Option.bind_some, QN hn0]
        · rename_i hn0
          split at h
          · rename_i hb
            simp only[QJ, Prod.mk.injEq]at h
            obtain⟨H3, hl, rfl, rfl⟩ := h
            refine ni hl (by simp) hxlt fun H2 h2 H2' hl2 => ?_
            rw[hop]
            simp only[bC, he, he', hz, hxl H2 h2, Option.bind_some, QQ hn0, QN hb, hl2, Option.map_some]
          · cases h
      · rename_i id' gen off len sz
        simp only[kH, if_true]
        simp only[QO]at h
        obtain⟨ec, hl, h⟩ := h
        have hlt:∀ r, r ∈ aB (.own id' gen off len sz) ++ aB x -> r < H.next := y9 (eD (ij wf hl)) hxlt
        have hl2:∀ H2:AHeap, (∀ r, r ∈ aB (.own id' gen off len sz) ++ aB x -> H2.get r = H.get r) -> H2.live id' gen = some ec := fun H2 h2 => by
          rw[iM (h2 id' (by simp [aB]))]; exact hl
        have hx2:∀ H2:AHeap, (∀ r, r ∈ aB (.own id' gen off len sz) ++ aB x -> H2.get r = H.get r) -> cr H2 (P.cellsOf e) x = some nx := fun H2 h2 =>
          hxl H2 fun r hr => h2 r (Se _ hr)
        split at h
        · rename_i hc
          split at h
          · rename_i hn0
            simp only[Option.some.injEq, Prod.mk.injEq]at h
            obtain⟨rfl, rfl⟩ := h
            refine cw hlt fun H2 h2 => ?_
            rw[hop]
            simp only[bC, he, he', hz, hx2 H2 h2, hl2 H2 h2, Option.bind_some]
            rw[QN hc, QN hn0]
          · rename_i hn0
            simp only[Option.some.injEq, Prod.mk.injEq]at h
            obtain⟨rfl, rfl⟩ := h
            refine kI (by simp [aB]) (by simp [aB]) hlt fun H2 h2 => ?_
            rw[hop]
            simp only[bC, he, he', hz, hx2 H2 h2, hl2 H2 h2, Option.bind_some]
            rw[QN hc, QQ hn0]
        · cases h
      · cases h
    · cases h
  · cases h
theorem Ex (wf : ef H) {ρ : Env} {c : Call} {t u : TypeId} {s x v : AVal} (hb : c.callee = .builtin .copy) (hats : c.argTypes.toList = [t, u]) (hargs : c.args.toList.map (af G ρ) = [s, x])
    (h:iV P H t s x = some (v, H')):Local P G ρ H (.call c) v H' (aY P G ρ H.next (.call c)) := by
  have hfp:aY P G ρ H.next (.call c) = ⟨aB s, aB s ++ aB x⟩ := by
    simp only[aY, hb, hats, hargs, gH]
  have hop:∀ H2:AHeap, ae P G ρ H2 H.next (.call c) = iV P H2 t s x := fun H2 => by
    simp only[ae, hb, hats, hargs, eZ]
  rw[hfp]
  unfold iV at h
  split at h
  · rename_i e he
    split at h
    · rename_i hs
      simp only[QO]at h
      obtain⟨nx, hsrc, h⟩ := h
      obtain⟨hxlt, hxl⟩ := uJ wf hsrc
      split at h
      · rename_i id' gen off len sz
        simp only[QO]at h
        obtain⟨ec, hl, h⟩ := h
        have hlt:∀ r, r ∈ aB (.own id' gen off len sz) ++ aB x -> r < H.next := y9 (eD (ij wf hl)) hxlt
        split at h
        · rename_i hc
          simp only[Option.some.injEq, Prod.mk.injEq]at h
          obtain⟨rfl, rfl⟩ := h
          refine kI (by simp [aB]) (by simp [aB]) hlt fun H2 h2 => ?_
          have hl2:H2.live id' gen = some ec := by
            rw[iM (h2 id' (by simp [aB]))]; exact hl
          rw[hop]
          simp only[iV, he, hs, if_true, hxl H2 fun r hr => h2 r (Se _ hr), hl2, Option.bind_some]
          rw[QN hc]
        · cases h
      · cases h
    · cases h
  · cases h
theorem Ey (wf : ef H) {ρ : Env} {c : Call} {t : TypeId} {s v : AVal} (hb : c.callee = .builtin .clear) (hats : c.argTypes.toList = [t]) (hargs : c.args.toList.map (af G ρ) = [s])
    (h:iW P H t s = some (v, H')):Local P G ρ H (.call c) v H' (aY P G ρ H.next (.call c)) := by
  have hfp:aY P G ρ H.next (.call c) = ⟨aB s, aB s⟩ := by
    simp only[aY, hb, hats, hargs, gH]
  have hop:∀ H2:AHeap, ae P G ρ H2 H.next (.call c) = iW P H2 t s := fun H2 => by
    simp only[ae, hb, hats, hargs, eZ]
  rw[hfp]
  unfold iW at h
  split at h
  · rename_i e he
    split at h
    · simp only[Option.some.injEq, Prod.mk.injEq]at h
      obtain⟨rfl, rfl⟩ := h
      refine cw (fun r hr => by cases hr) fun H2 h2 => ?_
      rw[hop]
      simp only[iW, he]
    · rename_i id' gen off len sz
      simp only[QO]at h
      obtain⟨ec, hl, h⟩ := h
      have hlt:∀ r, r ∈ aB (.own id' gen off len sz) -> r < H.next := eD (ij wf hl)
      have hl2:∀ H2:AHeap, (∀ r, r ∈ aB (.own id' gen off len sz) -> H2.get r = H.get r) -> H2.live id' gen = some ec := fun H2 h2 => by
        rw[iM (h2 id' (by simp [aB]))]; exact hl
      split at h
      · rename_i h0
        simp only[Option.some.injEq, Prod.mk.injEq]at h
        obtain⟨rfl, rfl⟩ := h
        refine cw hlt fun H2 h2 => ?_
        rw[hop]
        simp only[iW, he, hl2 H2 h2, Option.bind_some]
        rw[QN h0]
      · rename_i h0
        simp only[QO]at h
        obtain⟨z, hz, h⟩ := h
        split at h
        · rename_i hc
          simp only[Option.some.injEq, Prod.mk.injEq]at h
          obtain⟨rfl, rfl⟩ := h
          refine kI (by simp [aB]) (by simp [aB]) hlt fun H2 h2 => ?_
          rw[hop]
          simp only[iW, he, hl2 H2 h2, hz, Option.bind_some]
          rw[QQ h0, QN hc]
        · cases h
    · cases h
  · cases h
theorem zb (wf : ef H) {ρ : Env} {o : Op} {t : TypeId} {m k x : Operand} {v : AVal} (h : ib P H t (af G ρ m) (af G ρ k) (af G ρ x) = some (v, H')) (hfp : aY P G ρ H.next o = ⟨cB (af G ρ m), cB (af G ρ m)⟩)
    (hop:∀ H2:AHeap, ae P G ρ H2 H.next o = ib P H2 t (af G ρ m) (af G ρ k) (af G ρ x)):Local P G ρ H o v H' (aY P G ρ H.next o) := by
  rw[hfp]
  unfold ib at h
  split at h
  · rename_i hm
    split at h
    · rename_i id k' u hx hk hu
      split at h
      · rename_i es hg
        simp only[Option.some.injEq, Prod.mk.injEq]at h
        obtain⟨rfl, rfl⟩ := h
        refine kI (by rw[hx]; simp [cB]) (by rw[hx]; simp [cB]) (by rw[hx]; exact eD (wf _ _ hg)) fun H2 h2 => ?_
        have hg2:H2.get id = some (.mp es) := by rw[h2 id (by rw[hx]; simp [cB])]; exact hg
        rw[hop]
        simp only[ib, hm, if_true, hx, hk, hu, hg2]
      · cases h
    · cases h
  · cases h
theorem Ez (wf:ef H){s d:TypeId}{x v:AVal}(h:iG P H s d x = some v):(∀ r, r ∈ aB x -> r < H.next) /\ ∀ H2:AHeap, (∀ r, r ∈ aB x -> H2.get r = H.get r) -> iG P H2 s d x = some v := by
  have bytes:∀ y:AVal, kA P H s d y = some v -> (∀ r, r ∈ aB y -> r < H.next) /\ ∀ H2:AHeap, (∀ r, r ∈ aB y -> H2.get r = H.get r) -> kA P H2 s d y = some v := by
    intro y h
    unfold kA at h
    split at h
    · rename_i hsb
      simp only[QO]at h
      obtain⟨nl, hs, h⟩ := h
      obtain⟨h1, h2⟩ := uJ wf hs
      refine⟨h1, fun H2 ha => ?_⟩
      unfold kA
      rw[QN hsb, h2 H2 ha]
      exact h
    · cases h
  unfold iG at h
  split at h
  · exact bytes _ h
  · exact bytes _ h
  · rename_i hne1 hne2
    refine⟨fun r hr => ?_, fun H2 _ => ?_⟩
    · unfold iX at h
      split at h
      · rename_i a ha
        cases x <;> simp_all [aB, AVal.bG]
      · cases h
    · unfold iG
      split
      · exact absurd rfl (hne1 _ _ _ _ _)
      · exact absurd rfl (hne2 _ _)
      · exact h
theorem uK (wf:ef H){ρ:Env}{o:Op}{v:AVal}(h:ae P G ρ H H.next o = some (v, H')):Local P G ρ H o v H' (aY P G ρ H.next o) := by
  cases o with
  | makeMap t r =>
    simp only[ae]at h
    split at h
    · simp only[QJ, Prod.mk.injEq]at h
      obtain⟨H3, hl, rfl, rfl⟩ := h
      refine ni hl (by simp [aY]) bI fun H2 _ H2' hl2 => ?_
      simp only[ae, hl2, Option.map_some]
    · cases h
  | lookup t x i ok =>
    simp only[ae, QJ, Prod.mk.injEq]at h
    obtain⟨v', hv, rfl, rfl⟩ := h
    have hfp:aY P G ρ H.next (.lookup t x i ok) = ⟨[], cB (af G ρ x)⟩ := rfl
    rw[hfp]
    unfold iE at hv
    split at hv
    · rename_i hm
      split at hv
      · rename_i hx hi
        refine cw (by rw[hx]; exact bI) fun H2 _ => ?_
        simp only[ae, iE, hm, if_true, hx, hi]
        simp only[Option.some.injEq]at hv
        simp [hv]
      · rename_i id k hx hi
        split at hv
        · rename_i es hg
          refine cw (by rw[hx]; exact eD (wf _ _ hg)) fun H2 h2 => ?_
          have hg2:H2.get id = some (.mp es) := by rw[h2 id (by rw[hx]; simp [cB])]; exact hg
          simp only[ae, iE, hm, if_true, hx, hi, hg2]
          simp only[Option.some.injEq]at hv
          simp [hv]
        · cases hv
      · cases hv
    · cases hv
  | mapUpdate t m k x => exact zb wf (by simp only[ae]at h; exact h) (by rfl) fun H2 => rfl
  | insert t m k x => exact zb wf (by simp only[ae]at h; exact h) (by rfl) fun H2 => rfl
  | mapEntry t m k =>
    simp only[ae]at h
    have hfp:aY P G ρ H.next (.mapEntry t m k) = ⟨cB (af G ρ m), cB (af G ρ m)⟩ := rfl
    rw[hfp]
    unfold lY at h
    split at h
    · rename_i hm
      split at h
      · rename_i id k' hx hk
        split at h
        · rename_i es hg
          have hg2:∀ H2:AHeap, (∀ r, r ∈ cB (af G ρ m) -> H2.get r = H.get r) -> H2.get id = some (.mp es) := fun H2 h2 => by rw[h2 id (by rw[hx]; simp [cB])]; exact hg
          split at h
          · rename_i n u hf
            simp only[Option.some.injEq, Prod.mk.injEq]at h
            obtain⟨rfl, rfl⟩ := h
            refine kI (by rw[hx]; simp [cB]) (by rw[hx]; simp [cB]) (by rw[hx]; exact eD (wf _ _ hg)) fun H2 h2 => ?_
            simp only[ae, lY, hm, if_true, hx, hk, hg2 H2 h2, hf]
          · rename_i hf
            simp only[Option.some.injEq, Prod.mk.injEq]at h
            obtain⟨rfl, rfl⟩ := h
            refine kI (by rw[hx]; simp [cB]) (by rw[hx]; simp [cB]) (by rw[hx]; exact eD (wf _ _ hg)) fun H2 h2 => ?_
            simp only[ae, lY, hm, if_true, hx, hk, hg2 H2 h2, hf]
        · cases h
      · cases h
    · cases h
  | entryStore t m s x =>
    simp only[ae]at h
    have hfp:aY P G ρ H.next (.entryStore t m s x) = ⟨cB (af G ρ m), cB (af G ρ m)⟩ := rfl
    rw[hfp]
    unfold mP at h
    split at h
    · rename_i id s' u hx hs hu
      split at h
      · rename_i es hg
        split at h
        · rename_i hlt
          simp only[Option.some.injEq, Prod.mk.injEq]at h
          obtain⟨rfl, rfl⟩ := h
          refine kI (by rw[hx]; simp [cB]) (by rw[hx]; simp [cB]) (by rw[hx]; exact eD (wf _ _ hg)) fun H2 h2 => ?_
          have hg2:H2.get id = some (.mp es) := by rw[h2 id (by rw[hx]; simp [cB])]; exact hg
          simp only[ae, mP, hx, hs, hu, hg2]
          rw[QN hlt]
        · cases h
      · cases h
    · cases h
  | alloc e =>
    simp only[ae, QO, QJ, Prod.mk.injEq]at h
    obtain⟨z, hz, H3, hl, rfl, rfl⟩ := h
    refine ni hl (by simp [aY]) bI fun H2 _ H2' hl2 => ?_
    simp only[ae, hz, hl2, Option.bind_some, Option.map_some]
  | box e x =>
    simp only[ae, QJ, Prod.mk.injEq]at h
    obtain⟨H3, hl, rfl, rfl⟩ := h
    refine ni hl (by simp [aY]) bI fun H2 _ H2' hl2 => ?_
    simp only[ae, hl2, Option.map_some]
  | buildSlice t len parts =>
    simp only[ae, iF]at h
    split at h
    · rename_i e he
      split at h
      · rename_i hc
        simp only[QO, QJ, Prod.mk.injEq]at h
        obtain⟨z, hz, cells, hcl, H3, hl, rfl, rfl⟩ := h
        refine ni hl (by simp [aY]) bI fun H2 _ H2' hl2 => ?_
        simp only[ae, iF, he]
        rw[QN hc]
        simp only[hz, hcl, hl2, Option.bind_some, Option.map_some]
      · cases h
    · cases h
  | makeSlice t l c =>
    simp only[ae, ie]at h
    split at h
    · rename_i e k l' k' c' he hl' hc'
      split at h
      · rename_i hc
        simp only[QO, QJ, Prod.mk.injEq]at h
        obtain⟨cells, hz, H3, hl, rfl, rfl⟩ := h
        refine ni hl (by simp [aY]) bI fun H2 _ H2' hl2 => ?_
        simp only[ae, ie, he, hl', hc']
        rw[QN hc]
        simp only[hz, hl2, Option.bind_some, Option.map_some]
      · cases h
    · cases h
  | store t a x =>
    simp only[ae]at h
    split at h
    · rename_i hu
      simp only[QJ, Prod.mk.injEq]at h
      obtain⟨H3, hst, rfl, rfl⟩ := h
      obtain⟨id, gen, off, g, e, cells, ha, hg, cells', rfl, hall⟩ := Er hst
      have hfp:aY P G ρ H.next (.store t a x) = ⟨[id], [id]⟩ := by simp only[aY, ha, aB]
      rw[hfp]
      refine kI (by simp) (by simp) (eD (wf _ _ hg)) fun H2 h2 => ?_
      simp only[ae, hu, if_true, hall H2 (h2 id (by simp)), Option.map_some]
    · cases h
  | load t p =>
    simp only[ae, QJ, Prod.mk.injEq]at h
    obtain⟨v', hv, rfl, rfl⟩ := h
    refine cw (Ep wf hv) fun H2 h2 => ?_
    simp only[ae, Eo h2, hv, Option.map_some]
  | nilCheck p =>
    simp only[ae, QJ, Prod.mk.injEq]at h
    obtain⟨v', hv, rfl, rfl⟩ := h
    have hv0 := hv
    unfold iH at hv
    split at hv
    · rename_i id gen off hp
      simp only[QJ]at hv
      obtain⟨ec, hl, hv⟩ := hv
      have hfp:aY P G ρ H.next (.nilCheck p) = ⟨[], [id]⟩ := by simp only[aY, hp, aB]
      rw[hfp]
      refine cw (eD (ij wf hl)) fun H2 h2 => ?_
      subst hv
      simp only[ae, hp, iH, iM (h2 id (by simp)), hl, Option.map_some]
    · rename_i hp
      have hfp:aY P G ρ H.next (.nilCheck p) = ⟨[], []⟩ := by simp only[aY, hp, aB]
      rw[hfp]
      refine cw bI fun H2 _ => ?_
      simp only[ae, hp, iH, Option.map_some, Option.some.injEq]at hv ⊢
      rw[hv]
    · rename_i hp
      have hfp:aY P G ρ H.next (.nilCheck p) = ⟨[], []⟩ := by simp only[aY, hp, aB]
      rw[hfp]
      refine cw bI fun H2 _ => ?_
      simp only[ae, hp, iH, Option.map_some, Option.some.injEq]at hv ⊢
      rw[hv]
    · cases hv
  | slice t x lo hi mx =>
    simp only[ae]at h
    split at h
    · simp only[QJ, Prod.mk.injEq]at h
      obtain⟨v', hv, rfl, rfl⟩ := h
      obtain⟨h1, h2⟩ := Et wf hv
      refine cw h1 fun H2 h3 => ?_
      simp only[ae, h2 H2 h3, Option.map_some]
    · cases h
  | indexAddr t x i =>
    simp only[ae]at h
    split at h
    · rename_i k i' hi
      simp only[QJ, Prod.mk.injEq]at h
      obtain⟨v', hv, rfl, rfl⟩ := h
      obtain⟨h1, h2⟩ := Es wf hv
      refine cw h1 fun H2 h3 => ?_
      simp only[ae, hi, h2 H2 h3, Option.map_some]
    · cases h
  | fieldAddr s x f =>
    simp only[ae, QO]at h
    obtain⟨of, hof, h⟩ := h
    split at h
    · rename_i id gen off hx
      simp only[QJ, Prod.mk.injEq]at h
      obtain⟨ec, hl, rfl, rfl⟩ := h
      have hfp:aY P G ρ H.next (.fieldAddr s x f) = ⟨[], [id]⟩ := by simp only[aY, hx, aB]
      rw[hfp]
      refine cw (eD (ij wf hl)) fun H2 h2 => ?_
      simp only[ae, hof, Option.bind_some, hx, iM (h2 id (by simp)), hl, Option.map_some]
    · rename_i cells off hx
      simp only[Option.some.injEq, Prod.mk.injEq]at h
      obtain⟨rfl, rfl⟩ := h
      have hfp:aY P G ρ H.next (.fieldAddr s x f) = ⟨[], []⟩ := by simp only[aY, hx, aB]
      rw[hfp]
      refine cw bI fun H2 _ => ?_
      simp only[ae, hof, Option.bind_some, hx]
    · cases h
  | call c =>
    have h0 := h
    simp only[ae]at h
    split at h
    · rename_i b hb
      unfold eZ at h
      split at h
      · rename_i t x hats hargs
        simp only[QJ, Prod.mk.injEq]at h
        obtain⟨v', hv, rfl, rfl⟩ := h
        obtain⟨h1, h2⟩ := Eu wf hv
        have hfp:aY P G ρ H.next (.call c) = ⟨[], iL P t x⟩ := by simp only[aY, hb, hats, hargs, gH]
        rw[hfp]
        refine cw h1 fun H2 h3 => ?_
        simp only[ae, hb, hats, hargs, eZ, h2 H2 h3, Option.map_some]
      · rename_i hats hargs; exact Ew wf hb hats hargs h
      · rename_i hats hargs; exact Ex wf hb hats hargs h
      · rename_i hats hargs; exact Ey wf hb hats hargs h
      · rename_i hats
        simp only[QO, QJ, Prod.mk.injEq]at h
        obtain⟨vs, h1, v', h2, rfl, rfl⟩ := h
        have hfp:aY P G ρ H.next (.call c) = ⟨[], []⟩ := by simp only[aY, hb, gH]
        rw[hfp]
        refine cw bI fun H2 _ => ?_
        simp only[ae, hb, eZ, h1, h2, Option.bind_some, Option.map_some]
      · rename_i hats
        simp only[QO, QJ, Prod.mk.injEq]at h
        obtain⟨vs, h1, v', h2, rfl, rfl⟩ := h
        have hfp:aY P G ρ H.next (.call c) = ⟨[], []⟩ := by simp only[aY, hb, gH]
        rw[hfp]
        refine cw bI fun H2 _ => ?_
        simp only[ae, hb, eZ, h1, h2, Option.bind_some, Option.map_some]
      · cases h
    · cases h
  | pick c a b =>
    simp only[ae]at h
    split at h
    · rename_i t ht
      simp only[Option.some.injEq, Prod.mk.injEq]at h
      obtain⟨rfl, rfl⟩ := h
      refine cw bI fun H2 _ => ?_
      simp only[ae, ht]
    · cases h
  | makeFunc fn f c =>
    simp only[ae]at h
    split at h
    · simp only[Option.some.injEq, Prod.mk.injEq]at h
      obtain⟨rfl, rfl⟩ := h
      exact cw bI fun H2 _ => by simp only[ae]
    · cases h
  | makeInterface t x =>
    simp only[ae]at h
    split at h
    · rename_i y hy
      simp only[QJ, Prod.mk.injEq]at h
      obtain⟨v', hv, rfl, rfl⟩ := h
      refine cw bI fun H2 _ => ?_
      simp only[ae, hy, hv, Option.map_some]
    · cases h
  | field s x f =>
    simp only[ae, QO]at h
    obtain⟨of, hof, h⟩ := h
    split at h
    · rename_i hx
      simp only[QJ, Prod.mk.injEq]at h
      obtain⟨v', hv, rfl, rfl⟩ := h
      refine cw bI fun H2 _ => ?_
      simp only[ae, hof, Option.bind_some, hx, hv, Option.map_some]
    · rename_i hx
      simp only[QJ, Prod.mk.injEq]at h
      obtain⟨v', hv, rfl, rfl⟩ := h
      refine cw bI fun H2 _ => ?_
      simp only[ae, hof, Option.bind_some, hx, hv, Option.map_some]
    · cases h
  | move x => simp only[ae, Option.some.injEq, Prod.mk.injEq]at h; obtain⟨rfl, rfl⟩ := h; exact cw bI fun H2 _ => by simp only[ae]
  | assign x => simp only[ae, Option.some.injEq, Prod.mk.injEq]at h; obtain⟨rfl, rfl⟩ := h; exact cw bI fun H2 _ => by simp only[ae]
  | build t p => simp only[ae, QJ, Prod.mk.injEq]at h; obtain⟨v', hv, rfl, rfl⟩ := h; exact cw bI fun H2 _ => by simp only[ae, hv, Option.map_some]
  | binOp a b c d e => simp only[ae, QJ, Prod.mk.injEq]at h; obtain⟨v', hv, rfl, rfl⟩ := h; exact cw bI fun H2 _ => by simp only[ae, hv, Option.map_some]
  | unOp a b c => simp only[ae, QJ, Prod.mk.injEq]at h; obtain⟨v', hv, rfl, rfl⟩ := h; exact cw bI fun H2 _ => by simp only[ae, hv, Option.map_some]
  | convert a b c =>
    simp only[ae, QJ, Prod.mk.injEq]at h
    obtain⟨v', hv, rfl, rfl⟩ := h
    obtain⟨h1, h2⟩ := Ez wf hv
    refine cw h1 fun H2 ha => ?_
    simp only[ae, h2 H2 ha, Option.map_some]
  | index a b c => simp only[ae, QJ, Prod.mk.injEq]at h; obtain⟨v', hv, rfl, rfl⟩ := h; exact cw bI fun H2 _ => by simp only[ae, hv, Option.map_some]
  | extract a b => simp only[ae, QJ, Prod.mk.injEq]at h; obtain⟨v', hv, rfl, rfl⟩ := h; exact cw bI fun H2 _ => by simp only[ae, hv, Option.map_some]
  | _ => simp [ae]at h
theorem ze {ρ ρ':Env}{o:Op}{id:Nat}(h:∀ x, x ∈ o.operands -> af G ρ x = af G ρ' x):ae P G ρ H id o = ae P G ρ' H id o := by
  have hparts:∀ (ps:Array (Nat × Operand)), (∀ x, x ∈ (ps.toList.map (·.2)).toArray -> af G ρ x = af G ρ' x) -> ps.toList.map (fun p => (p.1, af G ρ p.2)) = ps.toList.map (fun p => (p.1, af G ρ' p.2)) := by
    intro ps hp
    refine Rm fun p hpm => ?_
    rw[hp p.2 (by simpa using ⟨p.1, by simpa using hpm⟩)]
  have hlist:∀ (ps:Array Operand), (∀ x, x ∈ ps -> af G ρ x = af G ρ' x) -> ps.toList.map (af G ρ) = ps.toList.map (af G ρ') := by
    intro ps hp
    exact Rm fun p hpm => hp p (by simpa using hpm)
  cases o with
  | build t ps => simp only[ae]; rw[hparts ps h]
  | buildSlice t len ps => simp only[ae]; rw[hparts ps h]
  | makeFunc fn f c =>
    simp only[ae]
    rw[hlist f fun x hx => h x (by simp [Op.operands, hx]), hlist c fun x hx => h x (by simp [Op.operands, hx])]
  | slice t x lo hi mx =>
    have hx := h x (by simp [Op.operands])
    have hlo:lo.map (af G ρ) = lo.map (af G ρ') := by
      cases lo with
      | none => rfl
      | some l => simp only[Option.map_some]; rw[h l (by simp [Op.operands])]
    have hhi:hi.map (af G ρ) = hi.map (af G ρ') := by
      cases hi with
      | none => rfl
      | some l => simp only[Option.map_some]; rw[h l (by simp [Op.operands])]
    simp only[ae, hx, hlo, hhi]
  | call c =>
    simp only[ae]
    rw[hlist c.args fun x hx => h x (by
      simp only[Op.operands, Call.operands]
      split <;> simp [hx])]
  | pick c a b => simp only[ae, h c (by simp [Op.operands]), h a (by simp [Op.operands]), h b (by simp [Op.operands])]
  | store t a x => simp only[ae, h a (by simp [Op.operands]), h x (by simp [Op.operands])]
  | binOp op t x y u => simp only[ae, h x (by simp [Op.operands]), h y (by simp [Op.operands])]
  | makeSlice t l c => simp only[ae, h l (by simp [Op.operands]), h c (by simp [Op.operands])]
  | indexAddr t x i => simp only[ae, h x (by simp [Op.operands]), h i (by simp [Op.operands])]
  | index t x i => simp only[ae, h x (by simp [Op.operands]), h i (by simp [Op.operands])]
  | move x => simp only[ae, h x (by simp [Op.operands])]
  | assign x => simp only[ae, h x (by simp [Op.operands])]
  | box e x => simp only[ae, h x (by simp [Op.operands])]
  | load e x => simp only[ae, h x (by simp [Op.operands])]
  | nilCheck x => simp only[ae, h x (by simp [Op.operands])]
  | unOp a b x => simp only[ae, h x (by simp [Op.operands])]
  | convert a b x => simp only[ae, h x (by simp [Op.operands])]
  | makeInterface t x => simp only[ae, h x (by simp [Op.operands])]
  | fieldAddr s x f => simp only[ae, h x (by simp [Op.operands])]
  | field s x f => simp only[ae, h x (by simp [Op.operands])]
  | extract x i => simp only[ae, h x (by simp [Op.operands])]
  | lookup t x i ok => simp only[ae, h x (by simp [Op.operands]), h i (by simp [Op.operands])]
  | mapUpdate t m k x => simp only[ae, h m (by simp [Op.operands]), h k (by simp [Op.operands]), h x (by simp [Op.operands])]
  | insert t m k x => simp only[ae, h m (by simp [Op.operands]), h k (by simp [Op.operands]), h x (by simp [Op.operands])]
  | mapEntry t m k => simp only[ae, h m (by simp [Op.operands]), h k (by simp [Op.operands])]
  | entryStore t m s x => simp only[ae, h m (by simp [Op.operands]), h s (by simp [Op.operands]), h x (by simp [Op.operands])]
  | _ => rfl
end Go.Hx
namespace Go.Hx
variable {P:Program} {G:Nat -> Option (List AVal)} {Γ Γ':au} {H H':AHeap} {w w':World}
def fQ (P:Program)(G:Nat -> Option (List AVal))(fv:AVal)(args:List AVal)(H:AHeap)(v:AVal)(rs:List Nat):Prop :=
  (∀ r, r ∈ rs -> r < H.next) /\ ∀ H2:AHeap, (∀ r, r ∈ rs -> H2.get r = H.get r) -> H.next <= H2.next -> aG P G fv args H2 fun r H3 => r = .ret v /\ H3 = H2
def bE (P:Program)(G:Nat -> Option (List AVal))(o:Oper)(K:FP -> St -> Prop)(s:St):Prop :=
  match o.op with
  | .call { callee := .value fv, args, .. } => ∃ v rs, fQ P G (af G s.ρ fv) (args.toList.map (af G s.ρ)) s.H v rs /\ K ⟨[], rs⟩ ⟨ay s.ρ o.dst v, s.H⟩
  | op => aP (ae P G s.ρ s.H s.H.next op) fun vH => K (aY P G s.ρ s.H.next op) ⟨ay s.ρ o.dst vH.1, vH.2⟩
def eg (i:Nat)(f:FP)(acc:List (Nat × FP)):List (Nat × FP) :=
  match f with
  | ⟨[], []⟩ => acc
  | f => (i, f) :: acc
def fg (b:Nat)(f:FP)(acc:List (Nat × FP)):Prop :=
  ∀ p, p ∈ acc -> b.testBit p.1 = false -> (∀ r, r ∈ f.eff -> r ∉ p.2.rs) /\ (∀ r, r ∈ p.2.eff -> r ∉ f.rs)
def cS (P:Program)(G:Nat -> Option (List AVal))(all:Array Oper)(tail:St -> Prop):List Nat -> Nat -> List (Nat × FP) -> List Oper -> St -> Prop
  | b :: bs, i, acc, o :: rest, s => aP (dO all s.ρ o) fun t => if t = true then bE P G o (fun f s' => fg b f acc ∧ cS P G all tail bs (i + 1) (eg i f acc) rest s') s
      else cS P G all tail bs (i + 1) acc rest ⟨ay s.ρ o.dst (.lit undef), s.H⟩
  | _, _, _, [], s => tail s
  | [], _, _, _ :: _, _ => False
def qT (o:Oper):List Nat := (o.after.toList.filter fun e => Region.binds .any e).map (·.on)
def qU (x:Option Tmp)(l:List Tmp):Bool := match x with | some d => !l.contains d | none => true
def qW (all:Array Oper)(x y:Oper):Bool :=
  qU x.dst (y.looksAt all) && qU y.dst (x.looksAt all) && (match x.dst with | some d => y.dst != some d | none => true)
def cI (bs:List Nat)(i:Nat):Nat := (bs[i]?).getD 0
def uL (bs:List Nat)(i:Nat)(o:Oper):Bool :=
  let es := qT o
  let b := cI bs i
  es.all (fun e => decide (e < i)) && decide (b < 2 ^ i) &&
  (List.range i).all (fun j => !b.testBit j || es.any fun e => e == j || (cI bs e).testBit j)
def pt (all:Array Oper)(bs:List Nat)(K:Nat):Bool :=
  decide (bs.length = K) && decide (K <= all.size) &&
  (List.range all.size).all (fun i => match all[i]? with | some o => uL (bs ++ (List.range' K (all.size - K)).map fun m => 2 ^ m - 1) i o | none => false) &&
  (List.range K).all fun i => match all[i]? with
    | some o => (List.range i).all fun j => (cI bs i).testBit j || (match all[j]? with | some o' => qW all o' o | none => false)
    | none => false
structure Dt where
  v:AVal
  e:Option (Nat × Blk)
  al:Bool
  f:FP
def eE (all:Array Oper)(i:Nat):Option Tmp := (all[i]?).bind (·.dst)
def aS (all:Array Oper)(d:Nat -> Dt)(ρ0:Env):Nat -> (Nat -> Bool) -> Env
  | 0, _ => ρ0
  | n + 1, D => if D n then ay (aS all d ρ0 n D) (eE all n) (d n).v else aS all d ρ0 n D
def aL (d:Nat -> Dt)(g0:Nat -> Option Blk):Nat -> (Nat -> Bool) -> Nat -> Option Blk
  | 0, _ => g0
  | n + 1, D => if D n then cW (d n).e (aL d g0 n D) else aL d g0 n D
def av (d:Nat -> Dt):Nat -> Nat
  | 0 => 0
  | n + 1 => av d n + (if (d n).al then 1 else 0)
def cF (x:Dt):Option Nat := x.e.map (·.1)
theorem nj {e:Option (Nat × Blk)}{g:Nat -> Option Blk}{r:Nat}(h:e.map (·.1) ≠ some r):cW e g r = g r := by
  cases e with
  | none => rfl
  | some kb =>
    simp only[cW]
    rw[QQ]
    rintro rfl
    exact h rfl
theorem nk {ρ:Env}{x:Option Tmp}{v:AVal}{t:Tmp}(h:x ≠ some t):ay ρ x v t = ρ t := by
  cases x with
  | none => rfl
  | some d =>
    simp only[ay]
    rw[QQ]
    rintro rfl
    exact h rfl
theorem qX {ρ ρ':Env}{x:Option Tmp}{v:AVal}{t:Tmp}(h:ρ t = ρ' t):ay ρ x v t = ay ρ' x v t := by
  cases x with
  | none => exact h
  | some d => simp only[ay, h]
theorem qY {e:Option (Nat × Blk)}{g g':Nat -> Option Blk}{r:Nat}(h:g r = g' r):cW e g r = cW e g' r := by
  cases e with
  | none => exact h
  | some kb => simp only[cW, h]
theorem zf {ρ:Env}{x y:Option Tmp}{v u:AVal}(h:∀ d, x = some d -> y ≠ some d):ay (ay ρ x v) y u = ay (ay ρ y u) x v := by
  funext t
  by_cases hx:x = some t
  · rw[nk (h t hx)]
    exact qX (nk (h t hx)).symm
  · rw[nk (ρ := ay ρ y u) hx]
    exact qX (nk hx)
theorem EA {e e':Option (Nat × Blk)}{g:Nat -> Option Blk}(h:∀ r, e.map (·.1) = some r -> e'.map (·.1) ≠ some r):cW e' (cW e g) = cW e (cW e' g) := by
  funext r
  by_cases hx:e.map (·.1) = some r
  · rw[nj (h r hx)]
    exact qY (nj (h r hx)).symm
  · rw[nj (g := cW e' g) hx]
    exact qY (nj hx)
section
variable {all:Array Oper} {d d':Nat -> Dt} {ρ0:Env} {g0 g0':Nat -> Option Blk} {D D':Nat -> Bool}
theorem l8 {t:Tmp}:∀ {n:Nat}, (∀ j, j < n -> eE all j = some t -> D j = D' j) -> aS all d ρ0 n D t = aS all d ρ0 n D' t := by
  intro n
  induction n with
  | zero => intro _; rfl
  | succ n ih =>
    intro h
    have h0 := ih fun j hj => h j (by omega)
    simp only[aS]
    by_cases hd:eE all n = some t
    · rw[h n (by omega) hd]
      split
      · exact qX h0
      · exact h0
    · have : ∀ (b : Bool) (ρ : Env), (if b = true then ay ρ (eE all n) (d n).v else ρ) t = ρ t := by
        intro b ρ
        split
        · exact nk hd
        · rfl
      rw[this, this]
      exact h0
theorem ud {m:Nat}:∀ {n:Nat}, m <= n -> aS all d ρ0 n (fun j => decide (j < m)) = aS all d ρ0 m fun _ => true := by
  have low:∀ k, k <= m -> aS all d ρ0 k (fun j => decide (j < m)) = aS all d ρ0 k fun _ => true := by
    intro k
    induction k with
    | zero => intro _; rfl
    | succ k ih =>
      intro hk
      simp only[aS]
      rw[ih (by omega), QN (by simp; omega)]
      simp
  intro n
  induction n with
  | zero =>
    intro hm
    obtain rfl:m = 0 := by omega
    exact low 0 (by omega)
  | succ n ih =>
    intro hm
    by_cases h:m = n + 1
    · subst h; exact low (n + 1) (by omega)
    · simp only[aS]
      rw[QQ (by simp; omega)]
      exact ih (by omega)
theorem l9 {r:Nat}:∀ {n:Nat}, (∀ j, j < n -> cF (d j) = some r -> D j = D' j) -> aL d g0 n D r = aL d g0 n D' r := by
  intro n
  induction n with
  | zero => intro _; rfl
  | succ n ih =>
    intro h
    have h0 := ih fun j hj => h j (by omega)
    simp only[aL]
    by_cases hd:cF (d n) = some r
    · rw[h n (by omega) hd]
      split
      · exact qY h0
      · exact h0
    · have : ∀ (b : Bool) (g : Nat → Option Blk), (if b = true then cW (d n).e g else g) r = g r := by
        intro b g
        split
        · exact nj hd
        · rfl
      rw[this, this]
      exact h0
theorem ue {m:Nat}:∀ {n:Nat}, m <= n -> aL d g0 n (fun j => decide (j < m)) = aL d g0 m fun _ => true := by
  have low:∀ k, k <= m -> aL d g0 k (fun j => decide (j < m)) = aL d g0 k fun _ => true := by
    intro k
    induction k with
    | zero => intro _; rfl
    | succ k ih =>
      intro hk
      simp only[aL]
      rw[ih (by omega), QN (by simp; omega)]
      simp
  intro n
  induction n with
  | zero =>
    intro hm
    obtain rfl:m = 0 := by omega
    exact low 0 (by omega)
  | succ n ih =>
    intro hm
    by_cases h:m = n + 1
    · subst h; exact low (n + 1) (by omega)
    · simp only[aL]
      rw[QQ (by simp; omega)]
      exact ih (by omega)
theorem oV {r:Nat}:∀ {n:Nat}, (g0 r = g0' r \/ ∃ j, j < n /\ D j = true /\ cF (d j) = some r) -> aL d g0 n D r = aL d g0' n D r := by
  intro n
  induction n with
  | zero =>
    rintro(h | ⟨j, hj, _⟩)
    · exact h
    · omega
  | succ n ih =>
    intro h
    simp only[aL]
    by_cases hD:D n = true
    · rw[QN hD, QN hD]
      by_cases ht:cF (d n) = some r
      · cases he:(d n).e with
        | none => simp [cF, he]at ht
        | some kb =>
          simp only[cF, he, Option.map_some, Option.some.injEq]at ht
          simp only[cW]
          rw[QN ht.symm, QN ht.symm]
      · refine qY (ih ?_)
        rcases h with h | ⟨j, hj, h1, h2⟩
        · exact .inl h
        · by_cases hjn:j = n
          · subst hjn; exact absurd h2 ht
          · exact .inr ⟨j, by omega, h1, h2⟩
    · rw[QQ hD, QQ hD]
      refine ih ?_
      rcases h with h | ⟨j, hj, h1, h2⟩
      · exact .inl h
      · by_cases hjn:j = n
        · subst hjn; exact absurd h1 hD
        · exact .inr ⟨j, by omega, h1, h2⟩
theorem uf {r:Nat}:∀ {n:Nat}, (∀ j, j < n -> D j = true -> cF (d j) ≠ some r) -> aL d g0 n D r = g0 r := by
  intro n
  induction n with
  | zero => intro _; rfl
  | succ n ih =>
    intro h
    simp only[aL]
    split
    · rename_i hD
      rw[nj (h n (by omega) hD)]
      exact ih fun j hj => h j (by omega)
    · exact ih fun j hj => h j (by omega)
def bh (D:Nat -> Bool)(i:Nat):Nat -> Bool := fun j => if j = i then true else D j
theorem ug {i : Nat} (hD : D i = false) : ∀ {n : Nat}, i < n → (∀ j, i < j → j < n → D j = true → ∀ t, eE all i = some t → eE all j ≠ some t) →
    aS all d ρ0 n (bh D i) = ay (aS all d ρ0 n D) (eE all i) (d i).v := by
  intro n
  induction n with
  | zero => intro h; omega
  | succ n ih =>
    intro hi h
    by_cases hin:i = n
    · subst hin
      have h0:aS all d ρ0 i (bh D i) = aS all d ρ0 i D := funext fun t => l8 fun j hj _ => by simp [bh, Tb hj]
      simp only[aS]
      rw[QN (by simp [bh]), QQ (by simp [hD]), h0]
    · have hw:bh D i n = D n := by simp [bh, Ne.symm hin]
      have h0 := ih (by omega) fun j h1 h2 => h j h1 (by omega)
      simp only[aS, hw]
      split
      · rename_i hDn
        rw[h0]
        exact zf (h n (by omega) (by omega) hDn)
      · exact h0
theorem uh {i : Nat} (hD : D i = false) : ∀ {n : Nat}, i < n → (∀ j, i < j → j < n → D j = true → ∀ t, cF (d i) = some t → cF (d j) ≠ some t) →
    aL d g0 n (bh D i) = cW (d i).e (aL d g0 n D) := by
  intro n
  induction n with
  | zero => intro h; omega
  | succ n ih =>
    intro hi h
    by_cases hin:i = n
    · subst hin
      have h0:aL d g0 i (bh D i) = aL d g0 i D := funext fun t => l9 fun j hj _ => by simp [bh, Tb hj]
      simp only[aL]
      rw[QN (by simp [bh]), QQ (by simp [hD]), h0]
    · have hw:bh D i n = D n := by simp [bh, Ne.symm hin]
      have h0 := ih (by omega) fun j h1 h2 => h j h1 (by omega)
      simp only[aL, hw]
      split
      · rename_i hDn
        rw[h0]
        exact EA (h n (by omega) (by omega) hDn)
      · exact h0
theorem mV {m n:Nat}(h:m <= n):av d m <= av d n := by
  induction n with
  | zero =>
    have:m = 0 := by omega
    subst this; exact Nat.le_refl _
  | succ n ih =>
    by_cases hm:m = n + 1
    · subst hm; exact Nat.le_refl _
    · exact Ry (ih (by omega)) (by simp [av])
theorem oW {n c:Nat}(h:c < av d n):∃ j, j < n /\ (d j).al = true /\ av d j = c := by
  induction n with
  | zero => simp [av]at h
  | succ n ih =>
    by_cases hc:c < av d n
    · obtain⟨j, h1, h2⟩ := ih hc
      exact⟨j, by omega, h2⟩
    · simp only[av]at h
      cases hal:(d n).al with
      | false => simp [hal]at h; omega
      | true =>
        simp only[hal, if_true]at h
        exact⟨n, by omega, hal, by omega⟩
theorem iY {i n:Nat}(h:i < n)(hal:(d i).al = true):av d i < av d n := by
  have := mV (d := d) (m := i + 1) (n := n) h
  simp only[av, hal, if_true]at this
  omega
theorem oY {n:Nat}(h:∀ j, j < n -> d j = d' j):aS all d ρ0 n D = aS all d' ρ0 n D := by
  induction n with
  | zero => rfl
  | succ n ih => simp only[aS]; rw[ih fun j hj => h j (by omega), h n (by omega)]
theorem o0 {n:Nat}(h:∀ j, j < n -> d j = d' j):aL d g0 n D = aL d' g0 n D := by
  induction n with
  | zero => rfl
  | succ n ih => simp only[aL]; rw[ih fun j hj => h j (by omega), h n (by omega)]
theorem dN {n:Nat}(h:∀ j, j < n -> d j = d' j):av d n = av d' n := by
  induction n with
  | zero => rfl
  | succ n ih => simp only[av]; rw[ih fun j hj => h j (by omega), h n (by omega)]
end
def ExecOk (P:Program)(G:Nat -> Option (List AVal))(all:Array Oper)(o:Oper)(id:Nat)(s s':St):Prop :=
  (dO all s.ρ o = some false /\ s' = ⟨ay s.ρ o.dst (.lit undef), s.H⟩) \/
  (dO all s.ρ o = some true /\ ∃ v, s'.ρ = ay s.ρ o.dst v /\
    (ae P G s.ρ s.H id o.op = some (v, s'.H) \/
     ∃ fv args ats, o.op = .call ⟨.value fv, args, ats⟩ /\ s'.H = s.H /\ aG P G (af G s.ρ fv) (args.toList.map (af G s.ρ)) s.H fun r H3 => r = .ret v /\ H3 = s.H))
theorem ui {n : Nat} {wb : Base} {rd rb : Option Nat} {all : Array Oper} {o : Oper} {id i : Nat} {s s' : St} {a : Act} {next : Act → World → Prop} {Q' : Exit → Act → World → Prop} (ho : all[i]? = some o) (hd : eC n o = true)
    (hs:RelS P G n wb Γ s a w) (hr:cP Γ s.H rd rb) (h:ExecOk P G all o id s s')
    (hnext:∀ Γ' a' w', RelS P G n wb Γ' s' a' w' -> Evo Γ s.H w Γ' s'.H w' -> s.H.next <= s'.H.next -> cP Γ' s'.H rd rb -> (∃ cv, a' = a.put o.dst cv) -> next a' w'):
    wpOpIn (cU rb) 0 P all Q' i next a w := by
  have hdst:∀ d, o.dst = some d -> d < n := by
    intro d hd'
    unfold eC at hd
    rw[hd']at hd
    simpa using hd
  unfold wpOpIn
  rw[ho]
  simp only
  rcases h with ⟨hw, rfl⟩ | ⟨hw, v, hρ, h⟩
  · rw[mY hs hw]
    simp only[Bool.false_eq_true, if_false]
    refine⟨fun _ _ => trivial, ?_⟩
    have hs' := iK (v := .lit undef) (cv := undef) hs hdst (Evo.refl Γ s.H w) (Nat.le_refl _) hs.heap (.lit _)
    exact hnext Γ _ w hs' (Evo.refl _ _ _) (Nat.le_refl _) hr ⟨_, rfl⟩
  · rw[mY hs hw]
    simp only[if_true]
    obtain⟨ρ', H'⟩ := s'
    simp only at hρ
    subst hρ
    refine⟨fun _ _ => trivial, ?_⟩
    rcases h with hop | ⟨fv, args, ats, hop, hH, hap⟩
    · simp only at hop
      rw[Oper.semAt_eq _ _ _ (fun c hc => by rw[hc]at hop; simp [ae]at hop)]
      obtain⟨nx, cv, Γ', w', hrun, hnx, E, hn, R, hv⟩ := uB hs.heap (fN hs) hop
      rw[hrun]
      have hri := uE hr (uF hs.heap hop)
      have hs' := iK hs hdst E hn R hv
      have hr' := hr.aT E hn hs.heap hri
      rcases hnx with rfl | ⟨rfl, rfl⟩
      · exact hnext Γ' _ w' hs' E hn hr' ⟨_, rfl⟩
      · exact hnext Γ' _ w' hs' E hn hr' ⟨_, rfl⟩
    · simp only at hH
      subst hH
      rw[Oper.semAt_eq _ _ _ (fun c hc => by rw[hc]at hop; cases hop)]
      obtain⟨d, h1, h2⟩ := hap Γ w (a.eval fv) (args.map a.eval) hs.heap (fN hs fv) ⟨by simp, fun i h1 h2 => by simp only[QY, SE, RC]; exact fN hs _⟩
      have hex:(execOp a.eval o).run P w = (invoke d.target d.args).run P w := by
        unfold execOp
        simp only[hop]
        unfold resolve
        simp only
        rw[aj h1]
      have hri:dc s.H rd := by
        cases rd with
        | none => trivial
        | some id =>
          obtain⟨b, st, pend, n, env, ps, asg, body, _, _, h3⟩ := hr
          exact⟨_, _, _, _, _, _, _, h3⟩
      have cont : ∀ e w', fO P G Γ s.H w (fun r H3 => r = .ret v ∧ H3 = s.H) e w' → (match e with
          | .returned v => next (a.put o.dst v) w'
          | .panicked chain => Q' (.panic chain) a w'
          | .outgrown => LetsOut Q') := by
        rintro e w' ⟨r, H', Γ', hend, ⟨rfl, rfl⟩, R, E, hn⟩
        have hr' := hr.aT E hn hs.heap hri
        cases e with
        | returned cv => exact hnext Γ' _ w' (iK hs hdst E hn R hend) E hn hr' ⟨_, rfl⟩
        | panicked chain => exact hend.elim
        | outgrown => exact hend.elim
      rw[hex]
      rcases h2 with ⟨f, as, h3, h4⟩ | ⟨l, f, tm, asg, body, h3, h4⟩ | ⟨cv, w', h3, h4⟩
      · rw[h3]
        refine⟨fun hc => by simp [Fence.wide]at hc, ?_⟩
        have h4':CallsIn (cU rb) 0 P f as w _ := h4
        refine h4'.mono ?_
        intro e w' hp
        have := cont e w' hp
        cases e <;> exact this
      · rw[h3]
        refine⟨fun hc => by simp [Fence.wide]at hc, ?_⟩
        have h4':RoundIn (cU rb) 0 P l f tm asg body w _ := h4
        refine h4'.mono ?_
        intro e w' hp
        have := cont e w' hp
        cases e <;> exact this
      · rw[h3]
        exact cont (.returned cv) w' h4
def jH (d:Nat -> Dt)(H0:AHeap)(m:Nat):AHeap := ⟨aL d H0.get m fun _ => true, H0.next + av d m⟩
def canon (all:Array Oper)(d:Nat -> Dt)(s0:St)(m:Nat):St := ⟨aS all d s0.ρ m fun _ => true, jH d s0.H m⟩
structure GoodAt (P:Program)(G:Nat -> Option (List AVal))(all:Array Oper)(bs:List Nat)(s0:St)(d:Nat -> Dt)(i:Nat):Prop where
  step:∀ o, all[i]? = some o -> ∀ ρ2 H2, (∀ t, t ∈ o.looksAt all -> ρ2 t = (canon all d s0 i).ρ t) -> (∀ r, r ∈ (d i).f.rs -> H2.get r = (canon all d s0 i).H.get r) ->
    ((d i).al = true -> H2.get (s0.H.next + av d i) = some .rsv /\ s0.H.next + av d i ≠ H2.next) -> s0.H.next + av d i <= H2.next ->
    ExecOk P G all o (s0.H.next + av d i) ⟨ρ2, H2⟩ ⟨ay ρ2 o.dst (d i).v, ⟨cW (d i).e H2.get, H2.next⟩⟩
  eff:∀ k b, (d i).e = some (k, b) -> k ∈ (d i).f.eff /\ ((d i).al = false -> k ∈ (d i).f.rs)
  al:(d i).al = true -> ∃ b, (d i).e = some (s0.H.next + av d i, b)
  lt:∀ r, r ∈ (d i).f.rs -> r < s0.H.next + av d i
  apart:∀ j, j < i -> (cI bs i).testBit j = false -> (∀ r, r ∈ (d i).f.eff -> r ∉ (d j).f.rs) /\ (∀ r, r ∈ (d j).f.eff -> r ∉ (d i).f.rs)
theorem nq {all:Array Oper}{o:Oper}{ρ ρ':Env}(h:∀ t, t ∈ o.looksAt all -> ρ' t = ρ t):dO all ρ' o = dO all ρ o := by
  unfold dO
  cases hg:o.guard with
  | none => rfl
  | some gw =>
    obtain⟨j, want⟩ := gw
    simp only
    cases hd:(all[j]?).bind (·.dst) with
    | none => rfl
    | some d =>
      simp only
      rw[h d (by simp [Oper.looksAt, hg, hd])]
theorem qZ {all:Array Oper}{o:Oper}{ρ ρ':Env}(h:∀ t, t ∈ o.looksAt all -> ρ' t = ρ t):∀ x, x ∈ o.op.operands -> af G ρ' x = af G ρ x := by
  intro x hx
  cases x with
  | tmp t => exact h t (So _ (List.mem_filterMap.2 ⟨.tmp t, by simpa using hx, rfl⟩))
  | _ => rfl
def bn (d:Nat -> Dt)(m:Nat)(x:Dt):Nat -> Dt := fun j => if j = m then x else d j
theorem eR {d:Nat -> Dt}{m:Nat}{x:Dt}{i:Nat}(h:i < m):d i = bn d m x i := by simp [bn, Tb h]
theorem bN {d:Nat -> Dt}{m:Nat}{x:Dt}:bn d m x m = x := by simp [bn]
theorem jI {all:Array Oper}{d d':Nat -> Dt}{s0:St}{m:Nat}(h:∀ j, j < m -> d j = d' j):canon all d s0 m = canon all d' s0 m := by
  unfold canon jH
  rw[oY h, o0 h, dN h]
theorem GoodAt.below {all:Array Oper}{bs:List Nat}{s0:St}{d d':Nat -> Dt}{i:Nat}(g:GoodAt P G all bs s0 d i)(h:∀ j, j <= i -> d j = d' j):GoodAt P G all bs s0 d' i := by
  have hi := h i (Nat.le_refl _)
  have hn:av d i = av d' i := dN fun j hj => h j (by omega)
  have hc:canon all d s0 i = canon all d' s0 i := jI fun j hj => h j (by omega)
  obtain⟨a, b, c, e, f⟩ := g
  refine⟨?_, ?_, ?_, ?_, ?_⟩
  · rw[<- hi, <- hn, <- hc]; exact a
  · rw[<- hi]; exact b
  · rw[<- hi, <- hn]; exact c
  · rw[<- hi, <- hn]; exact e
  · intro j hj hb
    rw[<- hi, <- h j (by omega)]
    exact f j hj hb
def iI (d:Nat -> Dt)(m:Nat)(acc:List (Nat × FP)):Prop := ∀ j, j < m -> (d j).f = ⟨[], []⟩ \/ (j, (d j).f) ∈ acc
theorem iI.add {d:Nat -> Dt}{m:Nat}{acc:List (Nat × FP)}(h:iI d m acc)(x:Dt):iI (bn d m x) (m + 1) (eg m x.f acc) := by
  intro j hj
  have key:∀ p, p ∈ acc -> p ∈ eg m x.f acc := by
    intro p hp
    unfold eg
    split
    · exact hp
    · exact RB _ hp
  by_cases hjm:j = m
  · subst hjm
    rw[bN]
    by_cases hf:x.f = ⟨[], []⟩
    · exact .inl hf
    · refine .inr ?_
      unfold eg
      split
      · rename_i h0; exact absurd h0 hf
      · exact RZ
  · rw[<- eR (x := x) (by omega)]
    exact(h j (by omega)).imp id (key _)
theorem o7 {d:Nat -> Dt}{m:Nat}{acc:List (Nat × FP)}{b:Nat}{f:FP}(hc:iI d m acc)(h:fg b f acc):∀ j, j < m -> b.testBit j = false -> (∀ r, r ∈ f.eff -> r ∉ (d j).f.rs) /\ (∀ r, r ∈ (d j).f.eff -> r ∉ f.rs) := by
  intro j hj hb
  rcases hc j hj with h0 | h1
  · rw[h0]
    exact⟨fun r _ h => (by cases h), fun r h => (by cases h)⟩
  · exact h _ h1 hb
theorem ma {all : Array Oper} {d : Nat → Dt} {s0 : St} {m : Nat} {x : Dt} {o : Oper} (ho : all[m]? = some o) :
    canon all (bn d m x) s0 (m + 1) = ⟨ay (canon all d s0 m).ρ o.dst x.v, ⟨cW x.e (canon all d s0 m).H.get, (canon all d s0 m).H.next + (if x.al then 1 else 0)⟩⟩ := by
  have hb:∀ j, j < m -> d j = bn d m x j := fun j hj => eR hj
  unfold canon jH
  simp only[aS, aL, av, if_true, bN]
  rw[<- oY hb, <- o0 hb, <- dN hb]
  simp only[eE, ho, Option.bind_some, SB]
theorem mb {all : Array Oper} {bs : List Nat} {s0 : St} {d : Nat → Dt} {m : Nat} {x : Dt} (hg : ∀ i, i < m → GoodAt P G all bs s0 d i) (hx : GoodAt P G all bs s0 (bn d m x) m) :
    ∀ i, i < m + 1 -> GoodAt P G all bs s0 (bn d m x) i := by
  intro i hi
  by_cases him:i = m
  · subst him; exact hx
  · exact(hg i (by omega)).below fun j hj => eR (by omega)
theorem trace {all : Array Oper} {bs : List Nat} {s0 : St} {tail : St → Prop} {K : Nat} (hbs : bs.length = K) (hK : K ≤ all.size) : ∀ (k m : Nat) (d : Nat → Dt) (acc : List (Nat × FP)), k + m = K →
    (∀ i, i < m -> GoodAt P G all bs s0 d i) -> iI d m acc -> ef (canon all d s0 m).H -> cS P G all tail (bs.drop m) m acc ((all.toList.take K).drop m) (canon all d s0 m) ->
    ∃ d', (∀ i, i < K -> GoodAt P G all bs s0 d' i) /\ tail (canon all d' s0 K) := by
  intro k
  induction k with
  | zero =>
    intro m d acc hm hg hc wf h
    obtain rfl:m = K := by omega
    refine⟨d, hg, ?_⟩
    have:(all.toList.take m).drop m = [] := by
      apply To
      simp only[QV]
      omega
    rw[this]at h
    cases hb:bs.drop m with
    | nil => rw[hb]at h; simpa only[cS] using h
    | cons b bs' => rw[hb]at h; simpa only[cS] using h
  | succ k ih =>
    intro m d acc hm hg hc wf h
    have hmK:m < K := by omega
    have hms:m < all.size := by omega
    have ho:all[m]? = some all[m] := QS hms
    have hbm:bs.drop m = cI bs m :: bs.drop (m + 1) := by
      rw[Rv (by omega)]
      congr 1
      simp [cI, QK (show m < bs.length by omega)]
    have hom:(all.toList.take K).drop m = all[m] :: (all.toList.take K).drop (m + 1) := by
      rw[Rv (by simp only[QV, Sa]; omega)]
      congr 1
      simp
    rw[hbm, hom]at h
    simp only[cS]at h
    obtain⟨t, ht, h⟩ := h
    have hnext:(canon all d s0 m).H.next = s0.H.next + av d m := rfl
    cases t with
    | false =>
      simp only[Bool.false_eq_true, if_false]at h
      let x:Dt := ⟨.lit undef, none, false, ⟨[], []⟩⟩
      have hb:∀ j, j < m -> d j = bn d m x j := fun j hj => eR hj
      have hcan:canon all (bn d m x) s0 (m + 1) = ⟨ay (canon all d s0 m).ρ all[m].dst (.lit undef), (canon all d s0 m).H⟩ := ma ho
      have hgx:GoodAt P G all bs s0 (bn d m x) m := by
        refine⟨?_, ?_, ?_, ?_, ?_⟩
        · rw[bN, <- jI hb]
          intro o ho' ρ2 H2 h1 h2 h3 _
          rw[ho]at ho'
          cases ho'
          refine .inl ⟨?_, rfl⟩
          simp only
          rw[nq h1, ht]
        · rw[bN]; intro k b he; cases he
        · rw[bN]; intro he; cases he
        · rw[bN]; intro r hr; cases hr
        · rw[bN]
          intro j hj hbit
          exact⟨fun r hr => (by cases hr), fun r hr hr' => (by cases hr')⟩
      refine ih (m + 1) (bn d m x) acc (by omega) (mb hg hgx) (hc.add x) ?_ ?_
      · rw[hcan]; exact wf
      · rw[hcan]; exact h
    | true =>
      simp only[if_true]at h
      unfold bE at h
      split at h
      · rename_i fv args ats hop
        obtain⟨v, rs, ⟨hlt, hcall⟩, hap, h⟩ := h
        let x:Dt := ⟨v, none, false, ⟨[], rs⟩⟩
        have hb:∀ j, j < m -> d j = bn d m x j := fun j hj => eR hj
        have hcan:canon all (bn d m x) s0 (m + 1) = ⟨ay (canon all d s0 m).ρ all[m].dst v, (canon all d s0 m).H⟩ := ma ho
        have hgx:GoodAt P G all bs s0 (bn d m x) m := by
          refine⟨?_, ?_, ?_, ?_, ?_⟩
          · rw[bN, <- jI hb]
            intro o ho' ρ2 H2 h1 h2 h3 h4
            rw[ho]at ho'
            cases ho'
            refine .inr ⟨?_, v, rfl, .inr ⟨fv, args, ats, hop, rfl, ?_⟩⟩
            · simp only
              rw[nq h1, ht]
            · have hev := qZ (G := G) h1
              have e1:af G ρ2 fv = af G (canon all d s0 m).ρ fv := hev fv (by simp [hop, Op.operands, Call.operands])
              have e2:args.toList.map (af G ρ2) = args.toList.map (af G (canon all d s0 m).ρ) :=
                Rm fun y hy => hev y (by simp only[hop, Op.operands, Call.operands]; simp; exact .inr (by simpa using hy))
              simp only
              rw[e1, e2]
              exact hcall H2 h2 (by rw[hnext, dN hb]; exact h4)
          · rw[bN]; intro k b he; cases he
          · rw[bN]; intro he; cases he
          · rw[bN, <- dN hb]; exact hlt
          · rw[bN]
            intro j hj hbit
            rw[<- eR hj]
            exact o7 hc hap j hj hbit
        refine ih (m + 1) (bn d m x) _ (by omega) (mb hg hgx) (hc.add x) ?_ ?_
        · rw[hcan]; exact wf
        · rw[hcan]; exact h
      · obtain⟨⟨v, H'⟩, hop, hap, h⟩ := h
        obtain⟨e, al, hget, hnx, heff, hal, hlt, hloc⟩ := uK wf hop
        let x:Dt := ⟨v, e, al, aY P G (canon all d s0 m).ρ (canon all d s0 m).H.next all[m].op⟩
        have hb:∀ j, j < m -> d j = bn d m x j := fun j hj => eR hj
        have hcan:canon all (bn d m x) s0 (m + 1) = ⟨ay (canon all d s0 m).ρ all[m].dst v, H'⟩ := by
          rw[ma ho]
          congr 1
          cases H'
          simp only at hget hnx
          simp only[AHeap.mk.injEq]
          refine⟨hget.symm, ?_⟩
          rw[hnx]
          simp only[x]
          cases al <;> simp
        have hgx:GoodAt P G all bs s0 (bn d m x) m := by
          refine⟨?_, ?_, ?_, ?_, ?_⟩
          · rw[bN, <- jI hb, <- dN hb]
            intro o ho' ρ2 H2 h1 h2 h3 h4
            rw[ho]at ho'
            cases ho'
            refine .inr ⟨?_, v, rfl, .inl ?_⟩
            · simp only
              rw[nq h1, ht]
            · simp only
              rw[ze (ρ' := (canon all d s0 m).ρ) (qZ h1)]
              exact hloc H2 h2 h3
          · rw[bN]; exact heff
          · rw[bN, <- dN hb]; exact hal
          · rw[bN, <- dN hb]; exact hlt
          · rw[bN]
            intro j hj hbit
            rw[<- eR hj]
            exact o7 hc hap j hj hbit
        have wf':ef H' := by
          intro id b hid
          rw[hget]at hid
          rw[hnx]
          cases e with
          | none =>
            have := wf id b hid
            split <;> omega
          | some kb =>
            obtain⟨k0, b0⟩ := kb
            simp only[cW]at hid
            split at hid
            · rename_i hk
              subst hk
              cases al with
              | true =>
                obtain⟨b1, hb1⟩ := hal rfl
                simp only[Option.some.injEq, Prod.mk.injEq]at hb1
                simp only[if_true]
                omega
              | false =>
                have := hlt _ ((heff id b0 rfl).2 rfl)
                simpa using this
            · have := wf id b hid
              split <;> omega
        refine ih (m + 1) (bn d m x) _ (by omega) (mb hg hgx) (hc.add x) ?_ ?_
        · rw[hcan]; exact wf'
        · rw[hcan]; exact h
end Go.Hx
namespace Go.Hx
variable {P:Program} {G:Nat -> Option (List AVal)} {Γ Γ':au} {H H':AHeap} {w w':World}
structure Static (all:Array Oper)(bs:List Nat)(K:Nat):Prop where
  len:bs.length = K
  le:K <= all.size
  down:∀ i o, all[i]? = some o -> ∀ e, e ∈ o.after -> Region.binds .any e = true -> e.on < i
  just:∀ i o j, all[i]? = some o -> (if i < K then (cI bs i).testBit j = true else j < i) -> ∃ e, e ∈ o.after /\ Region.binds .any e = true /\ (e.on = j \/ (if e.on < K then (cI bs e.on).testBit j = true else j < e.on))
  apart:∀ i j oi oj, i < K -> j < i -> all[i]? = some oi -> all[j]? = some oj -> (cI bs i).testBit j = false -> qW all oj oi = true
theorem zB {o:Oper}{k:Nat}:k ∈ qT o ↔ ∃ e, e ∈ o.after /\ Region.binds .any e = true /\ e.on = k := by
  simp [qT, and_assoc]
theorem zC {bs : List Nat} {K N i j : Nat} (hl : bs.length = K) (hi : i < N) (hK : K ≤ N) :
    (cI (bs ++ (List.range' K (N - K)).map fun m => 2 ^ m - 1) i).testBit j = true ↔ (if i < K then (cI bs i).testBit j = true else j < i) := by
  unfold cI
  by_cases h:i < K
  · rw[QN h, Q0 (by omega)]
  · rw[QQ h, Q2 (by omega), List.getElem?_map, List.getElem?_range' (by omega)]
    simp only[Option.map_some, Option.getD_some, RM, decide_eq_true_eq]
    have:K + 1 * (i - bs.length) = i := by omega
    rw[this]
theorem zD {all:Array Oper}{bs:List Nat}{K:Nat}(h:pt all bs K = true):Static all bs K := by
  unfold pt at h
  simp only[Q7, decide_eq_true_eq, Rd, QW]at h
  obtain⟨⟨⟨hlen, hle⟩, hone⟩, hap⟩ := h
  have hlt:∀ i o, all[i]? = some o -> i < all.size := fun i o ho => (RT.1 ho).1
  have hdown:∀ i o, all[i]? = some o -> ∀ e, e ∈ o.after -> Region.binds .any e = true -> e.on < i := by
    intro i o ho e he hb
    have h1 := hone i (hlt i o ho)
    rw[ho]at h1
    simp only[uL, Q7, Rd, decide_eq_true_eq]at h1
    exact h1.1.1 e.on (zB.2 ⟨e, he, hb, rfl⟩)
  refine⟨hlen, hle, hdown, ?_, ?_⟩
  · intro i o j ho hj
    have hi := hlt i o ho
    have h1 := hone i hi
    rw[ho]at h1
    simp only[uL, Q7, Rd, decide_eq_true_eq, QW]at h1
    obtain⟨⟨_, hb⟩, h2⟩ := h1
    have hbit := (zC (j := j) hlen hi hle).2 hj
    have hji:j < i := by
      rcases Q3 j i with h | h
      · exact h
      · have := SS (QU hb (Rb (by omega) h))
        rw[hbit]at this
        cases this
    have h3 := h2 j hji
    rw[hbit]at h3
    simp only[Bool.not_true, TY, List.any_eq_true, RE, beq_iff_eq]at h3
    obtain⟨k, hk, h4⟩ := h3
    obtain⟨e, he, hbe, rfl⟩ := zB.1 hk
    refine⟨e, he, hbe, h4.imp id fun h5 => ?_⟩
    exact(zC (j := j) hlen (Nat.lt_trans (hdown i o ho e he hbe) hi) hle).1 h5
  · intro i j oi oj hi hj hoi hoj hbit
    have h1 := hap i hi
    rw[hoi]at h1
    simp only[Rd, QW]at h1
    have h2 := h1 j hj
    rw[hbit, hoj]at h2
    simpa using h2
theorem zE {x:Option Tmp}{l:List Tmp}{t:Tmp}(h:qU x l = true)(hx:x = some t):t ∉ l := by
  subst hx
  simpa [qU] using h
theorem nE {all:Array Oper}{x y:Oper}(h:qW all x y = true):(∀ t, x.dst = some t -> t ∉ y.looksAt all) /\ (∀ t, y.dst = some t -> t ∉ x.looksAt all) /\ (∀ t, x.dst = some t -> y.dst ≠ some t) := by
  simp only[qW, Q7]at h
  obtain⟨⟨h1, h2⟩, h3⟩ := h
  refine⟨fun t ht => zE h1 ht, fun t ht => zE h2 ht, fun t ht => ?_⟩
  rw[ht]at h3
  simpa using h3
def rp (all:Array Oper)(L:Nat -> Bool):Prop := ∀ i o, L i = true -> all[i]? = some o -> ∀ e, e ∈ o.after -> Region.binds .any e = true -> L e.on = true
theorem Static.ahead {all : Array Oper} {bs : List Nat} {K : Nat} (S : Static all bs K) {L : Nat → Bool} (hL : rp all L) : ∀ i o j, all[i]? = some o → (∀ e, e ∈ o.after → Region.binds .any e = true → L e.on = true) →
    (if i < K then (cI bs i).testBit j = true else j < i) -> L j = true := by
  intro i
  induction i using Nat.strongRecOn with
  | _ i ih =>
    intro o j ho hdir hj
    obtain⟨e, he, hb, h⟩ := S.just i o j ho hj
    have hon := hdir e he hb
    rcases h with rfl | h
    · exact hon
    · have hlt := S.down i o ho e he hb
      have hi := (RT.1 ho).1
      exact ih e.on hlt all[e.on] j (QS (by omega)) (hL e.on _ hon (QS (by omega))) h
def bf (H:AHeap)(k:Nat):AHeap := ⟨fun j => if H.next <= j /\ j < H.next + k then some .rsv else H.get j, H.next + k⟩
theorem px (H:AHeap)(k:Nat):Evo Γ H w Γ (bf H k) w where
  os := rfl
  tape := rfl
  output := rfl
  size := Nat.le_refl _
  keep := fun _ _ h => ⟨rfl, h⟩
  live := fun id h1 _ x' hx => by
    refine⟨x', ?_, Blk.le_refl _ _ _⟩
    simp only[bf]at hx
    rw[QQ (by omega)]at hx
    exact hx
  frz := fun _ _ => rfl
theorem nF (w:World):Evo Γ H w Γ H { w with drawn := w.drawn + 1 } where
  os := rfl
  tape := rfl
  output := rfl
  size := Nat.le_refl _
  keep := fun _ _ h => ⟨rfl, h⟩
  live := fun _ _ _ x' hx => ⟨x', hx, Blk.le_refl _ _ _⟩
  frz := fun _ _ => rfl
theorem RelH.move (R:RelH P G Γ H w)(hheap:w'.heap = w.heap)(E:Evo Γ H w Γ H' w')(hn:H.next <= H'.next)(hget:∀ id b, H'.get id = some b -> H.get id = some b \/ (b = .rsv /\ H.get id = none /\ id < H'.next))(hsame:∀ id b, H.get id = some b -> H'.get id = some b):RelH P G Γ H' w' where
  arr id g e cells hg := by
    rcases hget _ _ hg with h | h
    · have h1 := R.arr id g e cells h
      cases hΓ:Γ id with
      | none => rw[hΓ]at h1; exact h1
      | some y =>
        obtain⟨b, base, n⟩ := y
        rw[hΓ]at h1
        obtain⟨c, a1, a2, a3, a4⟩ := h1
        exact⟨c, by rw[hheap]; exact a1, a2, a3, fun i hi => let ⟨cv, b1, b2⟩ := a4 i hi; ⟨cv, b1, b2.aT E hn⟩⟩
    · cases h.1
  loop id st pend n env ps asg body hg := by
    rcases hget _ _ hg with h | h
    · obtain⟨b, rr, a1, a2, a3, a4, a5, a6, a7, a8, a9⟩ := R.loop id st pend n env ps asg body h
      exact⟨b, rr, a1, by rw[hheap]; exact a2, a3, a4, a5, a6, a7, a8, fun t ht => (a9 t ht).aT E hn⟩
    · cases h.1
  mp id es hg := by
    rcases hget _ _ hg with h | h
    · obtain⟨b, a1, a2⟩ := R.mp id es h
      exact⟨b, a1, by rw[hheap]; exact a2⟩
    · cases h.1
  rsv id hg := by
    rcases hget _ _ hg with h | h
    · exact R.rsv id h
    · cases hΓ:Γ id with
      | none => rfl
      | some x =>
        obtain⟨y, hy⟩ := R.dom id x hΓ
        rw[h.2.1]at hy
        cases hy
  inj := R.inj
  dom id x h := let ⟨y, hy⟩ := R.dom id x h; ⟨y, hsame _ _ hy⟩
  lt id b base n h := by rw[hheap]; exact R.lt id b base n h
  next id y h := by
    rcases hget _ _ h with h | h
    · exact QU (R.next id y h) hn
    · exact h.2.2
  glob g cells h := (R.glob g cells h).aT E hn
  gsz := R.mI E
theorem zF (R:RelH P G Γ H w)(k:Nat):RelH P G Γ (bf H k) w := by
  have hnone:∀ id, H.next <= id -> H.get id = none := by
    intro id h
    cases hg:H.get id with
    | none => rfl
    | some y => have := R.next id y hg; omega
  refine R.move rfl (px H k) (by simp [bf]) (fun id b hb => ?_) (fun id b hb => ?_)
  · simp only[bf]at hb
    split at hb
    · rename_i hc
      simp only[Option.some.injEq]at hb
      exact .inr ⟨hb.symm, hnone id hc.1, hc.2⟩
    · exact .inl hb
  · simp only[bf]
    rw[QQ]
    · exact hb
    · have := R.next id b hb; omega
theorem RelS.move {n:Nat}{wb:Base}{s:St}{a:Act}(hs:RelS P G n wb Γ s a w){H':AHeap}(E:Evo Γ s.H w Γ H' w')(hn:s.H.next <= H'.next)(R:RelH P G Γ H' w'):RelS P G n wb Γ ⟨s.ρ, H'⟩ a w' :=
  ⟨hs.size, fun t => (hs.env t).aT E hn, R, hs.defers.aT E, Ry hs.low E.size⟩
theorem cP.move {rd rb:Option Nat}(h:cP Γ H rd rb)(hk:∀ id b, H.get id = some b -> H'.get id = some b):cP Γ H' rd rb := by
  cases rd with
  | none => exact h
  | some id =>
    obtain⟨b, st, pend, n, env, ps, asg, body, h1, h2, h3⟩ := h
    exact⟨b, _, _, _, _, _, _, _, h1, h2, hk _ _ h3⟩
def di (all:Array Oper)(d:Nat -> Dt)(s0:St)(K:Nat)(D:Nat -> Bool):St :=
  ⟨aS all d s0.ρ K D, ⟨aL d (bf s0.H (av d K)).get K D, s0.H.next + av d K⟩⟩
theorem kK {all:Array Oper}{j:Nat}{o:Oper}(h:all[j]? = some o):eE all j = o.dst := by simp [eE, h]
theorem uj {all : Array Oper} {bs : List Nat} {K : Nat} (S : Static all bs K) {d : Nat → Dt} {s0 : St} (hg : ∀ i, i < K → GoodAt P G all bs s0 d i) {D : Nat → Bool} {i : Nat} {o : Oper} (hi : i < K) (ho : all[i]? = some o) (hDi : D i = false)
    (hdown:∀ j, j < i -> (cI bs i).testBit j = true -> D j = true) (hup:∀ j, i < j -> j < K -> D j = true -> (cI bs j).testBit i = false):
    ExecOk P G all o (s0.H.next + av d i) (di all d s0 K D) (di all d s0 K (bh D i)) := by
  have hget:∀ j, j < K -> ∃ oj, all[j]? = some oj := fun j hj => ⟨_, QS (QU hj S.le)⟩
  have hgi := hg i hi
  have tgtE:∀ j r, j < K -> cF (d j) = some r -> r ∈ (d j).f.eff /\ (((d j).al = true /\ r = s0.H.next + av d j) \/ ((d j).al = false /\ r ∈ (d j).f.rs)) := by
    intro j r hj ht
    unfold cF at ht
    cases he:(d j).e with
    | none => rw[he]at ht; cases ht
    | some kb =>
      obtain⟨k, b⟩ := kb
      rw[he]at ht
      simp only[Option.map_some, Option.some.injEq]at ht
      subst ht
      obtain⟨h1, h2⟩ := (hg j hj).eff k b he
      refine⟨h1, ?_⟩
      cases hal:(d j).al with
      | true =>
        obtain⟨b', hb'⟩ := (hg j hj).al hal
        rw[he]at hb'
        simp only[Option.some.injEq, Prod.mk.injEq]at hb'
        exact .inl ⟨rfl, hb'.1⟩
      | false => exact .inr ⟨rfl, h2 hal⟩
  have rangeK:∀ r, r < s0.H.next + av d i -> ((bf s0.H (av d K)).get r = s0.H.get r \/ ∃ j, j < i /\ (fun _:Nat => true) j = true /\ cF (d j) = some r) := by
    intro r hr
    by_cases h:s0.H.next <= r
    · obtain⟨j, h1, h2, h3⟩ := oW (d := d) (n := i) (c := r - s0.H.next) (by omega)
      obtain⟨b, hb⟩ := (hg j (by omega)).al h2
      refine .inr ⟨j, h1, rfl, ?_⟩
      unfold cF
      rw[hb, h3]
      simp only[Option.map_some, Option.some.injEq]
      omega
    · left
      simp only[bf]
      rw[QQ (by omega)]
  have henv:∀ t, t ∈ o.looksAt all -> aS all d s0.ρ K D t = (canon all d s0 i).ρ t := by
    intro t ht
    show _ = aS all d s0.ρ i (fun _ => true) t
    rw[<- ud (all := all) (d := d) (ρ0 := s0.ρ) (m := i) (n := K) (by omega)]
    refine l8 fun j hj hdj => ?_
    obtain⟨oj, hoj⟩ := hget j hj
    rw[kK hoj]at hdj
    rcases Sq j i with h | rfl | h
    · cases hb:(cI bs i).testBit j with
      | true => rw[hdown j h hb]; simp [h]
      | false => exact absurd ht ((nE (S.apart i j o oj hi h ho hoj hb)).1 t hdj)
    · rw[hDi]; simp
    · cases hD:D j with
      | false => symm; simp; omega
      | true => exact absurd ht ((nE (S.apart j i oj o hj h hoj ho (hup j h hj hD))).2.1 t hdj)
  have hheap:∀ r, r ∈ (d i).f.rs -> aL d (bf s0.H (av d K)).get K D r = (canon all d s0 i).H.get r := by
    intro r hr
    show _ = aL d s0.H.get i (fun _ => true) r
    rw[<- oV (g0 := (bf s0.H (av d K)).get) (rangeK r (hgi.lt r hr)), <- ue (m := i) (n := K) (by omega)]
    refine l9 fun j hj ht => ?_
    obtain⟨he, _⟩ := tgtE j r hj ht
    rcases Sq j i with h | rfl | h
    · cases hb:(cI bs i).testBit j with
      | true => rw[hdown j h hb]; simp [h]
      | false => exact absurd hr ((hgi.apart j h hb).2 r he)
    · rw[hDi]; simp
    · cases hD:D j with
      | false => symm; simp; omega
      | true => exact absurd hr (((hg j hj).apart i h (hup j h hj hD)).1 r he)
  have hal:(d i).al = true -> aL d (bf s0.H (av d K)).get K D (s0.H.next + av d i) = some .rsv /\ s0.H.next + av d i ≠ s0.H.next + av d K := by
    intro hal
    have hlt := iY hi hal
    refine⟨?_, by omega⟩
    obtain⟨b, hb⟩ := hgi.al hal
    have heff := (hgi.eff _ _ hb).1
    rw[uf]
    · simp only[bf]
      rw[QN (by omega)]
    · intro j hj hD ht
      obtain⟨h1, h2⟩ := tgtE j _ hj ht
      rcases Sq j i with h | rfl | h
      · rcases h2 with ⟨h2, h3⟩ | ⟨h2, h3⟩
        · have := iY h h2; omega
        · have := (hg j hj).lt _ h3
          have := mV (d := d) (TG h)
          omega
      · rw[hDi]at hD; cases hD
      · rcases h2 with ⟨h2, h3⟩ | ⟨h2, h3⟩
        · have := iY h hal; omega
        · exact absurd h3 (((hg j hj).apart i h (hup j h hj hD)).2 _ heff)
  have := hgi.step o ho (aS all d s0.ρ K D) ⟨aL d (bf s0.H (av d K)).get K D, s0.H.next + av d K⟩ henv hheap hal (by have := mV (d := d) (TG hi); simp only; omega)
  have e1:aS all d s0.ρ K (bh D i) = ay (aS all d s0.ρ K D) o.dst (d i).v := by
    rw[ug hDi hi, kK ho]
    intro j h hj hD t hti
    obtain⟨oj, hoj⟩ := hget j hj
    rw[kK ho]at hti
    rw[kK hoj]
    exact(nE (S.apart j i oj o hj h hoj ho (hup j h hj hD))).2.2 t hti
  have e2:aL d (bf s0.H (av d K)).get K (bh D i) = cW (d i).e (aL d (bf s0.H (av d K)).get K D) := by
    refine uh hDi hi fun j h hj hD r hti htj => ?_
    obtain⟨a1, a2⟩ := tgtE i r hi hti
    obtain⟨b1, b2⟩ := tgtE j r hj htj
    obtain⟨c1, c2⟩ := (hg j hj).apart i h (hup j h hj hD)
    rcases b2 with ⟨b2, b3⟩ | ⟨b2, b3⟩
    · rcases a2 with ⟨a2, a3⟩ | ⟨a2, a3⟩
      · have := iY h a2; omega
      · exact c1 r b1 a3
    · exact c2 r a1 b3
  unfold di
  rw[e1, e2]
  exact this
theorem pa {all:Array Oper}{bs:List Nat}{K:Nat}{d:Nat -> Dt}{s0:St}(hg:∀ i, i < K -> GoodAt P G all bs s0 d i){D:Nat -> Bool}(hD:∀ j, j < K -> D j = true):di all d s0 K D = canon all d s0 K := by
  unfold di canon jH
  have e1:aS all d s0.ρ K D = aS all d s0.ρ K fun _ => true := funext fun t => l8 fun j hj _ => hD j hj
  have e2:aL d (bf s0.H (av d K)).get K D = aL d s0.H.get K fun _ => true := by
    funext r
    rw[l9 (D' := fun _ => true) fun j hj _ => hD j hj]
    refine oV ?_
    by_cases h:s0.H.next <= r /\ r < s0.H.next + av d K
    · obtain⟨j, h1, h2, h3⟩ := oW (d := d) (n := K) (c := r - s0.H.next) (by omega)
      obtain⟨b, hb⟩ := (hg j h1).al h2
      refine .inr ⟨j, h1, rfl, ?_⟩
      unfold cF
      rw[hb, h3]
      simp only[Option.map_some, Option.some.injEq]
      omega
    · left
      simp only[bf]
      rw[QQ h]
  rw[e1, e2]
theorem uk {all:Array Oper}{K:Nat}{d:Nat -> Dt}{s0:St}{D:Nat -> Bool}(hD:∀ j, j < K -> D j = false):di all d s0 K D = ⟨s0.ρ, bf s0.H (av d K)⟩ := by
  unfold di
  have e1:∀ n, n <= K -> aS all d s0.ρ n D = s0.ρ := by
    intro n
    induction n with
    | zero => intro _; rfl
    | succ n ih => intro h; simp only[aS]; rw[QQ (by simp [hD n h])]; exact ih (by omega)
  have e2:∀ n, n <= K -> aL d (bf s0.H (av d K)).get n D = (bf s0.H (av d K)).get := by
    intro n
    induction n with
    | zero => intro _; rfl
    | succ n ih => intro h; simp only[aL]; rw[QQ (by simp [hD n h])]; exact ih (by omega)
  rw[e1 K (Nat.le_refl _), e2 K (Nat.le_refl _)]
  rfl
end Go.Hx
namespace Go.Hx
variable {P:Program} {G:Nat -> Option (List AVal)} {Γ Γ':au} {H H':AHeap} {w w':World}
def dG (listed:Array Bool):Nat -> Nat
  | 0 => 0
  | n + 1 => dG listed n + (if listed.getD n true = false then 1 else 0)
theorem uO {listed:Array Bool}{i:Nat}(hi:listed.getD i true = false):∀ n, dG (listed.setIfInBounds i true) n + (if i < n then 1 else 0) = dG listed n := by
  have hsz:i < listed.size := by
    rcases Q3 i listed.size with h | h
    · exact h
    · rw[Ro, RK h]at hi; cases hi
  intro n
  induction n with
  | zero => simp [dG]
  | succ n ih =>
    simp only[dG]
    by_cases hin:n = i
    · subst hin
      have:(listed.setIfInBounds n true).getD n true = true := by simp [hsz]
      have h2:(if n < n then 1 else 0) = 0 := QQ (Sv n)
      have h3:(if n < n + 1 then 1 else 0) = 1 := QN (Tm n)
      rw[h2]at ih
      rw[this, h3, hi]
      simp
      omega
    · rw[getD_set_ne true (Ne.symm hin)]
      have h4:(if i < n + 1 then 1 else 0) = (if i < n then 1 else 0) := by
        by_cases h:i < n
        · rw[QN h, QN (show i < n + 1 by omega)]
        · rw[QQ h, QQ (show ¬ i < n + 1 by omega)]
      rw[h4]
      generalize (if i < n then 1 else 0) = x at ih ⊢
      omega
theorem rq {listed:Array Bool}{n:Nat}(h:dG listed n = 0):∀ j, j < n -> listed.getD j true = true := by
  induction n with
  | zero => intro j hj; omega
  | succ n ih =>
    simp only[dG]at h
    intro j hj
    by_cases hjn:j = n
    · subst hjn
      cases hl:listed.getD j true with
      | true => rfl
      | false => rw[hl]at h; simp at h
    · exact ih (by omega) j (by omega)
theorem zG {n:Nat}:∀ m, m <= n -> dG (Array.replicate n false) m = m := by
  intro m
  induction m with
  | zero => intro _; rfl
  | succ m ih =>
    intro h
    simp only[dG]
    rw[ih (by omega), QN]
    rw[Ro, SN, QN (by omega)]
    rfl
theorem mg {listed:Array Bool}{i:Nat}(h:i < listed.size)(x y:Bool):listed.getD i x = listed.getD i y := by
  simp [Ro, QS h]
section
variable {n:Nat} {wb:Base} {rd rb:Option Nat} {Q:AX -> St -> Prop} {all:Array Oper} {bs:List Nat} {K:Nat} {id:Nat} {dr:Bool}
theorem ru (S : Static all bs K) (hfit : ∀ o, o ∈ all.toList → eC n o = true) : ∀ (r m : Nat) (listed : Array Bool) (s : St) (Γ : au) (a : Act) (w : World), r + m = all.size → K ≤ m → listed.size = all.size → dG listed all.size = r →
    (∀ j, j < all.size -> (listed.getD j true = true ↔ j < m)) -> cK P G rd Q all (all.toList.drop m) s -> RelS P G n wb Γ s a w -> cP Γ s.H rd rb ->
    ∀ (Q':Exit -> Act -> World -> Prop), (∀ e a' w', fb P G n wb rd rb (wr (.region id all dr)) Γ s.H a w Q e a' w' -> Q' e a' w') -> wpAnyIn (cU rb) 0 P .any all Q' r listed a w := by
  intro r
  induction r with
  | zero =>
    intro m listed s Γ a w hm hKm hsz hc hl h hs hr Q' hq
    have:all.toList.drop m = [] := To (by simp; omega)
    rw[this]at h
    refine⟨?_, hq _ _ _ (.here (x := .normal) trivial h hs hr)⟩
    rw[List.eq_nil_iff_forall_not_mem]
    intro j hj
    obtain⟨h1, o, ho, _⟩ := mem_ready.1 hj
    have hjs := (RT.1 ho).1
    rw[(hl j hjs).2 (by omega)]at h1
    cases h1
  | succ r ih =>
    intro m listed s Γ a w hm hKm hsz hc hl h hs hr Q' hq
    have hms:m < all.size := by omega
    have ho:all[m]? = some all[m] := QS hms
    have hmun:listed.getD m true = false := by
      cases hx:listed.getD m true with
      | false => rfl
      | true => have := (hl m hms).1 hx; omega
    have hready:m ∈ Region.ready .any all listed := by
      refine mem_ready.2 ⟨hmun, _, ho, fun e he hb => ?_⟩
      have := S.down m _ ho e he hb
      rw[mg (by omega) false true]
      exact(hl e.on (by omega)).2 this
    refine⟨fun h0 => (by rw[h0]at hready; cases hready), fun i hi => ?_⟩
    obtain⟨hiun, oi, hoi, hall⟩ := mem_ready.1 hi
    have his := (RT.1 hoi).1
    have him:m <= i := by
      rcases Q3 i m with h | h
      · rw[(hl i his).2 h]at hiun; cases hiun
      · exact h
    have hL:rp all fun j => listed.getD j false := by
      intro k ok hk hok e he hb
      have hks := (RT.1 hok).1
      have h1 := S.down k ok hok e he hb
      simp only at hk ⊢
      rw[mg (by omega) false true]at hk ⊢
      have := (hl k hks).1 hk
      exact(hl _ (by omega)).2 (by omega)
    have hieq:i = m := by
      rcases Q3 m i with h | h
      · have h1 := S.ahead hL i oi m hoi hall (by rw[QQ (by omega)]; exact h)
        rw[mg (by omega) false true, hmun]at h1
        cases h1
      · omega
    subst hieq
    have hlist:all.toList.drop i = all[i] :: all.toList.drop (i + 1) := by
      rw[Rv (by simpa using hms)]
      simp
    rw[hlist]at h
    simp only[cK]at h
    have hl':∀ j, j < all.size -> ((listed.setIfInBounds i true).getD j true = true ↔ j < i + 1) := by
      intro j hj
      by_cases hji:j = i
      · subst hji
        simp
      · rw[getD_set_ne true (Ne.symm hji), hl j hj]
        omega
    have hc':dG (listed.setIfInBounds i true) all.size = r := by
      have := uO hmun all.size
      rw[QN hms]at this
      omega
    have hd := hfit all[i] (by simp)
    obtain⟨t, ht, h⟩ := h
    unfold wpOpIn
    rw[ho]
    simp only
    rw[mY hs ht]
    cases t with
    | true =>
      simp only[if_true]at h ⊢
      refine yX hd hs hr h ?_ ?_
      · rintro Γ' s' a' w' hk hs' E hn hr' ⟨cv, rfl⟩
        exact ih (i + 1) _ s' Γ' _ w' (by omega) (by omega) (by simpa using hsz) hc' hl' hk hs' hr' Q' fun e a'' w'' hp => hq _ _ _ (hp.step E hn (mZ hms cv) fun _ h => h)
      · rintro Γ' s' a' w' chain hp hc hs' E hn hr' rfl
        exact hq _ _ _ ⟨.panic, s', Γ', hc, hp, hs', E, hn, hr', .refl _ _⟩
    | false =>
      simp only[Bool.false_eq_true, if_false]at h ⊢
      refine⟨fun _ _ => trivial, ?_⟩
      have hdst:∀ d, all[i].dst = some d -> d < n := by
        intro d hd'
        unfold eC at hd
        rw[hd']at hd
        simpa using hd
      have hs' := iK (v := .lit undef) (cv := undef) hs hdst (Evo.refl Γ s.H w) (Nat.le_refl _) hs.heap (.lit _)
      exact ih (i + 1) _ ⟨ay s.ρ all[i].dst (.lit undef), s.H⟩ Γ _ w (by omega) (by omega) (by simpa using hsz) hc' hl' h hs' hr Q' fun e a'' w'' hp => hq _ _ _ (hp.step (Evo.refl _ _ _) (Nat.le_refl _) (mZ hms _) fun _ h => h)
theorem um (S : Static all bs K) (hfit : ∀ o, o ∈ all.toList → eC n o = true) {d : Nat → Dt} {s0 : St} (hg : ∀ i, i < K → GoodAt P G all bs s0 d i) (htail : cK P G rd Q all (all.toList.drop K) (canon all d s0 K)) :
    ∀ (r:Nat) (listed:Array Bool) (D:Nat -> Bool) (Γ:au) (a:Act) (w:World), listed.size = all.size -> dG listed all.size = r -> (∀ j, j < all.size -> listed.getD j true = D j) -> (∀ j, D j = true -> j < K) -> rp all D ->
    RelS P G n wb Γ (di all d s0 K D) a w -> cP Γ (di all d s0 K D).H rd rb ->
    ∀ (Q':Exit -> Act -> World -> Prop), (∀ e a' w', fb P G n wb rd rb (wr (.region id all dr)) Γ (di all d s0 K D).H a w Q e a' w' -> Q' e a' w') -> wpAnyIn (cU rb) 0 P .any all Q' r listed a w := by
  intro r
  induction r with
  | zero =>
    intro listed D Γ a w hsz hc hl hlow hL hs hr Q' hq
    have hall:∀ j, j < K -> D j = true := fun j hj => by rw[<- hl j (QU hj S.le)]; exact rq hc j (QU hj S.le)
    have hKs:K = all.size := by
      rcases Q3 K all.size with h | h
      · have h1 := rq hc K h
        rw[hl K h]at h1
        have := hlow K h1
        omega
      · have := S.le; omega
    rw[pa hg hall]at hs hr hq
    exact ru S hfit 0 K listed _ Γ a w (by omega) (Nat.le_refl _) hsz hc (fun j hj => by rw[hl j hj]; exact⟨hlow j, hall j⟩) htail hs hr Q' hq
  | succ r ih =>
    intro listed D Γ a w hsz hc hl hlow hL hs hr Q' hq
    by_cases hall:∀ j, j < K -> D j = true
    · rw[pa hg hall]at hs hr hq
      have hcount:∀ m, m <= all.size -> dG listed m = m - K := by
        intro m
        induction m with
        | zero => intro _; simp [dG]
        | succ m ihm =>
          intro hm
          simp only[dG]
          rw[ihm (by omega), hl m (by omega)]
          by_cases hmK:m < K
          · rw[hall m hmK]; simp; omega
          · have : D m = false := by
              cases hD:D m with
              | false => rfl
              | true => exact absurd (hlow m hD) hmK
            rw[this]
            simp
            omega
      have h1 := hcount all.size (Nat.le_refl _)
      exact ru S hfit (r + 1) K listed _ Γ a w (by have := S.le; omega) (Nat.le_refl _) hsz hc (fun j hj => by rw[hl j hj]; exact⟨hlow j, hall j⟩) htail hs hr Q' hq
    · have hex : ∃ j, j < K ∧ D j = false := by
        by_cases h:∃ j, j < K /\ D j = false
        · exact h
        · refine absurd (fun j hj => ?_) hall
          cases hD:D j with
          | true => rfl
          | false => exact absurd ⟨j, hj, hD⟩ h
      have least:∀ k, (∃ j, j < k /\ j < K /\ D j = false) -> ∃ j, j < K /\ D j = false /\ ∀ i, i < j -> D i = true := by
        intro k
        induction k with
        | zero => rintro⟨j, hj, _⟩; omega
        | succ k ihk =>
          rintro⟨j, h1, h2, h3⟩
          by_cases h:∃ j, j < k /\ j < K /\ D j = false
          · exact ihk h
          · refine⟨j, h2, h3, fun i hi => ?_⟩
            cases hD:D i with
            | true => rfl
            | false => exact absurd ⟨i, by omega, by omega, hD⟩ h
      obtain⟨j0, hj0K, hj0, hbelow⟩ := least K (let ⟨j, h1, h2⟩ := hex; ⟨j, h1, h1, h2⟩)
      have hj0s:j0 < all.size := QU hj0K S.le
      have hr0:j0 ∈ Region.ready .any all listed := by
        refine mem_ready.2 ⟨by rw[hl j0 hj0s]; exact hj0, _, QS hj0s, fun e he hb => ?_⟩
        have hlt := S.down j0 _ (QS hj0s) e he hb
        rw[mg (by omega) false true, hl e.on (by omega)]
        exact hbelow _ hlt
      refine⟨fun h0 => (by rw[h0]at hr0; cases hr0), fun i hi => ?_⟩
      obtain⟨hiun, oi, hoi, hdir⟩ := mem_ready.1 hi
      have his := (RT.1 hoi).1
      have hdirD:∀ e, e ∈ oi.after -> Region.binds .any e = true -> D e.on = true := fun e he hb => by
        have := S.down i oi hoi e he hb
        rw[<- hl e.on (by omega), <- mg (by omega) false true]
        exact hdir e he hb
      have hahead := S.ahead hL i oi
      have hiK:i < K := by
        rcases Q3 i K with h | h
        · exact h
        · have := hahead j0 hoi hdirD (by rw[QQ (by omega)]; omega)
          rw[hj0]at this; cases this
      have hDi:D i = false := by rw[<- hl i his]; exact hiun
      have hex := uj (P := P) (G := G) S hg hiK hoi hDi (fun j hj hb => hahead j hoi hdirD (by rw[QN hiK]; exact hb)) (fun j h1 h2 hD => by
        cases hb:(cI bs j).testBit i with
        | false => rfl
        | true =>
          have hjs:j < all.size := QU h2 S.le
          have := S.ahead hL j _ i (QS hjs) (fun e he hbe => hL j _ hD (QS hjs) e he hbe) (by rw[QN h2]; exact hb)
          rw[hDi]at this; cases this)
      have hoi':oi = all[i] := by
        rw[QS his]at hoi
        exact(Option.some.inj hoi).symm
      refine ui hoi (hfit oi (by rw[hoi']; simp)) hs hr hex ?_
      rintro Γ' a' w' hs' E hn hr' ⟨cv, rfl⟩
      have hc':dG (listed.setIfInBounds i true) all.size = r := by
        have := uO hiun all.size
        rw[QN his]at this
        omega
      refine ih (listed.setIfInBounds i true) (bh D i) Γ' _ w' (by simpa using hsz) hc' ?_ ?_ ?_ hs' hr' Q' fun e a'' w'' hp => hq _ _ _ (hp.step E hn (by rw[hoi']; exact mZ his cv) fun _ h => h)
      · intro j hj
        by_cases hji:j = i
        · subst hji; simp [bh]
        · rw[getD_set_ne true (Ne.symm hji), hl j hj]; simp [bh, hji]
      · intro j hj
        by_cases hji:j = i
        · subst hji; exact hiK
        · simp only[bh, QQ hji]at hj; exact hlow j hj
      · intro k ok hk hok e he hb
        by_cases hki:k = i
        · subst hki
          rw[hoi]at hok
          cases hok
          have := hdirD e he hb
          simp only[bh]
          split
          · rfl
          · exact this
        · simp only[bh, QQ hki]at hk
          have := hL k ok hk hok e he hb
          simp only[bh]
          split
          · rfl
          · exact this
theorem W.draw {s : St} (K : Nat) (bs : List Nat) (hm : P.follows .mixedOrders = true) (hfit : all.toList.all (eC n) = true) (hst : pt all bs K = true)
    (h:cS P G all (cK P G rd Q all (all.toList.drop K)) bs 0 [] (all.toList.take K) s):W P G n rd (.region id all true) Q s := by
  intro wb Γ a w rb hs hr
  have S := zD hst
  have hfit':∀ o, o ∈ all.toList -> eC n o = true := fun o ho => Rd.1 hfit o ho
  have wf:ef s.H := fun id b hb => hs.heap.next id b hb
  have hcan0:canon all (fun _ => ⟨.lit undef, none, false, ⟨[], []⟩⟩) s 0 = s := rfl
  obtain⟨d, hg, htail⟩ := trace (P := P) (G := G) (all := all) (bs := bs) (s0 := s) (tail := cK P G rd Q all (all.toList.drop K)) S.len S.le K 0 (fun _ => ⟨.lit undef, none, false, ⟨[], []⟩⟩) [] (by omega)
    (fun i hi => by omega) (fun j hj => by omega) (by rw[hcan0]; exact wf) (by rw[hcan0]; exact h)
  refine wpIn_region_any hm ?_
  let w1:World := { w with drawn := w.drawn + 1 }
  have R1:RelH P G Γ s.H w1 := hs.heap.move rfl (nF w) (Nat.le_refl _) (fun id b hb => .inl hb) fun id b hb => hb
  have hs1:RelS P G n wb Γ s a w1 := hs.move (nF w) (Nat.le_refl _) R1
  have hs2:RelS P G n wb Γ ⟨s.ρ, bf s.H (av d K)⟩ a w1 := hs1.move (px _ _) (by simp [bf]) (zF R1 _)
  have hr2:cP Γ (bf s.H (av d K)) rd rb := hr.move fun id b hb => by
    simp only[bf]
    rw[QQ]
    · exact hb
    · have := hs.heap.next id b hb; omega
  have e0:di all d s K (fun _ => false) = ⟨s.ρ, bf s.H (av d K)⟩ := uk fun _ _ => rfl
  refine um (wb := wb) (id := id) (dr := true) S hfit' hg htail all.size _ (fun _ => false) Γ a w1 (by simp) (zG _ (Nat.le_refl _)) ?_ ?_ ?_ ?_ ?_ _ ?_
  · intro j hj
    rw[Ro, SN, QN hj]
    rfl
  · intro j hj; cases hj
  · intro i o hi; cases hi
  · rw[e0]; exact hs2
  · rw[e0]; exact hr2
  · rw[e0]
    intro e a' w' hp
    refine hp.step ?_ (by simp [bf]) (.refl _ _) fun _ h => h
    exact Evo.trans (nF w) (Nat.le_refl _) (px _ _)
end
end Go.Hx
namespace Go.Hx
variable {P:Program} {G:Nat -> Option (List AVal)}
theorem kJ {α:Type}(a:α)(K:α -> Prop):aP (some a) K = K a := by simp [aP]
theorem re {α:Type}(K:α -> Prop):aP none K = False := by simp [aP]
theorem uM {α β:Type}(o:Option α)(f:α -> Option β)(K:β -> Prop):aP (o.bind f) K = aP o fun a => aP (f a) K := by
  cases o <;> simp [aP]
theorem eF {α β:Type}(o:Option α)(f:α -> β)(K:β -> Prop):aP (o.map f) K = aP o fun a => K (f a) := by
  cases o <;> simp [aP]
theorem zg {α:Type}(c:Prop)[Decidable c](a:Option α)(K:α -> Prop):aP (if c then a else none) K = (c /\ aP a K) := by
  by_cases h:c <;> simp [h, aP]
theorem rf {α:Type}{o:Option α}{K K':α -> Prop}(h:∀ a, K a = K' a):aP o K = aP o K' := by
  have:K = K' := funext h
  subst this
  rfl
theorem EB (p q:Prop):fy true p q = p := by simp [fy]
theorem EC (p q:Prop):fy false p q = q := by simp [fy]
theorem fy.mk {t:Bool}{p q:Prop}(h1:t = true -> p)(h2:t = false -> q):fy t p q := ⟨h1, h2⟩
theorem ED {f:FuncId}{args args':List AVal}{H H':AHeap}{K:ARes -> AHeap -> Prop}(h2:args = args')(h3:H = H'):ah P G f args H K = ah P G f args' H' K := by
  rw[h2, h3]
theorem EF {n:Nat}{rd:Option Nat}{c:Code}{Q:AX -> St -> Prop}{s s':St}(h:s = s'):W P G n rd c Q s = W P G n rd c Q s' := by rw[h]
attribute [congr] ED EF
theorem EG (K:St -> Prop)(Q:AX -> St -> Prop)(s:St):gE K Q .normal s = K s := (rfl)
theorem EI (K:St -> Prop)(Q:AX -> St -> Prop)(i:Nat)(s:St):gE K Q (.exit i) s = Q (.exit i) s := (rfl)
theorem EJ (K:St -> Prop)(Q:AX -> St -> Prop)(i:Nat)(s:St):gE K Q (.goto i) s = Q (.goto i) s := (rfl)
theorem EK (K:St -> Prop)(Q:AX -> St -> Prop)(s:St):gE K Q .ret s = Q .ret s := (rfl)
theorem EL (K:St -> Prop)(Q:AX -> St -> Prop)(s:St):gE K Q .panic s = Q .panic s := (rfl)
theorem EM (i:Nat)(Q:AX -> St -> Prop)(s:St):jK i Q .normal s = Q .normal s := (rfl)
theorem EN (i j:Nat)(Q:AX -> St -> Prop)(s:St):jK i Q (.exit j) s = if j = i then Q .normal s else Q (.exit j) s := (rfl)
theorem EO (i j:Nat)(Q:AX -> St -> Prop)(s:St):jK i Q (.goto j) s = Q (.goto j) s := (rfl)
theorem ER (i:Nat)(Q:AX -> St -> Prop)(s:St):jK i Q .ret s = Q .ret s := (rfl)
theorem ES (i:Nat)(Q:AX -> St -> Prop)(s:St):jK i Q .panic s = Q .panic s := (rfl)
theorem ET (Q:AX -> St -> Prop)(s:St):md Q .normal s = Q .normal s := (rfl)
theorem EU (i:Nat)(Q:AX -> St -> Prop)(s:St):md Q (.exit i) s = Q (.exit i) s := (rfl)
theorem EV (Q:AX -> St -> Prop)(s:St):md Q .ret s = Q .ret s := (rfl)
theorem EW (Q:AX -> St -> Prop)(s:St):md Q .panic s = Q .panic s := (rfl)
section code
variable {n:Nat} {rd:Option Nat} {Q:AX -> St -> Prop} {s:St}
theorem EX:vc P G n rd .skip Q s = Q .normal s := (rfl)
theorem EY (l:Nat):vc P G n rd (.label l) Q s = Q .normal s := (rfl)
theorem EZ (id:Nat)(ops:Array Oper):vc P G n rd (.region id ops false) Q s = cK P G rd Q ops ops.toList s := (rfl)
theorem Fa (id:Nat)(ops:Array Oper):vc P G n rd (.region id ops true) Q s = W P G n rd (.region id ops true) Q s := (rfl)
theorem Fb (a b:Code):vc P G n rd (.seq a b) Q s = vc P G n rd a (gE (vc P G n rd b Q) Q) s := (rfl)
theorem Fc (id:Nat)(c:Code):vc P G n rd (.block id c) Q s = vc P G n rd c (jK id Q) s := (rfl)
theorem Fe (c:Code):vc P G n rd (.loop c) Q s = W P G n rd (.loop c) Q s := (rfl)
theorem Ff (f:Operand)(ps:Array Tmp)(asg c:Code):vc P G n rd (.rangeFunc f ps asg c) Q s = W P G n rd (.rangeFunc f ps asg c) Q s := (rfl)
theorem Fg (i:Nat):vc P G n rd (.exit i) Q s = Q (.exit i) s := (rfl)
theorem Fh (c:Code):vc P G n rd (.scope c) Q s = vc P G n rd c (md Q) s := (rfl)
theorem Fi (i:Nat):vc P G n rd (.goto i) Q s = Q (.goto i) s := (rfl)
theorem Fj:vc P G n rd .ret Q s = Q .ret s := (rfl)
def zh:AVal -> Option Bool
  | .lit (.bool t) => some t
  | _ => none
theorem Fk (t:Bool):zh (.lit (.bool t)) = some t := rfl
theorem Fl (c:Operand)(a b:Code):vc P G n rd (.cond c a b) Q s = aP (zh (af G s.ρ c)) fun t => fy t (vc P G n rd a Q s) (vc P G n rd b Q s) := by
  simp only[vc]
  congr 1
end code
theorem Fm (ρ:Env)(t:Tmp):af G ρ (.tmp t) = ρ t := rfl
theorem Fo (ρ:Env)(v:Value):af G ρ (.const v) = .lit v := rfl
theorem Fp (ρ:Env)(f:FuncId):af G ρ (.func f) = .clo f [] [] := rfl
theorem Fq (ρ:Env)(d:Tmp)(v:AVal)(t:Tmp):ay ρ (some d) v t = if t = d then v else ρ t := rfl
theorem Fs (ρ:Env)(v:AVal):ay ρ none v = ρ := rfl
theorem Ft (ws:Nat)(ρ ρ₀:Env)(t:Nat):mask ws ρ ρ₀ t = if ws / 2 ^ t % 2 = 1 then ρ t else ρ₀ t := rfl
def iv:AVal -> Int
  | .lit (.int _ n) => n
  | _ => 0
theorem cL (k:IntKind)(n:Int):iv (.lit (.int k n)) = n := rfl
theorem uN (l:List AVal)(t:Nat):fA l t = (l[t]?).getD (.lit undef) := rfl
theorem Fu (rs:List ResultVar)(H:AHeap)(K:ARes -> AHeap -> Prop)(s:St):pq P G rs H K .ret s = aP (dF P s.H s.ρ rs) fun vs => az P G H K (fP vs) s.H := (rfl)
theorem Fv (rs:List ResultVar)(H:AHeap)(K:ARes -> AHeap -> Prop)(s:St):pq P G rs H K .normal s = aP (dF P s.H s.ρ rs) fun vs => az P G H K (fP vs) s.H := (rfl)
theorem Fw (H:AHeap)(ρ:Env):dF P H ρ [] = some [] := rfl
theorem Fx (H:AHeap)(ρ:Env)(t:Tmp)(r:List ResultVar):dF P H ρ (.tmp t :: r) = (dF P H ρ r).map (ρ t :: ·) := rfl
theorem Fy (H:AHeap)(ρ:Env)(a:Tmp)(t:TypeId)(r:List ResultVar):dF P H ρ (.cell a t :: r) = (ee P H t (ρ a)).bind fun v => (dF P H ρ r).map (v :: ·) := rfl
theorem FA (v:AVal):fP [v] = v := rfl
theorem FB (v u:AVal)(r:List AVal):fP (v :: u :: r) = .tup (v :: u :: r) := rfl
theorem FC:fP [] = .tup [] := rfl
section ops
variable {rd:Option Nat} {Q:AX -> St -> Prop} {K:St -> Prop} {s:St} {d:Option Tmp} {ty:TypeId} {pos:String} {aft:Array Edge} {g:Option (Nat × Bool)}
theorem FD (all:Array Oper):cK P G rd Q all [] s = Q .normal s := (rfl)
theorem FE (all:Array Oper)(op:Op)(rest:List Oper):cK P G rd Q all (⟨d, op, ty, pos, aft, none⟩ :: rest) s = aC P G rd Q ⟨d, op, ty, pos, aft, none⟩ (cK P G rd Q all rest) s := by
  simp [cK, dO, kJ]
theorem FF (all : Array Oper) (op : Op) (rest : List Oper) (j : Nat) (want : Bool) : cK P G rd Q all (⟨d, op, ty, pos, aft, some (j, want)⟩ :: rest) s =
    aP (dO all s.ρ ⟨d, op, ty, pos, aft, some (j, want)⟩) fun t => if t = true then aC P G rd Q ⟨d, op, ty, pos, aft, some (j, want)⟩ (cK P G rd Q all rest) s else cK P G rd Q all rest ⟨ay s.ρ d (.lit undef), s.H⟩ := (rfl)
def FG (P:Program)(G:Nat -> Option (List AVal))(fv:AVal)(args:List AVal)(H:AHeap)(K:ARes -> AHeap -> Prop)(_d:TagR K := .mk):Prop := aG P G fv args H K
theorem FH (fv : Operand) (args : Array Operand) (ats : Array TypeId) : aC P G rd Q ⟨d, .call ⟨.value fv, args, ats⟩, ty, pos, aft, g⟩ K s =
    FG P G (af G s.ρ fv) (args.toList.map (af G s.ρ)) s.H fun r H' => dc H' rd /\ match r with
      | .ret v => K ⟨ay s.ρ d v, H'⟩
      | .panic => Q .panic ⟨s.ρ, H'⟩ := (rfl)
theorem FI (x:Operand):aC P G rd Q ⟨d, .panic x, ty, pos, aft, g⟩ K s = ((∃ t v, (af G s.ρ x) = .lit (.iface t v)) /\ Q .panic s) := (rfl)
theorem FJ (x:Operand):aC P G rd Q ⟨d, .move x, ty, pos, aft, g⟩ K s = K ⟨ay s.ρ d (af G s.ρ x), s.H⟩ := by simp [aC, ae, kJ]
theorem FK (x:Operand):aC P G rd Q ⟨d, .assign x, ty, pos, aft, g⟩ K s = K ⟨ay s.ρ d (af G s.ρ x), s.H⟩ := by simp [aC, ae, kJ]
theorem FL (c a b:Operand):aC P G rd Q ⟨d, .pick c a b, ty, pos, aft, g⟩ K s = aP (match af G s.ρ c with | .lit (.bool t) => some t | _ => none) fun t => K ⟨ay s.ρ d (if t then af G s.ρ a else af G s.ρ b), s.H⟩ := by
  simp only[aC, ae]
  split <;> simp_all [kJ, re]
theorem FM (e:TypeId):aC P G rd Q ⟨d, .alloc e, ty, pos, aft, g⟩ K s = aP (bH P e) fun z => aP (s.H.lay s.H.next (.arr 0 e z)) fun H' => K ⟨ay s.ρ d (.ptr s.H.next 0 0), H'⟩ := by
  simp only[aC, ae, uM]
  exact rf fun _ => eF ..
theorem FN (e:TypeId)(x:Operand):aC P G rd Q ⟨d, .box e x, ty, pos, aft, g⟩ K s = aP (s.H.lay s.H.next (.arr 0 e (af G s.ρ x).cells)) fun H' => K ⟨ay s.ρ d (.ptr s.H.next 0 0), H'⟩ := by
  simp [aC, ae, eF]
theorem FO (t:TypeId)(parts:Array (Nat × Operand)):aC P G rd Q ⟨d, .build t parts, ty, pos, aft, g⟩ K s = aP (mR P t (parts.toList.map fun p => (p.1, af G s.ρ p.2))) fun v => K ⟨ay s.ρ d v, s.H⟩ := by
  simp [aC, ae, eF]
theorem FQ (t : TypeId) (len : Nat) (parts : Array (Nat × Operand)) : aC P G rd Q ⟨d, .buildSlice t len parts, ty, pos, aft, g⟩ K s =
    aP (iF P s.H s.H.next t len (parts.toList.map fun p => (p.1, af G s.ρ p.2))) fun vH => K ⟨ay s.ρ d vH.1, vH.2⟩ := by
  simp [aC, ae]
theorem FR (t:TypeId)(a:Operand):aC P G rd Q ⟨d, .load t a, ty, pos, aft, g⟩ K s = aP (ee P s.H t (af G s.ρ a)) fun v => K ⟨ay s.ρ d v, s.H⟩ := by
  simp [aC, ae, eF]
theorem FS (t:TypeId)(a x:Operand):aC P G rd Q ⟨d, .store t a x, ty, pos, aft, g⟩ K s = ((P.underlying t).isSome = true /\ aP (fM P s.H t (af G s.ρ a) (af G s.ρ x)) fun H' => K ⟨ay s.ρ d (.lit undef), H'⟩) := by
  simp [aC, ae, zg, eF]
theorem FT (x:Operand):aC P G rd Q ⟨d, .nilCheck x, ty, pos, aft, g⟩ K s = aP (iH s.H (af G s.ρ x)) fun v => K ⟨ay s.ρ d v, s.H⟩ := by
  simp [aC, ae, eF]
theorem FU (op : BinOp) (t : TypeId) (x y : Operand) (u : TypeId) : aC P G rd Q ⟨d, .binOp op t x y u, ty, pos, aft, g⟩ K s =
    pj P op t (gF s.H op (af G s.ρ x) (af G s.ρ y)) (fun v => K ⟨ay s.ρ d v, s.H⟩) (aP (aZ P op t x y (af G s.ρ x) (af G s.ρ y)) fun v => K ⟨ay s.ρ d v, s.H⟩) := by
  simp [aC, ae, eF]
theorem FV (op:BinOp)(t:TypeId)(Kb:AVal -> Prop)(p:Prop):pj P op t none Kb p = p := rfl
theorem FW (op:BinOp)(t:TypeId)(k:Bool)(Kb:AVal -> Prop)(p:Prop):pj P op t (some k) Kb p = (jM (P.underlying t) = true /\ ∀ b:Bool, (k = true -> b = false) -> Kb (.lit (.bool (if op == .neq then !b else b)))) := rfl
theorem FX (e:TypeId):jM (some (.slice e)) = true := rfl
theorem FY (H:AHeap)(op:BinOp)(v:Value)(y:AVal):gF H op (.lit v) y = none := by
  unfold gF
  split <;> rfl
theorem FZ (H:AHeap)(n:Nat)(cells:List AVal):gF H .eql (.vec n cells) (.lit (.slice none 0 0)) = some (decide (0 < n)) := rfl
theorem F0 (H:AHeap)(n:Nat)(cells:List AVal):gF H .neq (.vec n cells) (.lit (.slice none 0 0)) = some (decide (0 < n)) := rfl
theorem F1:(BinOp.eql == BinOp.neq) = false := rfl
theorem F4:(BinOp.neq == BinOp.neq) = true := rfl
theorem F5 (op:UnOp)(t:TypeId)(x:Operand):aC P G rd Q ⟨d, .unOp op t x, ty, pos, aft, g⟩ K s = aP (oT P op (af G s.ρ x)) fun v => K ⟨ay s.ρ d v, s.H⟩ := by
  simp [aC, ae, eF]
theorem F6 (a b:TypeId)(x:Operand):aC P G rd Q ⟨d, .convert a b x, ty, pos, aft, g⟩ K s = aP (iG P s.H a b (af G s.ρ x)) fun v => K ⟨ay s.ρ d v, s.H⟩ := by
  simp [aC, ae, eF]
theorem F7 (f:FuncId)(first cap:Array Operand):aC P G rd Q ⟨d, .makeFunc (.func f) first cap, ty, pos, aft, g⟩ K s = K ⟨ay s.ρ d (.clo f (first.toList.map (af G s.ρ)) (cap.toList.map (af G s.ρ))), s.H⟩ := by
  simp [aC, ae, kJ]
theorem F8 (t:TypeId)(l c:Operand):aC P G rd Q ⟨d, .makeSlice t l c, ty, pos, aft, g⟩ K s = aP (ie P s.H s.H.next t (af G s.ρ l) (af G s.ρ c)) fun vH => K ⟨ay s.ρ d vH.1, vH.2⟩ := by
  simp [aC, ae]
theorem F9 (t : TypeId) (x : Operand) (lo hi : Option Operand) : aC P G rd Q ⟨d, .slice t x lo hi none, ty, pos, aft, g⟩ K s =
    aP (jE P s.H t (af G s.ρ x) (lo.map (af G s.ρ)) (hi.map (af G s.ρ))) fun v => K ⟨ay s.ρ d v, s.H⟩ := by
  simp [aC, ae, eF]
def nt (P:Program)(H:AHeap)(s:TypeId)(f:Nat)(x:AVal):Option AVal :=
  (bW P s f).bind fun of => match x with
    | .ptr id gen off => (H.live id gen).map fun _ => .ptr id gen (off + of.1)
    | .vptr cells off => some (.vptr cells (off + of.1))
    | _ => none
theorem Ga (t:TypeId)(x:Operand)(f:Nat):aC P G rd Q ⟨d, .fieldAddr t x f, ty, pos, aft, g⟩ K s = aP (nt P s.H t f (af G s.ρ x)) fun v => K ⟨ay s.ρ d v, s.H⟩ := by
  simp only[aC, ae, nt, uM]
  refine rf fun of => ?_
  split <;> simp_all [re, eF, kJ]
def zi (P:Program)(t:TypeId)(f:Nat)(x:AVal):Option AVal :=
  (bW P t f).bind fun of => match x with
    | .agg cells => dL P of.2 cells of.1
    | .lit (.agg cs) => dL P of.2 (cs.toList.map .lit) of.1
    | _ => none
def nu (P:Program)(H:AHeap)(t:TypeId)(x i:AVal):Option AVal := match i with
  | .lit (.int _ i) => ky P H t x i
  | _ => none
theorem Gb (t:TypeId)(x i:Operand):aC P G rd Q ⟨d, .indexAddr t x i, ty, pos, aft, g⟩ K s = aP (nu P s.H t (af G s.ρ x) (af G s.ρ i)) fun v => K ⟨ay s.ρ d v, s.H⟩ := by
  simp only[aC, ae, nu]
  split <;> simp_all [re, eF]
theorem Gc (t:TypeId)(x i:Operand):aC P G rd Q ⟨d, .index t x i, ty, pos, aft, g⟩ K s = aP (kD P t (af G s.ρ x) (af G s.ρ i)) fun v => K ⟨ay s.ρ d v, s.H⟩ := by
  simp [aC, ae, eF]
theorem Gd (t:Operand)(i:Nat):aC P G rd Q ⟨d, .extract t i, ty, pos, aft, g⟩ K s = aP (jG (af G s.ρ t) i) fun v => K ⟨ay s.ρ d v, s.H⟩ := by
  simp [aC, ae, eF]
theorem Ge (b : Builtin) (args : Array Operand) (ats : Array TypeId) : aC P G rd Q ⟨d, .call ⟨.builtin b, args, ats⟩, ty, pos, aft, g⟩ K s =
    aP (eZ P s.H s.H.next b ats.toList (args.toList.map (af G s.ρ))) fun vH => K ⟨ay s.ρ d vH.1, vH.2⟩ := by
  simp [aC, ae]
end ops
theorem builtin_len (H:AHeap)(id:Nat)(t:TypeId)(x:AVal):eZ P H id .len [t] [x] = (jF P H t x).map fun v => (v, H) := rfl
theorem builtin_append (H:AHeap)(id:Nat)(t u:TypeId)(s x:AVal):eZ P H id .append [t, u] [s, x] = bC P H id t u s x := rfl
theorem builtin_copy (H:AHeap)(id:Nat)(t u:TypeId)(s x:AVal):eZ P H id .copy [t, u] [s, x] = iV P H t s x := rfl
theorem builtin_min (H:AHeap)(id:Nat)(ts:List TypeId)(k:IntKind)(a b:Int):eZ P H id .min ts [.lit (.int k a), .lit (.int k b)] = some (.lit (.int k (if b < a then b else a)), H) := by
  cases ts with
  | nil => rfl
  | cons t ts => rfl
section nums
variable {t:TypeId} {x y:Operand} {k:IntKind} {a b:Int}
theorem zj:aZ P .add t x y (.lit (.int k a)) (.lit (.int k b)) = some (.lit (.int k (k.wrap (a + b)))) := by
  simp [aZ, AVal.bG, eqGuard, binOp, Op.intArith, bM, bind, Sem.bind, pure]
theorem zk:aZ P .sub t x y (.lit (.int k a)) (.lit (.int k b)) = some (.lit (.int k (k.wrap (a - b)))) := by
  simp [aZ, AVal.bG, eqGuard, binOp, Op.intArith, bM, bind, Sem.bind, pure]
theorem zm:aZ P .mul t x y (.lit (.int k a)) (.lit (.int k b)) = some (.lit (.int k (k.wrap (a * b)))) := by
  simp [aZ, AVal.bG, eqGuard, binOp, Op.intArith, bM, bind, Sem.bind, pure]
theorem Gf:aZ P .quo t x y (.lit (.int k a)) (.lit (.int k b)) = if b ≠ 0 then some (.lit (.int k (k.wrap (a.tdiv b)))) else none := by
  by_cases h:b = 0 <;> simp [h, aZ, AVal.bG, eqGuard, binOp, Op.intDiv, runtimePanic, program, goPanic, bM, bind, Sem.bind, pure]
theorem Gg:aZ P .rem t x y (.lit (.int k a)) (.lit (.int k b)) = if b ≠ 0 then some (.lit (.int k (a.tmod b))) else none := by
  by_cases h:b = 0 <;> simp [h, aZ, AVal.bG, eqGuard, binOp, Op.intDiv, runtimePanic, program, goPanic, bM, bind, Sem.bind, pure]
theorem zp:aZ P .lss t x y (.lit (.int k a)) (.lit (.int k b)) = some (.lit (.bool (decide (a < b)))) := by
  simp [aZ, AVal.bG, eqGuard, binOp, Op.intCmp, bM, bind, Sem.bind, pure]
theorem zq:aZ P .leq t x y (.lit (.int k a)) (.lit (.int k b)) = some (.lit (.bool (decide (a <= b)))) := by
  simp [aZ, AVal.bG, eqGuard, binOp, Op.intCmp, bM, bind, Sem.bind, pure]
theorem zr:aZ P .gtr t x y (.lit (.int k a)) (.lit (.int k b)) = some (.lit (.bool (decide (b < a)))) := by
  simp [aZ, AVal.bG, eqGuard, binOp, Op.intCmp, bM, bind, Sem.bind, pure]
theorem zu:aZ P .geq t x y (.lit (.int k a)) (.lit (.int k b)) = some (.lit (.bool (decide (b <= a)))) := by
  simp [aZ, AVal.bG, eqGuard, binOp, Op.intCmp, bM, bind, Sem.bind, pure]
theorem zw:aZ P .eql t x y (.lit (.int k a)) (.lit (.int k b)) = some (.lit (.bool (decide (a = b)))) := by
  simp [aZ, AVal.bG, eqGuard, binOp, Op.intCmp, bM, bind, Sem.bind, pure]
  rfl
theorem zx:aZ P .neq t x y (.lit (.int k a)) (.lit (.int k b)) = some (.lit (.bool (!decide (a = b)))) := by
  simp [aZ, AVal.bG, eqGuard, binOp, Op.intCmp, bM, bind, Sem.bind, pure]
  rfl
theorem Gh (v:Bool):oT P .not (.lit (.bool v)) = some (.lit (.bool (!v))) := rfl
theorem Gi (H:AHeap)(s d:TypeId)(v:Value):iG P H s d (.lit v) = iX P s d (.lit v) := rfl
theorem Gj (H:AHeap)(s d:TypeId)(c:List AVal):iG P H s d (.agg c) = iX P s d (.agg c) := rfl
theorem Gk {s d:TypeId}{k':IntKind}(hs:(P.underlying s).isSome = true)(hd:P.underlying d = some (.int k')):iX P s d (.lit (.int k a)) = some (.lit (.int k' (k'.wrap a))) := by
  obtain⟨ds, hs⟩ := Rp.1 hs
  simp only[iX, AVal.bG]
  have:bM P (convert s d (.int k a)) = some (.int k' (k'.wrap a)) := by
    simp [convert, underlying, program, hs, hd, bM, bind, Sem.bind, pure, Conv.intToInt]
  rw[this]
  rfl
end nums
def ext (H:AHeap)(L:List Blk):AHeap :=
  { get := fun j => if H.next <= j /\ j < H.next + L.length then L[j - H.next]? else H.get j, next := H.next + L.length }
theorem dk (H:AHeap)(L:List Blk):(ext H L).next = H.next + L.length := rfl
theorem rj (H:AHeap)(b:Blk):H.lay H.next b = some (ext H [b]) := by
  unfold AHeap.lay ext
  rw[QN rfl]
  congr 2
  funext j
  by_cases h:j = H.next
  · subst h; simp
  · rw[QQ h, QQ]
    simp only[List.length_cons, List.length_nil]
    omega
theorem zy (H:AHeap)(L:List Blk)(b:Blk):(ext H L).lay (H.next + L.length) b = some (ext H (L ++ [b])) := by
  unfold AHeap.lay
  rw[QN (dk H L).symm]
  unfold ext
  congr 2
  · funext j
    simp only[List.length_append, List.length_cons, List.length_nil]
    by_cases h:j = H.next + L.length
    · subst h
      rw[QN rfl, QN (by omega), Tk]
      simp
    · rw[QQ h]
      by_cases h2:H.next <= j /\ j < H.next + L.length
      · rw[QN h2, QN (by omega), Q0 (by omega)]
      · rw[QQ h2, QQ (by omega)]
  · simp only[List.length_append, List.length_cons, List.length_nil]; omega
theorem Gl (H:AHeap)(L:List Blk)(i:Nat)(b:Blk)(h:L.length = i):(ext H L).lay (H.next + i) b = some (ext H (L ++ [b])) := by subst h; exact zy H L b
theorem bP (H:AHeap)(L:List Blk)(i:Nat)(h:i < L.length):(ext H L).get (H.next + i) = L[i]? := by
  unfold ext
  simp only
  rw[QN (by omega), Tk]
theorem jN (H:AHeap)(L:List Blk)(i:Nat)(h:i < H.next):(ext H L).get i = H.get i := by
  unfold ext
  simp only
  rw[QQ (by omega)]
theorem zz (H:AHeap)(L:List Blk)(i:Nat)(b:Blk)(h:i < L.length):(ext H L).upd (H.next + i) b = ext H (L.set i b) := by
  unfold ext AHeap.upd
  simp only[Q8]
  congr 1
  funext j
  by_cases hj:j = H.next + i
  · subst hj
    rw[QN rfl, QN (by omega), Tk, Rj h]
  · rw[QQ hj]
    by_cases h2:H.next <= j /\ j < H.next + L.length
    · rw[QN h2, QN h2, Rl (by omega)]
    · rw[QQ h2, QQ h2]
def rm (b:Option Blk)(gen:Nat):Option (TypeId × List AVal) :=
  match b with
  | some (.arr g e cells) => if g = gen then some (e, cells) else none
  | _ => none
theorem Gm (g gen:Nat)(e:TypeId)(cells:List AVal):rm (some (.arr g e cells)) gen = if g = gen then some (e, cells) else none := rfl
theorem zA (H:AHeap)(L:List Blk)(i gen:Nat)(h:i < L.length):(ext H L).live (H.next + i) gen = rm L[i]? gen := by
  unfold AHeap.live rm
  rw[bP H L i h]
  rfl
theorem Gn (H:AHeap)(b:Blk)(L:List Blk)(gen:Nat):(ext H (b :: L)).live H.next gen = rm (some b) gen := zA H (b :: L) 0 gen (by simp)
theorem Gp (H:AHeap)(c:Blk)(L:List Blk)(b:Blk):(ext H (c :: L)).upd H.next b = ext H (b :: L) := zz H (c :: L) 0 b (by simp)
end Go.Hx
namespace Go.Hx
variable {P:Program} {G:Nat -> Option (List AVal)}
def py (want:Bool):Option AVal -> Option Bool
  | some (.lit (.bool b)) => some (b == want)
  | some (.lit _) => some false
  | none => some false
  | _ => none
theorem Gq (want b:Bool):py want (some (.lit (.bool b))) = some (b == want) := rfl
theorem Gr (b:Bool):(b == true) = b := by cases b <;> rfl
theorem Gs (b:Bool):(b == false) = !b := by cases b <;> rfl
theorem Gt (b:Bool)(p q:Prop):fy (!b) p q = fy b q p := by cases b <;> simp [fy]
theorem zH (t:Bool)(p q:Prop):(if t = true then p else q) = fy t p q := by cases t <;> simp [fy]
theorem zI (all : Array Oper) (ρ : Env) (d : Option Tmp) (op : Op) (ty : TypeId) (pos : String) (aft : Array Edge) (j : Nat) (want : Bool) :
    dO all ρ ⟨d, op, ty, pos, aft, some (j, want)⟩ = py want (((all[j]?).bind (·.dst)).map ρ) := by
  unfold dO
  simp only
  cases (all[j]?).bind (·.dst) with
  | none => rfl
  | some d =>
    simp only[Option.map_some]
    cases ρ d with
    | lit v => cases v <;> rfl
    | _ => rfl
section
variable {rd:Option Nat} {Q:AX -> St -> Prop} {s:St} {d:Option Tmp} {ty:TypeId} {pos:String} {aft:Array Edge} {g:Option (Nat × Bool)}
theorem Gu (all : Array Oper) (op : Op) (rest : List Oper) (j : Nat) (want : Bool) : cK P G rd Q all (⟨d, op, ty, pos, aft, some (j, want)⟩ :: rest) s =
    aP (py want (((all[j]?).bind (·.dst)).map s.ρ)) fun t => fy t (aC P G rd Q ⟨d, op, ty, pos, aft, some (j, want)⟩ (cK P G rd Q all rest) s) (cK P G rd Q all rest ⟨ay s.ρ d (.lit undef), s.H⟩) := by
  rw[FF, zI]
  exact rf fun _ => zH ..
variable {all:Array Oper} {tail:St -> Prop} {b i:Nat} {bs:List Nat} {acc:List (Nat × FP)} {K:FP -> St -> Prop}
theorem Gv (bs:List Nat):cS P G all tail bs i acc [] s = tail s := by cases bs <;> rfl
theorem Gw (op : Op) (rest : List Oper) : cS P G all tail (b :: bs) i acc (⟨d, op, ty, pos, aft, none⟩ :: rest) s =
    bE P G ⟨d, op, ty, pos, aft, none⟩ (fun f s' => fg b f acc /\ cS P G all tail bs (i + 1) (eg i f acc) rest s') s := by
  simp [cS, dO, aP]
theorem Gx (op : Op) (rest : List Oper) (j : Nat) (want : Bool) : cS P G all tail (b :: bs) i acc (⟨d, op, ty, pos, aft, some (j, want)⟩ :: rest) s =
    aP (py want (((all[j]?).bind (·.dst)).map s.ρ)) fun t =>
      fy t (bE P G ⟨d, op, ty, pos, aft, some (j, want)⟩ (fun f s' => fg b f acc /\ cS P G all tail bs (i + 1) (eg i f acc) rest s') s)
        (cS P G all tail bs (i + 1) acc rest ⟨ay s.ρ d (.lit undef), s.H⟩) := by
  simp only[cS, zI]
  exact rf fun _ => zH ..
theorem Gy (fv : Operand) (args : Array Operand) (ats : Array TypeId) : bE P G ⟨d, .call ⟨.value fv, args, ats⟩, ty, pos, aft, g⟩ K s =
    ∃ v rs, fQ P G (af G s.ρ fv) (args.toList.map (af G s.ρ)) s.H v rs /\ K ⟨[], rs⟩ ⟨ay s.ρ d v, s.H⟩ := (rfl)
abbrev QF:AX -> St -> Prop := fun _ _ => False
theorem Gz (x:Operand):bE P G ⟨d, .move x, ty, pos, aft, g⟩ K s = aC P G none QF ⟨d, .move x, ty, pos, aft, g⟩ (K ⟨[], []⟩) s := (rfl)
theorem GA (x:Operand):bE P G ⟨d, .assign x, ty, pos, aft, g⟩ K s = aC P G none QF ⟨d, .assign x, ty, pos, aft, g⟩ (K ⟨[], []⟩) s := (rfl)
theorem GC (c x y:Operand):bE P G ⟨d, .pick c x y, ty, pos, aft, g⟩ K s = aC P G none QF ⟨d, .pick c x y, ty, pos, aft, g⟩ (K ⟨[], []⟩) s := (rfl)
theorem GE (e:TypeId):bE P G ⟨d, .alloc e, ty, pos, aft, g⟩ K s = aC P G none QF ⟨d, .alloc e, ty, pos, aft, g⟩ (K ⟨[s.H.next], []⟩) s := (rfl)
theorem GF (e:TypeId)(x:Operand):bE P G ⟨d, .box e x, ty, pos, aft, g⟩ K s = aC P G none QF ⟨d, .box e x, ty, pos, aft, g⟩ (K ⟨[s.H.next], []⟩) s := (rfl)
theorem GG (t:TypeId)(p:Array (Nat × Operand)):bE P G ⟨d, .build t p, ty, pos, aft, g⟩ K s = aC P G none QF ⟨d, .build t p, ty, pos, aft, g⟩ (K ⟨[], []⟩) s := (rfl)
theorem GH (t:TypeId)(l:Nat)(p:Array (Nat × Operand)):bE P G ⟨d, .buildSlice t l p, ty, pos, aft, g⟩ K s = aC P G none QF ⟨d, .buildSlice t l p, ty, pos, aft, g⟩ (K ⟨[s.H.next], []⟩) s := (rfl)
theorem GI (t:TypeId)(x:Operand):bE P G ⟨d, .load t x, ty, pos, aft, g⟩ K s = aC P G none QF ⟨d, .load t x, ty, pos, aft, g⟩ (K ⟨[], aB (af G s.ρ x)⟩) s := (rfl)
theorem GJ (t:TypeId)(x y:Operand):bE P G ⟨d, .store t x y, ty, pos, aft, g⟩ K s = aC P G none QF ⟨d, .store t x y, ty, pos, aft, g⟩ (K ⟨aB (af G s.ρ x), aB (af G s.ρ x)⟩) s := (rfl)
theorem GK (x:Operand):bE P G ⟨d, .nilCheck x, ty, pos, aft, g⟩ K s = aC P G none QF ⟨d, .nilCheck x, ty, pos, aft, g⟩ (K ⟨[], aB (af G s.ρ x)⟩) s := (rfl)
theorem GL (op:BinOp)(t:TypeId)(x y:Operand)(u:TypeId):bE P G ⟨d, .binOp op t x y u, ty, pos, aft, g⟩ K s = aP (aZ P op t x y (af G s.ρ x) (af G s.ρ y)) fun v => K ⟨[], []⟩ ⟨ay s.ρ d v, s.H⟩ := by
  simp only[bE, ae, eF]
  rfl
theorem GM (op:UnOp)(t:TypeId)(x:Operand):bE P G ⟨d, .unOp op t x, ty, pos, aft, g⟩ K s = aC P G none QF ⟨d, .unOp op t x, ty, pos, aft, g⟩ (K ⟨[], []⟩) s := (rfl)
theorem GN (t u:TypeId)(x:Operand):bE P G ⟨d, .convert t u x, ty, pos, aft, g⟩ K s = aC P G none QF ⟨d, .convert t u x, ty, pos, aft, g⟩ (K ⟨[], aB (af G s.ρ x)⟩) s := (rfl)
theorem GO (t:TypeId)(x:Operand):bE P G ⟨d, .makeInterface t x, ty, pos, aft, g⟩ K s = aC P G none QF ⟨d, .makeInterface t x, ty, pos, aft, g⟩ (K ⟨[], []⟩) s := (rfl)
theorem GP (f:Fn)(x y:Array Operand):bE P G ⟨d, .makeFunc f x y, ty, pos, aft, g⟩ K s = aC P G none QF ⟨d, .makeFunc f x y, ty, pos, aft, g⟩ (K ⟨[], []⟩) s := (rfl)
theorem GQ (t:TypeId)(x y:Operand):bE P G ⟨d, .makeSlice t x y, ty, pos, aft, g⟩ K s = aC P G none QF ⟨d, .makeSlice t x y, ty, pos, aft, g⟩ (K ⟨[s.H.next], []⟩) s := (rfl)
theorem GR (t:TypeId)(x:Operand)(lo hi mx:Option Operand):bE P G ⟨d, .slice t x lo hi mx, ty, pos, aft, g⟩ K s = aC P G none QF ⟨d, .slice t x lo hi mx, ty, pos, aft, g⟩ (K ⟨[], aB (af G s.ρ x)⟩) s := (rfl)
theorem GS (t:TypeId)(x:Operand)(f:Nat):bE P G ⟨d, .fieldAddr t x f, ty, pos, aft, g⟩ K s = aC P G none QF ⟨d, .fieldAddr t x f, ty, pos, aft, g⟩ (K ⟨[], aB (af G s.ρ x)⟩) s := (rfl)
theorem GT (t:TypeId)(x:Operand)(f:Nat):bE P G ⟨d, .field t x f, ty, pos, aft, g⟩ K s = aC P G none QF ⟨d, .field t x f, ty, pos, aft, g⟩ (K ⟨[], []⟩) s := (rfl)
theorem GU (t:TypeId)(x y:Operand):bE P G ⟨d, .indexAddr t x y, ty, pos, aft, g⟩ K s = aC P G none QF ⟨d, .indexAddr t x y, ty, pos, aft, g⟩ (K ⟨[], aB (af G s.ρ x)⟩) s := (rfl)
theorem GV (t:TypeId)(x y:Operand):bE P G ⟨d, .index t x y, ty, pos, aft, g⟩ K s = aC P G none QF ⟨d, .index t x y, ty, pos, aft, g⟩ (K ⟨[], []⟩) s := (rfl)
theorem GW (x:Operand)(f:Nat):bE P G ⟨d, .extract x f, ty, pos, aft, g⟩ K s = aC P G none QF ⟨d, .extract x f, ty, pos, aft, g⟩ (K ⟨[], []⟩) s := (rfl)
theorem GX (f : Builtin) (args : Array Operand) (ats : Array TypeId) : bE P G ⟨d, .call ⟨.builtin f, args, ats⟩, ty, pos, aft, g⟩ K s =
    aC P G none QF ⟨d, .call ⟨.builtin f, args, ats⟩, ty, pos, aft, g⟩ (K (gH P s.H.next f ats.toList (args.toList.map (af G s.ρ)))) s := rfl
end
theorem GY (v:Value):aB (.lit v) = [] := rfl
theorem GZ (n:Nat)(l:List AVal):aB (.vec n l) = [] := rfl
theorem G1 (l:List AVal)(o:Nat):aB (.vptr l o) = [] := rfl
theorem G2 (l:List AVal):aB (.agg l) = [] := rfl
theorem G3 (id g o l z:Nat):aB (.own id g o l z) = [id] := rfl
theorem G4 (id g o:Nat):aB (.ptr id g o) = [id] := rfl
theorem G5 (id g o l z:Nat):kH (.own id g o l z) = true := rfl
theorem G6 (v:Value):kH (.lit v) = false := rfl
theorem G7 (n:Nat)(l:List AVal):kH (.vec n l) = false := rfl
theorem G8 (id:Nat)(t:TypeId)(x:AVal):gH P id .len [t] [x] = ⟨[], iL P t x⟩ := rfl
theorem G9 (id:Nat)(ts:List TypeId)(x y:AVal):gH P id .append ts [x, y] = if kH x = true then ⟨aB x, aB x ++ aB y⟩ else ⟨[id], aB y⟩ := by
  cases ts with
  | nil => rfl
  | cons t ts => cases ts <;> rfl
theorem He (t:TypeId)(x:AVal)(h:aB x = []):iL P t x = [] := by unfold iL; split <;> first | exact h | rfl
theorem Hg (t:TypeId)(n:Nat)(l:List AVal):iL P t (.vec n l) = [] := He _ _ rfl
def zJ (f f':FP):Prop := (∀ r, r ∈ f.eff -> r ∉ f'.rs) /\ (∀ r, r ∈ f'.eff -> r ∉ f.rs)
theorem Hh (b:Nat)(f:FP):fg b f [] = True := by simp [fg]
theorem Hl (b:Nat)(f:FP)(j:Nat)(f':FP)(acc:List (Nat × FP)):fg b f ((j, f') :: acc) = ((b / 2 ^ j % 2 = 1 \/ zJ f f') /\ fg b f acc) := by
  simp only[fg, List.forall_mem_cons, TC, RH, eq_iff_iff]
  refine and_congr ⟨fun h => ?_, fun h hb => ?_⟩ Iff.rfl
  · by_cases hb:b / 2 ^ j % 2 = 1
    · exact .inl hb
    · exact .inr (h hb)
  · rcases h with h | h
    · exact absurd h hb
    · exact h
theorem Ht (b:Nat)(acc:List (Nat × FP)):fg b ⟨[], []⟩ acc = True := by
  simp [fg]
theorem Hu (e r e' r':List Nat):zJ ⟨e, r⟩ ⟨e', r'⟩ = ((∀ x, x ∈ e -> x ∉ r') /\ ∀ x, x ∈ e' -> x ∉ r) := rfl
theorem Hv (i:Nat)(acc:List (Nat × FP)):eg i ⟨[], []⟩ acc = acc := rfl
theorem Hw (i x:Nat)(e r:List Nat)(acc:List (Nat × FP)):eg i ⟨x :: e, r⟩ acc = (i, ⟨x :: e, r⟩) :: acc := rfl
theorem HE (i x:Nat)(e r:List Nat)(acc:List (Nat × FP)):eg i ⟨e, x :: r⟩ acc = (i, ⟨e, x :: r⟩) :: acc := by cases e <;> rfl
theorem fQ.mk {f : FuncId} {first cap args : List AVal} {H : AHeap} {v : AVal} {rs : List Nat} (hlt : ∀ r, r ∈ rs → r < H.next)
    (h:∀ H2:AHeap, (∀ r, r ∈ rs -> H2.get r = H.get r) -> H.next <= H2.next -> ah P G f (first ++ args ++ cap) H2 fun r H3 => r = .ret v /\ H3 = H2):fQ P G (.clo f first cap) args H v rs :=
  ⟨hlt, fun H2 h1 h2 => aG.clo (h H2 h1 h2)⟩
theorem fQ.pure {f:FuncId}{args:List AVal}{H:AHeap}{v:AVal}(h:∀ H2:AHeap, ah P G f args H2 fun r H3 => r = .ret v /\ H3 = H2):fQ P G (.clo f [] []) args H v [] :=
  fQ.mk (fun _ h => by cases h) fun H2 _ _ => by simpa using h H2
theorem ah.pure {f:FuncId}{args:List AVal}{H:AHeap}{v:AVal}{K:ARes -> AHeap -> Prop}(h:∀ H2:AHeap, ah P G f args H2 fun r H3 => r = .ret v /\ H3 = H2)(hk:K (.ret v) H):ah P G f args H K :=
  (h H).mono fun r H3 ⟨h1, h2⟩ => by rw[h1, h2]; exact hk
end Go.Hx
namespace Go.Hx
variable {P:Program} {G:Nat -> Option (List AVal)} {H:AHeap}
def mh (H:AHeap)(x:AVal):Option AVal :=
  match x with
    | .vec len _ => some (.lit (.int .i64 len))
    | .own id gen _ len _ => (H.live id gen).map fun _ => .lit (.int .i64 len)
    | .lit (.slice none 0 0) => some (.lit (.int .i64 0))
    | _ => none
def uT (x:AVal):Option AVal :=
  match x with
    | .lit (.string s) => some (.lit (.int .i64 s.size))
    | _ => none
def nH (d:Option TypeDesc)(H:AHeap)(x:AVal):Option AVal :=
  match d with
  | some (.slice _) => mh H x
  | some .string => uT x
  | some (.array n _) => some (.lit (.int .i64 n))
  | _ => none
theorem HN (t:TypeId)(x:AVal):jF P H t x = nH (P.underlying t) H x := rfl
theorem zP (e:TypeId)(x:AVal):nH (some (.slice e)) H x = mh H x := rfl
theorem HO (x:AVal):nH (some .string) H x = uT x := rfl
theorem HP (n:Nat)(e:TypeId)(x:AVal):nH (some (.array n e)) H x = some (.lit (.int .i64 n)) := rfl
theorem HQ (n:Nat)(l:List AVal):mh H (.vec n l) = some (.lit (.int .i64 n)) := rfl
theorem zQ (id g o n z:Nat):mh H (.own id g o n z) = (H.live id g).map fun _ => .lit (.int .i64 n) := rfl
theorem HR:mh H (.lit (.slice none 0 0)) = some (.lit (.int .i64 0)) := rfl
theorem HS (s:ByteArray):uT (.lit (.string s)) = some (.lit (.int .i64 s.size)) := rfl
def ja (d:Option TypeDesc)(n:Nat)(cells:List AVal)(off:Nat):Option AVal :=
  match d with
  | none => none
  | some d => if mK d then (if off + n <= cells.length then some (.agg ((cells.drop off).take n)) else none) else cells[off]?
theorem HT (t:TypeId)(cells:List AVal)(off:Nat):dL P t cells off = ja (P.underlying t) (P.cellsOf t) cells off := rfl
theorem HU (k:IntKind)(n:Nat)(cells:List AVal)(off:Nat):ja (some (.int k)) n cells off = cells[off]? := rfl
theorem HV (n:Nat)(cells:List AVal)(off:Nat):ja (some .bool) n cells off = cells[off]? := rfl
theorem HW (n:Nat)(cells:List AVal)(off:Nat):ja (some .string) n cells off = cells[off]? := rfl
theorem HX (e:TypeId)(n:Nat)(cells:List AVal)(off:Nat):ja (some (.slice e)) n cells off = cells[off]? := rfl
theorem HY (e:TypeId)(n:Nat)(cells:List AVal)(off:Nat):ja (some (.pointer e)) n cells off = cells[off]? := rfl
theorem HZ (fs:Array Field)(n:Nat)(cells:List AVal)(off:Nat):ja (some (.struct fs)) n cells off = if off + n <= cells.length then some (.agg ((cells.drop off).take n)) else none := rfl
theorem Ia (k:Nat)(e:TypeId)(n:Nat)(cells:List AVal)(off:Nat):ja (some (.array k e)) n cells off = if off + n <= cells.length then some (.agg ((cells.drop off).take n)) else none := rfl
theorem Ib (cells vs:List AVal):setAt cells 0 vs = vs ++ cells.drop vs.length := by simp [setAt]
theorem Ic (c:AVal)(cells vs:List AVal)(off:Nat):setAt (c :: cells) (off + 1) vs = c :: setAt cells off vs := by simp [setAt, Nat.succ_add]
theorem Ie (t:TypeId)(cells:List AVal)(off:Nat):ee P H t (.vptr cells off) = dL P t cells off := rfl
theorem If (t:TypeId)(id gen off:Nat):ee P H t (.ptr id gen off) = (H.live id gen).bind fun ec => dL P t ec.2 off := by
  simp only[AHeap.live, ee]
  generalize H.get id = x
  cases x with
  | none => rfl
  | some b =>
    cases b with
    | arr g e cells =>
      simp only
      by_cases hg:g = gen
      · rw[QN hg, QN hg]; rfl
      · rw[QQ hg, QQ hg]; rfl
    | _ => rfl
theorem Ig (t : TypeId) (id gen off : Nat) (v : AVal) : fM P H t (.ptr id gen off) v =
    (H.live id gen).bind fun ec => if v.cells.length = P.cellsOf t /\ v.cells.all AVal.one = true /\ off + v.cells.length <= ec.2.length then some (H.upd id (.arr gen ec.1 (setAt ec.2 off v.cells))) else none := by
  simp only[AHeap.live, fM]
  generalize H.get id = x
  cases x with
  | none => rfl
  | some b =>
    cases b with
    | arr g e cells =>
      simp only
      by_cases hg:g = gen
      · subst hg
        simp
      · rw[QQ hg, QQ (fun h => hg h.1)]
        rfl
    | _ => rfl
def rB (H:AHeap)(c:Nat)(x:AVal)(i:Int):Option AVal :=
  match x with
  | .own id gen off len sz => if 0 <= i /\ i < (len:Int) /\ sz = c then (H.live id gen).map fun _ => .ptr id gen (off + i.toNat * c) else none
  | .vec len cells => if 0 <= i /\ i < (len:Int) /\ cells ≠ [] then some (.vptr cells (i.toNat * c)) else none
  | _ => none
def pC (H:AHeap)(c n:Nat)(x:AVal)(i:Int):Option AVal :=
  if 0 ≤ i ∧ i < (n : Int) then
      match x with
      | .ptr id gen off => (H.live id gen).map fun _ => .ptr id gen (off + i.toNat * c)
      | .vptr cells off => some (.vptr cells (off + i.toNat * c))
      | _ => none
  else none
def rC (P:Program)(H:AHeap)(d:Option TypeDesc)(x:AVal)(i:Int):Option AVal :=
  match d with
  | some (.array n e) => if (P.underlying e).isSome then pC H (P.cellsOf e) n x i else none
  | some (.slice e) => if (P.underlying e).isSome then rB H (P.cellsOf e) x i else none
  | _ => none
theorem Ih (t:TypeId)(x:AVal)(k:IntKind)(i:Int):nu P H t x (.lit (.int k i)) = rC P H (P.underlying t) x i := by
  simp only[nu, ky, rC]
  cases P.underlying t with
  | none => rfl
  | some d =>
    cases d with
    | array n e =>
      simp only[pC]
      by_cases h:(P.underlying e).isSome = true
      · simp only[h, and_true, if_true]
        rfl
      · rw[QQ h, QQ (fun h' => h h'.2.2)]
    | slice e => rfl
    | _ => rfl
theorem Ii (e:TypeId)(x:AVal)(i:Int):rC P H (some (.slice e)) x i = if (P.underlying e).isSome = true then rB H (P.cellsOf e) x i else none := rfl
theorem Ij (n:Nat)(e:TypeId)(x:AVal)(i:Int):rC P H (some (.array n e)) x i = if (P.underlying e).isSome = true then pC H (P.cellsOf e) n x i else none := rfl
theorem Ik (c n:Nat)(l:List AVal)(i:Int):rB H c (.vec n l) i = if 0 <= i /\ i < (n:Int) /\ l ≠ [] then some (.vptr l (i.toNat * c)) else none := rfl
theorem Il (c id g o n z:Nat)(i:Int):rB H c (.own id g o n z) i = if 0 <= i /\ i < (n:Int) /\ z = c then (H.live id g).map fun _ => .ptr id g (o + i.toNat * c) else none := rfl
theorem Im (c n:Nat)(l:List AVal)(o:Nat)(i:Int):pC H c n (.vptr l o) i = if 0 <= i /\ i < (n:Int) then some (.vptr l (o + i.toNat * c)) else none := rfl
theorem Io (c n id g o:Nat)(i:Int):pC H c n (.ptr id g o) i = if 0 <= i /\ i < (n:Int) then (H.live id g).map fun _ => .ptr id g (o + i.toNat * c) else none := rfl
def pD (H : AHeap) (c : Nat) (x : AVal) (lo hi : Option AVal) : Option AVal :=
      match x with
      | .own id gen off len sz => if sz = c then (H.live id gen).bind fun _ => (bk hi len len).bind fun h => (bk lo 0 h).map fun l => .own id gen (off + l * sz) (h - l) sz else none
      | .vec len cells => if cells.length = len * c then (bk hi len len).bind fun h => (bk lo 0 h).map fun l => .vec (h - l) ((cells.drop (l * c)).take ((h - l) * c)) else none
      | .lit (.slice none 0 0) => (bk hi 0 0).bind fun h => (bk lo 0 h).map fun _ => .lit (.slice none 0 0)
      | _ => none
def uU (H : AHeap) (c n : Nat) (x : AVal) (lo hi : Option AVal) : Option AVal :=
      match x with
      | .ptr id gen off =>
        match H.live id gen with
        | some (_, cells) =>
          if off + n * c <= cells.length then
            (bk hi n n).bind fun h => (bk lo 0 h).map fun l => .own id gen (off + l * c) (h - l) c
          else none
        | none => none
      | .vptr cells off => if off + n * c ≤ cells.length then
            (bk hi n n).bind fun h => (bk lo 0 h).map fun l => .vec (h - l) ((cells.drop (off + l * c)).take ((h - l) * c))
          else none
      | _ => none
def uV (x : AVal) (lo hi : Option AVal) : Option AVal :=
    match x with
    | .lit (.string s) => (bk hi s.size s.size).bind fun h => (bk lo 0 h).map fun l => .lit (.string (s.extract l h))
    | _ => none
def rD (P:Program)(H:AHeap)(d:Option TypeDesc)(x:AVal)(lo hi:Option AVal):Option AVal :=
  match d with
  | some (.array n e) => if (P.underlying e).isSome then uU H (P.cellsOf e) n x lo hi else none
  | some (.slice e) => if (P.underlying e).isSome then pD H (P.cellsOf e) x lo hi else none
  | some .string => uV x lo hi
  | _ => none
theorem Ip (t:TypeId)(x:AVal)(lo hi:Option AVal):jE P H t x lo hi = rD P H (P.underlying t) x lo hi := rfl
theorem Iq (e:TypeId)(x:AVal)(lo hi:Option AVal):rD P H (some (.slice e)) x lo hi = if (P.underlying e).isSome = true then pD H (P.cellsOf e) x lo hi else none := rfl
theorem Ir (n:Nat)(e:TypeId)(x:AVal)(lo hi:Option AVal):rD P H (some (.array n e)) x lo hi = if (P.underlying e).isSome = true then uU H (P.cellsOf e) n x lo hi else none := rfl
theorem Is (x:AVal)(lo hi:Option AVal):rD P H (some .string) x lo hi = uV x lo hi := rfl
theorem It (c id g o n z:Nat)(lo hi:Option AVal):pD H c (.own id g o n z) lo hi = if z = c then (H.live id g).bind fun _ => (bk hi n n).bind fun h => (bk lo 0 h).map fun l => .own id g (o + l * z) (h - l) z else none := rfl
theorem Iu (c n:Nat)(cells:List AVal)(lo hi:Option AVal):pD H c (.vec n cells) lo hi = if cells.length = n * c then (bk hi n n).bind fun h => (bk lo 0 h).map fun l => .vec (h - l) ((cells.drop (l * c)).take ((h - l) * c)) else none := rfl
theorem Iv (c:Nat)(lo hi:Option AVal):pD H c (.lit (.slice none 0 0)) lo hi = (bk hi 0 0).bind fun h => (bk lo 0 h).map fun _ => .lit (.slice none 0 0) := rfl
theorem Iw (c n : Nat) (cells : List AVal) (off : Nat) (lo hi : Option AVal) : uU H c n (.vptr cells off) lo hi = if off + n * c ≤ cells.length then
            (bk hi n n).bind fun h => (bk lo 0 h).map fun l => .vec (h - l) ((cells.drop (off + l * c)).take ((h - l) * c)) else none := rfl
theorem Ix (s:ByteArray)(lo hi:Option AVal):uV (.lit (.string s)) lo hi = (bk hi s.size s.size).bind fun h => (bk lo 0 h).map fun l => .lit (.string (s.extract l h)) := rfl
theorem Iy (d m:Nat):bk none d m = some d := rfl
theorem Iz (k:IntKind)(i:Int)(d m:Nat):bk (some (.lit (.int k i))) d m = if 0 <= i /\ i <= (m:Int) then some i.toNat else none := rfl
theorem IA (sz n:Nat)(l:List AVal):cr H sz (.vec n l) = if l.length = n * sz then some (n, l) else none := rfl
theorem IB (sz id g o n z:Nat):cr H sz (.own id g o n z) = if z = sz then (H.live id g).map fun x => (n, (x.2.drop o).take (n * sz)) else none := rfl
theorem IC (sz:Nat):cr H sz (.lit (.slice none 0 0)) = some (0, []) := rfl
def rE (P:Program)(H:AHeap)(id:Nat)(d0 d1:Option TypeDesc)(s x:AVal):Option (AVal × AHeap) :=
  match d0, d1 with
  | some (.slice e), some (.slice _) => (bH P e).bind fun _ => (cr H (P.cellsOf e) x).bind fun nx =>
        match s with
        | .lit (.slice none 0 0) =>
          if nx.1 = 0 then some (s, H)
          else if nx.1 * P.bytesOf e <= 2 ^ 46 /\ nx.1 <= 2 ^ 46 then (H.lay id (.arr 0 e nx.2)).map fun H' => (.own id 0 0 nx.1 (P.cellsOf e), H')
          else none
        | .own id' gen off len sz =>
          (H.live id' gen).bind fun ec =>
            if ec.1 = e /\ sz = P.cellsOf e /\ off + len * sz = ec.2.length /\ (len + nx.1) * P.bytesOf e <= 2 ^ 46 /\ len + nx.1 <= 2 ^ 46 /\ nx.2.all AVal.one = true then
              if nx.1 = 0 then some (s, H)
              else some (.own id' (gen + 1) 0 (len + nx.1) sz, H.upd id' (.arr (gen + 1) e (ec.2.drop off ++ nx.2)))
            else none
        | _ => none
  | _, _ => none
theorem aa (id:Nat)(t u:TypeId)(s x:AVal):bC P H id t u s x = rE P H id (P.underlying t) (P.underlying u) s x := by
  unfold bC rE
  cases P.underlying t with
  | none => rfl
  | some d =>
    cases d with
    | slice e =>
      cases P.underlying u with
      | none => rfl
      | some d' => cases d' <;> rfl
    | _ => rfl
theorem ID (id : Nat) (e u : TypeId) (x : AVal) : rE P H id (some (.slice e)) (some (.slice u)) (.lit (.slice none 0 0)) x = (bH P e).bind fun _ => (cr H (P.cellsOf e) x).bind fun nx =>
    if nx.1 = 0 then some (.lit (.slice none 0 0), H) else if nx.1 * P.bytesOf e <= 2 ^ 46 /\ nx.1 <= 2 ^ 46 then (H.lay id (.arr 0 e nx.2)).map fun H' => (.own id 0 0 nx.1 (P.cellsOf e), H') else none := rfl
theorem IE (id : Nat) (e u : TypeId) (x : AVal) (id' gen off len sz : Nat) : rE P H id (some (.slice e)) (some (.slice u)) (.own id' gen off len sz) x = (bH P e).bind fun _ => (cr H (P.cellsOf e) x).bind fun nx =>
    (H.live id' gen).bind fun ec =>
            if ec.1 = e /\ sz = P.cellsOf e /\ off + len * sz = ec.2.length /\ (len + nx.1) * P.bytesOf e <= 2 ^ 46 /\ len + nx.1 <= 2 ^ 46 /\ nx.2.all AVal.one = true then
              if nx.1 = 0 then some (.own id' gen off len sz, H)
              else some (.own id' (gen + 1) 0 (len + nx.1) sz, H.upd id' (.arr (gen + 1) e (ec.2.drop off ++ nx.2)))
            else none := rfl
def zR (P:Program)(H:AHeap)(d0:Option TypeDesc)(d x:AVal):Option (AVal × AHeap) :=
  match d0 with
  | some (.slice e) =>
    if (P.underlying e).isSome then
      (cr H (P.cellsOf e) x).bind fun nx =>
        match d with
        | .own id gen off len sz =>
          (H.live id gen).bind fun ec =>
            if sz = P.cellsOf e /\ off + len * sz <= ec.2.length /\ nx.2.all AVal.one = true then
              some (.lit (.int .i64 (min nx.1 len:Nat)), H.upd id (.arr gen ec.1 (setAt ec.2 off (nx.2.take (min nx.1 len * sz)))))
            else none
        | _ => none
    else none
  | _ => none
theorem IF (t:TypeId)(d x:AVal):iV P H t d x = zR P H (P.underlying t) d x := rfl
theorem IG (e : TypeId) (id gen off len sz : Nat) (x : AVal) : zR P H (some (.slice e)) (.own id gen off len sz) x = if (P.underlying e).isSome = true then
      (cr H (P.cellsOf e) x).bind fun nx => (H.live id gen).bind fun ec =>
            if sz = P.cellsOf e /\ off + len * sz <= ec.2.length /\ nx.2.all AVal.one = true then
              some (.lit (.int .i64 (min nx.1 len:Nat)), H.upd id (.arr gen ec.1 (setAt ec.2 off (nx.2.take (min nx.1 len * sz)))))
            else none
      else none := rfl
def uW (P:Program)(H:AHeap)(id:Nat)(d:Option TypeDesc)(l c:AVal):Option (AVal × AHeap) :=
  match d, l, c with
  | some (.slice e), .lit (.int _ l), .lit (.int _ c) =>
    if 0 <= l /\ l <= c /\ c * P.bytesOf e <= 2 ^ 46 /\ c <= 2 ^ 46 then
      (iD P e l.toNat).bind fun cells => (H.lay id (.arr 0 e cells)).map fun H' => (.own id 0 0 l.toNat (P.cellsOf e), H')
    else none
  | _, _, _ => none
theorem IH (id:Nat)(t:TypeId)(l c:AVal):ie P H id t l c = uW P H id (P.underlying t) l c := by
  unfold ie uW
  cases P.underlying t with
  | none => rfl
  | some d => rfl
theorem II (id : Nat) (e : TypeId) (k k' : IntKind) (l c : Int) : uW P H id (some (.slice e)) (.lit (.int k l)) (.lit (.int k' c)) = if 0 ≤ l ∧ l ≤ c ∧ c * P.bytesOf e ≤ 2 ^ 46 ∧ c ≤ 2 ^ 46 then
      (iD P e l.toNat).bind fun cells => (H.lay id (.arr 0 e cells)).map fun H' => (.own id 0 0 l.toNat (P.cellsOf e), H')
    else none := rfl
theorem IJ (e:TypeId)(n:Nat):iD P e n = (bH P e).map fun z => (List.replicate n z).flatten := rfl
theorem IK (n:Nat)(v:AVal):(List.replicate n [v]).flatten = List.replicate n v := by
  induction n with
  | zero => rfl
  | succ n ih => rw[Sw, List.flatten_cons, ih, Sw]; rfl
def zS (P:Program)(H:AHeap)(id:Nat)(d:Option TypeDesc)(len:Nat)(parts:List (Nat × AVal)):Option (AVal × AHeap) :=
  match d with
  | some (.slice e) =>
    if len * P.cellsOf e <= 2 ^ 24 then
      (iD P e len).bind fun z => (dM (fun i => some (i * P.cellsOf e, P.cellsOf e)) z parts).bind fun cells =>
        (H.lay id (.arr 0 e cells)).map fun H' => (.own id 0 0 len (P.cellsOf e), H')
    else none
  | _ => none
theorem IL (id:Nat)(t:TypeId)(len:Nat)(parts:List (Nat × AVal)):iF P H id t len parts = zS P H id (P.underlying t) len parts := rfl
theorem IM (id : Nat) (e : TypeId) (len : Nat) (parts : List (Nat × AVal)) : zS P H id (some (.slice e)) len parts = if len * P.cellsOf e ≤ 2 ^ 24 then
      (iD P e len).bind fun z => (dM (fun i => some (i * P.cellsOf e, P.cellsOf e)) z parts).bind fun cells =>
        (H.lay id (.arr 0 e cells)).map fun H' => (.own id 0 0 len (P.cellsOf e), H')
    else none := rfl
def uX (P:Program)(t:TypeId)(d:Option TypeDesc)(parts:List (Nat × AVal)):Option AVal :=
  (bH P t).bind fun z =>
    match d with
    | some (.struct _) => (kx P t).bind fun pl => (dM (fun i => pl[i]?) z parts).map .agg
    | some (.array _ e) => if (P.underlying e).isSome then (dM (fun i => some (i * P.cellsOf e, P.cellsOf e)) z parts).map .agg else none
    | _ => none
theorem IN (t:TypeId)(parts:List (Nat × AVal)):mR P t parts = uX P t (P.underlying t) parts := rfl
theorem IP (t:TypeId)(fs:Array Field)(parts:List (Nat × AVal)):uX P t (some (.struct fs)) parts = (bH P t).bind fun z => (kx P t).bind fun pl => (dM (fun i => pl[i]?) z parts).map .agg := rfl
theorem IQ (t:TypeId)(n:Nat)(e:TypeId)(parts:List (Nat × AVal)):uX P t (some (.array n e)) parts = (bH P t).bind fun z => if (P.underlying e).isSome = true then (dM (fun i => some (i * P.cellsOf e, P.cellsOf e)) z parts).map .agg else none := rfl
theorem IR (pl:Nat -> Option (Nat × Nat))(cells:List AVal):dM pl cells [] = some cells := rfl
theorem IS (pl : Nat → Option (Nat × Nat)) (cells : List AVal) (i : Nat) (v : AVal) (rest : List (Nat × AVal)) : dM pl cells ((i, v) :: rest) = (pl i).bind fun os =>
    if v.cells.length = os.2 /\ os.1 + v.cells.length <= cells.length then dM pl (setAt cells os.1 v.cells) rest else none := by
  simp only[dM]
  cases pl i <;> rfl
theorem IT (k:IntKind)(n:Int):(AVal.lit (.int k n)).cells = [.lit (.int k n)] := rfl
theorem IU (b:Bool):(AVal.lit (.bool b)).cells = [.lit (.bool b)] := rfl
theorem IV (s:ByteArray):(AVal.lit (.string s)).cells = [.lit (.string s)] := rfl
theorem IW (a:Option Addr)(n c:Nat):(AVal.lit (.slice a n c)).cells = [.lit (.slice a n c)] := rfl
theorem IX (l:List AVal):(AVal.agg l).cells = l := rfl
theorem IY (n:Nat)(l:List AVal):(AVal.vec n l).cells = [.vec n l] := rfl
theorem IZ (a b c d e:Nat):(AVal.own a b c d e).cells = [.own a b c d e] := rfl
theorem I0 (a b c:Nat):(AVal.ptr a b c).cells = [.ptr a b c] := rfl
theorem I1 (k:IntKind)(n:Int):(AVal.lit (.int k n)).one = true := rfl
theorem I2 (b:Bool):(AVal.lit (.bool b)).one = true := rfl
theorem I3 (s:ByteArray):(AVal.lit (.string s)).one = true := rfl
theorem I4 (a:Option Addr)(n c:Nat):(AVal.lit (.slice a n c)).one = true := rfl
theorem I5 (n:Nat)(l:List AVal):(AVal.vec n l).one = true := rfl
theorem I6 (a b c d e:Nat):(AVal.own a b c d e).one = true := rfl
theorem I7 (a b c:Nat):(AVal.ptr a b c).one = true := rfl
def ab (n:Int):AVal := .lit (.int .i64 n)
def ints (l:List Int):List AVal := l.map ab
def ag (l:List Int):AVal := .vec l.length (ints l)
theorem aX (l:List Int):(ints l).length = l.length := QX ..
theorem fC (l:List Int)(i:Nat):(ints l)[i]? = (l[i]?).map ab := List.getElem?_map ..
theorem uP (l:List Int):ints l = [] ↔ l = [] := List.map_eq_nil_iff
end Go.Hx
namespace Go.Hx
variable {P:Program} {G:Nat -> Option (List AVal)} {Γ Γ':au} {H H':AHeap} {w w':World}
inductive Below (n:Nat):AVal -> Prop
  | lit (v:Value):Below n (.lit v)
  | vec {len:Nat} {cells:List AVal} (h:∀ i (h:i < cells.length), Below n cells[i]):Below n (.vec len cells)
  | vptr {off:Nat} {cells:List AVal} (h:∀ i (h:i < cells.length), Below n cells[i]):Below n (.vptr cells off)
  | agg {cells:List AVal} (h:∀ i (h:i < cells.length), Below n cells[i]):Below n (.agg cells)
  | tup {cells:List AVal} (h:∀ i (h:i < cells.length), Below n cells[i]):Below n (.tup cells)
  | clo {f:FuncId} {a b:List AVal} (h1:∀ i (h:i < a.length), Below n a[i]) (h2:∀ i (h:i < b.length), Below n b[i]):Below n (.clo f a b)
  | own {id g o l z:Nat} (h:id < n):Below n (.own id g o l z)
  | ptr {id g o:Nat} (h:id < n):Below n (.ptr id g o)
  | yld {id:Nat} (h:id < n):Below n (.yld id)
theorem RelV.nG {v:AVal}{cv:Value}(h:RelV P Γ H w v cv):Below H.next v := by
  induction h with
  | lit v => exact .lit v
  | vec0 a cap => exact .vec fun i h => absurd h (Q5 _)
  | vec hb hlt hlen hcs hcell hrel ih => exact .vec fun i h => ih i h (by omega)
  | own h => exact .own h.1
  | ptr h => exact .ptr h.1
  | vptr hb hlt hcs hcell hrel ih => exact .vptr fun i h => ih i h (by omega)
  | agg hcs hrel ih => exact .agg fun i h => ih i h (by omega)
  | tup hcs hrel ih => exact .tup fun i h => ih i h (by omega)
  | clo hfs hcs hf hc ih1 ih2 => exact .clo (fun i h => ih1 i h (by omega)) fun i h => ih2 i h (by omega)
  | yld h => exact .yld h.1
def HF (n:Nat):Blk -> Prop
  | .arr _ _ cells => ∀ i (h:i < cells.length), Below n cells[i]
  | .loop _ _ m env _ _ _ => ∀ t, t < m -> Below n (env t)
  | .mp _ => True
  | .rsv => True
structure Clo (H:AHeap):Prop where
  lt:∀ id b, H.get id = some b -> id < H.next
  below:∀ id b, H.get id = some b -> HF H.next b
theorem RelH.clo (R:RelH P G Γ H w):Clo H := by
  refine⟨fun id b h => R.next id b h, fun id b h => ?_⟩
  cases b with
  | rsv => trivial
  | mp => trivial
  | arr g e cells =>
    intro i hi
    have h1 := R.arr id g e cells h
    split at h1
    · obtain⟨c, _, _, _, h5⟩ := h1
      obtain⟨cv, _, h6⟩ := h5 i hi
      exact h6.nG
    · subst h1
      exact absurd hi (Q5 _)
  | loop st pend n env ps asg body =>
    intro t ht
    obtain⟨b, r, _, _, _, _, _, _, _, h8, h9⟩ := R.loop id st pend n env ps asg body h
    exact(h9 t (by omega)).nG
inductive Fz (S:Nat -> Prop)(H:AHeap)(nx:Nat):AVal -> AVal -> Prop
  | lit (v:Value):Fz S H nx (.lit v) (.lit v)
  | vec {len:Nat} {c c':List AVal} (hl:c'.length = c.length) (h:∀ i (h:i < c.length) (h':i < c'.length), Fz S H nx c[i] c'[i]):Fz S H nx (.vec len c) (.vec len c')
  | vptr {off:Nat} {c c':List AVal} (hl:c'.length = c.length) (h:∀ i (h:i < c.length) (h':i < c'.length), Fz S H nx c[i] c'[i]):Fz S H nx (.vptr c off) (.vptr c' off)
  | agg {c c':List AVal} (hl:c'.length = c.length) (h:∀ i (h:i < c.length) (h':i < c'.length), Fz S H nx c[i] c'[i]):Fz S H nx (.agg c) (.agg c')
  | tup {c c':List AVal} (hl:c'.length = c.length) (h:∀ i (h:i < c.length) (h':i < c'.length), Fz S H nx c[i] c'[i]):Fz S H nx (.tup c) (.tup c')
  | clo {f:FuncId} {a a' b b':List AVal} (ha:a'.length = a.length) (hb:b'.length = b.length) (h1:∀ i (h:i < a.length) (h':i < a'.length), Fz S H nx a[i] a'[i]) (h2:∀ i (h:i < b.length) (h':i < b'.length), Fz S H nx b[i] b'[i]):Fz S H nx (.clo f a b) (.clo f a' b')
  | own {id g o l z:Nat} (h:id < nx) (hs:¬ S id):Fz S H nx (.own id g o l z) (.own id g o l z)
  | ptr {id g o:Nat} (h:id < nx) (hs:¬ S id):Fz S H nx (.ptr id g o) (.ptr id g o)
  | yld {id:Nat} (h:id < nx) (hs:¬ S id):Fz S H nx (.yld id) (.yld id)
  | deadOwn {id g o l z:Nat} (h:id < nx) (hs:S id):Fz S H nx (.own id g o l z) (.own id g o l z)
  | deadPtr {id g o:Nat} (h:id < nx) (hs:S id):Fz S H nx (.ptr id g o) (.ptr id g o)
  | deadYld {id:Nat} (h:id < nx) (hs:S id):Fz S H nx (.yld id) (.yld id)
  | nil:Fz S H nx (.lit (.slice none 0 0)) (.vec 0 [])
  | frz {id g o l z : Nat} {e : TypeId} {cells c' : List AVal} (hs : S id) (hg : H.get id = some (.arr g e cells)) (hl : c'.length = l * z)
      (h:∀ i (h:i < l * z) (h2:o + i < cells.length) (h':i < c'.length), Fz S H nx cells[o + i] c'[i]):Fz S H nx (.own id g o l z) (.vec l c')
  | pfrz {id g o : Nat} {e : TypeId} {cells c' : List AVal} (hs : S id) (hg : H.get id = some (.arr g e cells)) (hne : cells ≠ []) (hl : c'.length = cells.length)
      (h:∀ i (h:i < cells.length) (h':i < c'.length), Fz S H nx cells[i] c'[i]):Fz S H nx (.ptr id g o) (.vptr c' o)
theorem Fz.refl {S:Nat -> Prop}{H:AHeap}{nx:Nat}{v:AVal}(h:Below nx v)(hs:∀ id, id < nx -> ¬ S id):Fz S H nx v v := by
  induction h with
  | lit v => exact .lit v
  | vec _ ih => exact .vec rfl fun i h _ => ih i h
  | vptr _ ih => exact .vptr rfl fun i h _ => ih i h
  | agg _ ih => exact .agg rfl fun i h _ => ih i h
  | tup _ ih => exact .tup rfl fun i h _ => ih i h
  | clo _ _ ih1 ih2 => exact .clo rfl rfl (fun i h _ => ih1 i h) fun i h _ => ih2 i h
  | own h => exact .own h (hs _ h)
  | ptr h => exact .ptr h (hs _ h)
  | yld h => exact .yld h (hs _ h)
def zK (S:Nat -> Prop)(H:AHeap)(nx:Nat):Blk -> Blk -> Prop
  | .arr g e c, .arr g' e' c' => g' = g /\ e' = e /\ c'.length = c.length /\ ∀ i (_:i < c.length) (_:i < c'.length), Fz S H nx c[i] c'[i]
  | .loop st pend n env ps asg body, .loop st' pend' n' env' ps' asg' body' => st' = st /\ pend' = pend /\ n' = n /\ env' = env /\ ps' = ps /\ asg' = asg /\ body' = body /\ ∀ t, t < n -> Fz S H nx (env t) (env t)
  | .mp es, .mp es' => es' = es
  | .rsv, .rsv => True
  | _, _ => False
structure FzH (S:Nat -> Prop)(H H':AHeap):Prop where
  gone:∀ id, S id -> H'.get id = none
  kept:∀ id b, ¬ S id -> H.get id = some b -> id < H'.next /\ ∃ b', H'.get id = some b' /\ zK S H H'.next b b'
  none:∀ id, ¬ S id -> H.get id = none -> H'.get id = none
open Classical in
noncomputable def eh (S:Nat -> Prop)(Γ:au):au := fun id => if S id then none else Γ id
theorem gJ {S:Nat -> Prop}{id:Nat}(h:¬ S id):eh S Γ id = Γ id := by simp [eh, h]
theorem iZ {S:Nat -> Prop}{id:Nat}{x:Nat × Nat × Nat}(h:eh S Γ id = some x):¬ S id /\ Γ id = some x := by
  unfold eh at h
  split at h
  · cases h
  · exact⟨by assumption, h⟩
theorem ry {S:Nat -> Prop}{b:Nat}(h:(eh S Γ).dZ b):Γ.dZ b := by
  obtain⟨id, base, n, h⟩ := h
  exact⟨id, base, n, (iZ h).2⟩
theorem FzH.back {S:Nat -> Prop}(F:FzH S H H'){id:Nat}{b':Blk}(h:H'.get id = some b'):¬ S id /\ ∃ b, H.get id = some b /\ zK S H H'.next b b' /\ id < H'.next := by
  have hs:¬ S id := fun hs => by rw[F.gone id hs]at h; cases h
  refine⟨hs, ?_⟩
  cases hg:H.get id with
  | none => rw[F.none id hs hg]at h; cases h
  | some b =>
    obtain⟨h1, b1, h2, h3⟩ := F.kept id b hs hg
    rw[h]at h2
    cases h2
    exact⟨b, rfl, h3, h1⟩
theorem Fz.sound {S:Nat -> Prop}(R:RelH P G Γ H w)(F:FzH S H H'){v v':AVal}(hf:Fz S H H'.next v v'):∀ {cv:Value}, RelV P Γ H w v cv -> RelV P (eh S Γ) H' w v' cv := by
  induction hf with
  | lit v => intro cv h; cases h; exact .lit _
  | nil => intro cv h; cases h; exact .vec0 none 0
  | deadOwn hlt hs =>
    intro cv h
    cases h with
    | own h => exact .own ⟨hlt, h.2.1, fun hr => (by rw[F.gone _ hs]at hr; cases hr), fun _ _ _ hg => (by rw[F.gone _ hs]at hg; cases hg)⟩
  | deadPtr hlt hs =>
    intro cv h
    cases h with
    | ptr h => exact .ptr ⟨hlt, h.2.1, fun hr => (by rw[F.gone _ hs]at hr; cases hr), fun _ _ _ hg => (by rw[F.gone _ hs]at hg; cases hg)⟩
  | deadYld hlt hs =>
    intro cv h
    cases h with
    | yld h => exact .yld ⟨hlt, h.2.1, fun hr => (by rw[F.gone _ hs]at hr; cases hr), fun _ _ _ _ _ _ _ hg => (by rw[F.gone _ hs]at hg; cases hg), fun _ hg => (by rw[F.gone _ hs]at hg; cases hg)⟩
  | vec hl hc ih =>
    intro cv h
    cases h with
    | vec0 a cap =>
      rename_i c' 
      have:c' = [] := QT hl
      subst this
      exact .vec0 a cap
    | vec hb hlt hlen hcs hcell hrel => exact .vec (fun h => hb (ry h)) hlt hlen (by omega) hcell fun i h1 h2 => ih i (by omega) h1 (hrel i (by omega) h2)
  | vptr hl hc ih =>
    intro cv h
    cases h with
    | vptr hb hlt hcs hcell hrel => exact .vptr (fun h => hb (ry h)) hlt (by omega) hcell fun i h1 h2 => ih i (by omega) h1 (hrel i (by omega) h2)
  | agg hl hc ih =>
    intro cv h
    cases h with
    | agg hcs hrel => exact .agg (by omega) fun i h1 h2 => ih i (by omega) h1 (hrel i (by omega) h2)
  | tup hl hc ih =>
    intro cv h
    cases h with
    | tup hcs hrel => exact .tup (by omega) fun i h1 h2 => ih i (by omega) h1 (hrel i (by omega) h2)
  | clo ha hb h1 h2 ih1 ih2 =>
    intro cv h
    cases h with
    | clo hfs hcs hf hc => exact .clo (by omega) (by omega) (fun i a b => ih1 i (by omega) a (hf i (by omega) b)) fun i a b => ih2 i (by omega) a (hc i (by omega) b)
  | own hlt hs =>
    intro cv h
    cases h with
    | own h =>
      obtain⟨h1, h2, h0, h3⟩ := h
      refine .own ⟨hlt, h2, fun hr => ?_, fun g' e' cells' hg' => ?_⟩
      · obtain⟨_, b, hb, hfb, _⟩ := F.back hr
        cases b with
        | rsv => exact h0 hb
        | _ => exact hfb.elim
      · obtain⟨_, b, hb, hfb, _⟩ := F.back hg'
        cases b with
        | arr g e cells =>
          obtain⟨rfl, rfl, hlen, _⟩ := hfb
          have := h3 _ _ _ hb
          rw[gJ hs, hlen]
          exact this
        | _ => exact hfb.elim
  | ptr hlt hs =>
    intro cv h
    cases h with
    | ptr h =>
      obtain⟨h1, h2, h0, h3⟩ := h
      refine .ptr ⟨hlt, h2, fun hr => ?_, fun g' e' cells' hg' => ?_⟩
      · obtain⟨_, b, hb, hfb, _⟩ := F.back hr
        cases b with
        | rsv => exact h0 hb
        | _ => exact hfb.elim
      · obtain⟨_, b, hb, hfb, _⟩ := F.back hg'
        cases b with
        | arr g e cells =>
          obtain⟨rfl, rfl, hlen, _⟩ := hfb
          have := h3 _ _ _ hb
          rw[gJ hs]
          exact this
        | _ => exact hfb.elim
  | yld hlt hs =>
    intro cv h
    cases h with
    | yld h =>
      obtain⟨h1, h2, h0, h3, h4⟩ := h
      refine .yld ⟨hlt, h2, fun hr => ?_, fun st pend n env ps asg body hg' => ?_, fun es hg' => ?_⟩
      · obtain⟨_, b, hb, hfb, _⟩ := F.back hr
        cases b with
        | rsv => exact h0 hb
        | _ => exact hfb.elim
      · obtain⟨_, b, hb, hfb, _⟩ := F.back hg'
        cases b with
        | loop st0 pend0 n0 env0 ps0 asg0 body0 =>
          have := h3 _ _ _ _ _ _ _ hb
          rw[gJ hs]
          exact this
        | _ => exact hfb.elim
      · obtain⟨_, b, hb, hfb, _⟩ := F.back hg'
        cases b with
        | mp es0 =>
          have := h4 _ hb
          rw[gJ hs]
          exact this
        | _ => exact hfb.elim
  | @frz id g o l z e cells c' hs hg hl hc ih =>
    intro cv h
    cases h with
    | own h =>
      obtain⟨h1, h2, h0, h3⟩ := h
      have h4 := (h3 _ _ _ hg).2 rfl
      have harr := R.arr id g e cells hg
      cases hΓ:Γ id with
      | none =>
        rw[hΓ]at h4
        obtain⟨rfl, rfl, rfl⟩ := h4
        have:c' = [] := QT (by simpa using hl)
        subst this
        exact .vec0 _ _
      | some y =>
        obtain⟨b, base, n⟩ := y
        rw[hΓ]at h4 harr
        obtain⟨a, cap, rfl, hcap, hoff, hor⟩ := h4
        obtain⟨c, a1, a2, a3, a4⟩ := harr
        rcases hor with ⟨rfl, hn⟩ | ⟨rfl, rfl⟩
        · have hcell : ∀ i, i < l * z → ∃ cv, c[base + (o + i)]? = some cv ∧ ∀ (h : o + i < cells.length), RelV P Γ H w cells[o + i] cv := fun i hi => by
            obtain⟨cv, b1, b2⟩ := a4 (o + i) (by omega)
            exact⟨cv, b1, fun _ => b2⟩
          let cs:List Value := (List.range (l * z)).map fun i => (c[base + (o + i)]?).getD undef
          have hcs:cs.length = c'.length := by simp [cs, hl]
          refine .vec (cs := cs) (fun ho => ?_) (R.lt _ _ _ _ hΓ) hcap hcs (fun i hi => ?_) fun i hi hi' => ?_
          · obtain⟨id', base', n', h'⟩ := ho
            obtain⟨hns, h''⟩ := iZ h'
            have := R.inj _ _ _ _ _ _ _ h'' hΓ
            subst this
            exact hns hs
          · have hi2:i < l * z := by rw[hcs, hl]at hi; exact hi
            obtain⟨cv, b1, _⟩ := hcell i hi2
            have:cs[i] = cv := by simp [cs, b1]
            rw[this]
            have he:base + o + i = base + (o + i) := by omega
            simp only[World.cell?, a1, he]
            exact b1
          · have hi2:i < l * z := by rw[hl]at hi; exact hi
            obtain⟨cv, b1, b2⟩ := hcell i hi2
            have:cs[i] = cv := by simp [cs, b1]
            rw[this]
            exact ih i hi2 (by omega) hi (b2 (by omega))
        · have:c' = [] := QT (by simpa using hl)
          subst this
          exact .vec0 _ _
  | @pfrz id g o e cells c' hs hg hne hl hc ih =>
    intro cv h
    cases h with
    | ptr h =>
      obtain⟨h1, h2, h0, h3⟩ := h
      obtain⟨b, base, n, hΓ, rfl⟩ := (h3 _ _ _ hg).2 rfl
      have harr := R.arr id g e cells hg
      rw[hΓ]at harr
      obtain⟨c, a1, a2, a3, a4⟩ := harr
      let cs:List Value := (List.range cells.length).map fun i => (c[base + i]?).getD undef
      have hcs:cs.length = c'.length := by simp [cs, hl]
      have hcell:∀ i (hi:i < cells.length) (hi':i < cs.length), c[base + i]? = some cs[i] /\ RelV P Γ H w cells[i] cs[i] := fun i hi hi' => by
        obtain⟨cv, b1, b2⟩ := a4 i hi
        have:cs[i] = cv := by simp [cs, b1]
        rw[this]
        exact⟨b1, b2⟩
      refine .vptr (cs := cs) (fun ho => ?_) (R.lt _ _ _ _ hΓ) hcs (fun i hi => ?_) fun i hi hi' => ?_
      · obtain⟨id', base', n', h'⟩ := ho
        obtain⟨hns, h''⟩ := iZ h'
        have := R.inj _ _ _ _ _ _ _ h'' hΓ
        subst this
        exact hns hs
      · simp only[World.cell?, a1]
        exact(hcell i (by omega) hi).1
      · exact ih i (by omega) hi (hcell i (by omega) hi').2
theorem Fz.plain {S:Nat -> Prop}{H:AHeap}{nx:Nat}{v:AVal}(h:Below 0 v):Fz S H nx v v := by
  induction h with
  | lit v => exact .lit v
  | vec _ ih => exact .vec rfl fun i h _ => ih i h
  | vptr _ ih => exact .vptr rfl fun i h _ => ih i h
  | agg _ ih => exact .agg rfl fun i h _ => ih i h
  | tup _ ih => exact .tup rfl fun i h _ => ih i h
  | clo _ _ ih1 ih2 => exact .clo rfl rfl (fun i h _ => ih1 i h) fun i h _ => ih2 i h
  | own h => exact absurd h (Q5 _)
  | ptr h => exact absurd h (Q5 _)
  | yld h => exact absurd h (Q5 _)
theorem Fz.ints {S : Nat → Prop} {H : AHeap} {nx id g o : Nat} {e : TypeId} {cells : List AVal} {x : List Int} {n : Nat} (hs : S id) (hg : H.get id = some (.arr g e cells)) (hn : n = x.length) (hx : ∀ i (h : i < x.length), cells[o + i]? = some (ab x[i])) :
    Fz S H nx (.own id g o n 1) (ag x) := by
  subst hn
  refine .frz hs hg (by simp [Go.Hx.ints]) fun i hi h2 h' => ?_
  have h1 := hx i (by omega)
  rw[QK h2]at h1
  rw[Option.some.inj h1]
  have:(Go.Hx.ints x)[i] = ab x[i] := by simp [Go.Hx.ints]
  rw[this]
  exact .lit _
theorem Fz.uP {S:Nat -> Prop}{H:AHeap}{nx:Nat}:Fz S H nx (.lit (.slice none 0 0)) (ag []) := .nil
theorem Fz.ik {S:Nat -> Prop}{H:AHeap}{nx:Nat}(x:List Int):Fz S H nx (ag x) (ag x) :=
  .plain (.vec fun i h => by simp only[Go.Hx.ints, QY]; exact .lit _)
theorem kL (x:List Int):(Go.Hx.ints x).all AVal.one = true := by simp [Go.Hx.ints, ab, AVal.one, Value.oneCell]
def el (G:Nat -> Option (List AVal)):Prop := ∀ g cells, G g = some cells -> Below 0 (.vptr cells 0)
theorem FzH.aT {S:Nat -> Prop}(F:FzH S H H'):Evo Γ H w (eh S Γ) H' w where
  os := rfl
  tape := rfl
  output := rfl
  size := Nat.le_refl _
  keep := fun _ _ h => ⟨rfl, fun h' => h (ry h')⟩
  live := fun id _ _ x' hx => by
    obtain⟨hs, b, hb, hfb, _⟩ := F.back hx
    refine⟨b, hb, ?_⟩
    cases b <;> cases x' <;> first | exact hfb.elim | skip
    · obtain⟨rfl, rfl, hl, _⟩ := hfb
      exact⟨Nat.le_refl _, fun _ => ⟨gJ hs, rfl, hl⟩⟩
    · obtain⟨rfl, rfl, rfl, rfl, rfl, rfl, rfl, _⟩ := hfb
      exact⟨gJ hs, rfl, rfl, rfl, rfl, rfl⟩
    · exact gJ hs
    · trivial
  frz := fun _ _ => rfl
theorem FzH.rel {S:Nat -> Prop}(hG:el G)(R:RelH P G Γ H w)(F:FzH S H H'):RelH P G (eh S Γ) H' w where
  arr id g e cells hg := by
    obtain⟨hs, b, hb, hfb, _⟩ := F.back hg
    cases b with
    | arr g0 e0 c0 =>
      obtain⟨rfl, rfl, hl, hc⟩ := hfb
      have h1 := R.arr _ _ _ _ hb
      rw[gJ hs]
      cases hΓ:Γ id with
      | none =>
        rw[hΓ]at h1
        simp only at h1 ⊢
        subst h1
        exact QT hl
      | some y =>
        obtain⟨b, base, n⟩ := y
        rw[hΓ]at h1
        obtain⟨c, a1, a2, a3, a4⟩ := h1
        refine⟨c, a1, a2, by omega, fun i hi => ?_⟩
        obtain⟨cv, b1, b2⟩ := a4 i (by omega)
        exact⟨cv, b1, (hc i (by omega) hi).sound R F b2⟩
    | _ => exact hfb.elim
  loop id st pend n env ps asg body hg := by
    obtain⟨hs, b, hb, hfb, _⟩ := F.back hg
    cases b with
    | loop =>
      obtain⟨rfl, rfl, rfl, rfl, rfl, rfl, rfl, hf⟩ := hfb
      obtain⟨b, rr, a1, a2, a3, a4, a5, a6, a7, a8, a9⟩ := R.loop _ _ _ _ _ _ _ _ hb
      exact⟨b, rr, by rw[gJ hs]; exact a1, a2, a3, a4, a5, a6, a7, a8, fun t ht => (hf t (by omega)).sound R F (a9 t ht)⟩
    | _ => exact hfb.elim
  mp id es hg := by
    obtain⟨hs, b, hb, hfb, _⟩ := F.back hg
    cases b with
    | mp es0 =>
      have hfb':es = es0 := hfb
      subst hfb'
      obtain⟨b, a1, a2⟩ := R.mp _ _ hb
      exact⟨b, by rw[gJ hs]; exact a1, a2⟩
    | _ => exact hfb.elim
  rsv id hg := by
    obtain⟨hs, b, hb, hfb, _⟩ := F.back hg
    cases b with
    | rsv => rw[gJ hs]; exact R.rsv id hb
    | _ => exact hfb.elim
  inj id id' b base n base' n' h h' := R.inj id id' b base n base' n' (iZ h).2 (iZ h').2
  dom id x h := by
    obtain⟨hs, h⟩ := iZ h
    obtain⟨y, hy⟩ := R.dom id x h
    obtain⟨_, b', hb', _⟩ := F.kept id y hs hy
    exact⟨b', hb'⟩
  lt id b base n h := R.lt id b base n (iZ h).2
  next id y h := by
    obtain⟨_, _, _, _, h⟩ := F.back h
    exact h
  glob g cells h := (Fz.plain (hG g cells h)).sound R F (R.glob g cells h)
  gsz := R.gsz
theorem kG.freeze {S:Nat -> Prop}(hG:el G){v v':AVal}(F:FzH S H H')(hv:Fz S H H'.next v v'):kG P G H v H' v' :=
  fun Γ _ R => ⟨eh S Γ, F.rel hG R, F.aT, fun _ h => hv.sound R F h⟩
theorem cH.freeze {S:Nat -> Prop}(hG:el G){s s':St}(F:FzH S s.H s'.H)(hv:∀ t, Fz S s.H s'.H.next (s.ρ t) (s'.ρ t)):cH P G s s' := by
  intro n wb Γ a w hs
  have E:Evo Γ s.H w (eh S Γ) s'.H w := F.aT
  refine⟨eh S Γ, ⟨hs.size, fun t => (hv t).sound hs.heap F (hs.env t), F.rel hG hs.heap, hs.defers.aT E, hs.low⟩, E, fun rd rb hr hri => ?_⟩
  cases rd with
  | none => exact hr
  | some id =>
    obtain⟨b, st, pend, n, env, ps, asg, body, h1, h2, h3⟩ := hr
    obtain⟨st', pend', n', env', ps', asg', body', h4⟩ := hri
    obtain⟨hns, _⟩ := F.back h4
    exact⟨b, _, _, _, _, _, _, _, h1, by rw[gJ hns]; exact h2, h4⟩
theorem HG (hc:Clo H)(L:List Blk):FzH (fun id => H.next <= id) (ext H L) H where
  gone id hs := by
    cases h:H.get id with
    | none => rfl
    | some b => have := hc.lt id b h; omega
  kept id b hs hb := by
    have hlt:id < H.next := SJ hs
    rw[jN H L id hlt]at hb
    have hbb := hc.below id b hb
    refine⟨hlt, b, hb, ?_⟩
    have hno:∀ i, i < H.next -> ¬ H.next <= i := fun i h => Nat.not_le_of_lt h
    cases b with
    | rsv => trivial
    | mp => rfl
    | arr g e cells => exact⟨rfl, rfl, rfl, fun i h _ => .refl (hbb i h) hno⟩
    | loop st pend n env ps asg body => exact⟨rfl, rfl, rfl, rfl, rfl, rfl, rfl, fun t ht => .refl (hbb t ht) hno⟩
  none id hs hb := by
    rw[jN H L id (SJ hs)]at hb
    exact hb
theorem az.drop (hG:el G)(hc:Clo H){L:List Blk}{K:ARes -> AHeap -> Prop}{v v':AVal}(hv:Fz (fun id => H.next <= id) (ext H L) H.next v v')(hk:K (.ret v') H):az P G H K v (ext H L) :=
  ⟨v', H, .freeze hG (HG hc L) hv, Nat.le_refl _, hk⟩
theorem ah.clo {f : FuncId} {args : List AVal} {K : ARes → AHeap → Prop} (hf : ∃ fn, P.funcs[f]? = some fn ∧ fn.body.isNone = false ∧ (fn.name == "runtime.NumGoroutine") = false) (h : Clo H → ah P G f args H K) : ah P G f args H K :=
  ⟨hf, fun Γ w cargs R hr => (h R.clo).2 Γ w cargs R hr⟩
end Go.Hx
namespace Go.Hx
variable {P:Program} {G:Nat -> Option (List AVal)} {Γ Γ':au} {H H':AHeap} {w w':World}
theorem rz (R : RelH P G Γ H w) {id : Nat} {st : LoopState} {pend : Option Code} {n : Nat} {env : Env} {ps : Array Tmp} {asg body : Code} (hg : H.get id = some (.loop st pend n env ps asg body)) :
    ∃ b r, Γ id = some (b, 0, 0) /\ w.heap[b]? = some (.loop r) /\ r.state = st /\ r.pending = pend /\ r.params = ps /\ r.assign = asg /\ r.body = body /\ r.tmps.size = n /\ (∀ t (h:t < r.tmps.size), RelV P Γ H w (env t) r.tmps[t]) /\
      ∀ st' pend', RelH P G Γ (H.upd id (.loop st' pend' n env ps asg body)) (bc w b (.loop { r with state := st', pending := pend' })) /\
        Evo Γ H w Γ (H.upd id (.loop st' pend' n env ps asg body)) (bc w b (.loop { r with state := st', pending := pend' })) := by
  obtain⟨b, r, hΓ, hb, h1, h2, h3, h4, h5, h6, h7⟩ := R.loop id st pend n env ps asg body hg
  refine⟨b, r, hΓ, hb, h1, h2, h3, h4, h5, h6, h7, fun st' pend' => ?_⟩
  have hlt := R.lt id b 0 0 hΓ
  have E:Evo Γ H w Γ (H.upd id (.loop st' pend' n env ps asg body)) (bc w b (.loop { r with state := st', pending := pend' })) :=
    { os := rfl, tape := rfl, output := rfl
      size := by rw[hU]; exact Nat.le_refl _
      keep := fun c hc ho => ⟨by
        rw[dw, QQ]
        rintro⟨rfl, _⟩
        exact ho ⟨id, 0, 0, hΓ⟩, ho⟩
      live := fun i hi _ x' hx => by
        rw[ao]at hx
        split at hx
        · rename_i hii
          subst hii
          simp only[Option.some.injEq]at hx
          subst hx
          exact⟨_, hg, rfl, rfl, rfl, rfl, rfl, rfl⟩
        · exact⟨x', hx, Blk.le_refl _ _ _⟩
      frz := fun a _ => oO hb (fun _ _ _ h => by cases h) (fun _ _ _ h => by cases h) a }
  refine⟨?_, E⟩
  have hne:∀ i b' base n', Γ i = some (b', base, n') -> i ≠ id -> b' ≠ b := fun i b' base n' hi hii hbb => by
    subst hbb
    exact hii (R.inj _ _ _ _ _ _ _ hi hΓ)
  exact
    { arr := fun i g e cells hgi => by
        rw[ao]at hgi
        split at hgi
        · simp at hgi
        · rename_i hii
          have h := R.arr i g e cells hgi
          cases hi:Γ i with
          | none => rw[hi]at h; exact h
          | some y =>
            obtain⟨b', base, n'⟩ := y
            rw[hi]at h
            obtain⟨c, a1, a2, a3, a4⟩ := h
            refine⟨c, ?_, a2, a3, fun j hj => let ⟨cv, b1, b2⟩ := a4 j hj; ⟨cv, b1, b2.aT E (Nat.le_refl _)⟩⟩
            rw[dw, QQ]
            · exact a1
            · rintro⟨h, _⟩
              exact hne i b' base n' hi hii h
      loop := fun i st2 pend2 n2 env2 ps2 asg2 body2 hgi => by
        rw[ao]at hgi
        split at hgi
        · rename_i hii
          subst hii
          simp only[Option.some.injEq, Blk.loop.injEq]at hgi
          obtain⟨rfl, rfl, rfl, rfl, rfl, rfl, rfl⟩ := hgi
          refine⟨b, { r with state := st', pending := pend' }, hΓ, by rw[dw, QN ⟨rfl, hlt⟩], rfl, rfl, h3, h4, h5, h6, fun t ht => (h7 t ht).aT E (Nat.le_refl _)⟩
        · rename_i hii
          obtain⟨b2, r2, a1, a2, a3, a4, a5, a6, a7, a8, a9⟩ := R.loop i _ _ _ _ _ _ _ hgi
          refine⟨b2, r2, a1, ?_, a3, a4, a5, a6, a7, a8, fun t ht => (a9 t ht).aT E (Nat.le_refl _)⟩
          rw[dw, QQ]
          · exact a2
          · rintro⟨h, _⟩
            exact hne i b2 0 0 a1 hii h
      mp := fun i es hgi => by
        rw[ao]at hgi
        split at hgi
        · simp at hgi
        · rename_i hii
          obtain⟨b2, a1, a2⟩ := R.mp i _ hgi
          refine⟨b2, a1, ?_⟩
          rw[dw, QQ]
          · exact a2
          · rintro⟨h, _⟩
            exact hne i b2 0 0 a1 hii h
      rsv := fun i hgi => by
        rw[ao]at hgi
        split at hgi
        · simp at hgi
        · exact R.rsv i hgi
      inj := R.inj
      dom := fun i x hi => by
        obtain⟨y, hy⟩ := R.dom i x hi
        rw[ao]
        split
        · exact⟨_, rfl⟩
        · exact⟨y, hy⟩
      lt := fun i b' base n' hi => by rw[hU]; exact R.lt i b' base n' hi
      next := fun i y hy => by
        rw[ao]at hy
        split at hy
        · rename_i hii
          subst hii
          exact R.next _ _ hg
        · exact R.next i y hy
      glob := fun g cells h => (R.glob g cells h).aT E (Nat.le_refl _)
      gsz := R.mI E }
theorem pA {b:Nat}{r:Loop}(h:w.heap[b]? = some (.loop r)):(Instr.getLoop b).run P w = .ok r w := by
  have hg:(getObj b).run P w = .ok (.loop r) w := by simp [getObj, Sem.run, h]
  unfold Instr.getLoop
  rw[aj hg]
  rfl
theorem uQ {b:Nat}{r:Loop}{o':Obj}(h:w.heap[b]? = some (.loop r)):(setObj b o').run P w = .ok () (bc w b o') := by
  simp [setObj, Sem.run, h, bc]
theorem HH {b:Nat}{r:Loop}(h:w.heap[b]? = some (.loop r))(hs:r.state = .ready):(Instr.beginRound b).run P w = .ok () (bc w b (.loop { r with state := .busy, pending := r.pending })) := by
  unfold Instr.beginRound
  rw[aj (pA h), aj (uQ h)]
  simp only[hs]
  rfl
theorem HI {b : Nat} {r : Loop} (h : w.heap[b]? = some (.loop r)) (j : Option Code) :
    (Instr.endRound b j).run P w = .ok (.bool j.isNone) (bc w b (.loop { r with state := if j.isNone then .ready else .done, pending := j })) := by
  unfold Instr.endRound
  rw[aj (pA h), aj (uQ h)]
  rfl
theorem HJ {b:Nat}{r:Loop}(h:w.heap[b]? = some (.loop r))(hs:(r.state == .busy) = false):(Instr.endLoop b).run P w = .ok r.pending (bc w b (.loop { r with state := .exhausted, pending := r.pending })) := by
  unfold Instr.endLoop
  rw[aj (pA h)]
  simp only[hs, Bool.false_eq_true, if_false]
  rw[aj (uQ h)]
  rfl
def kM (ρ:Env)(l:List (Tmp × AVal)):Env := l.foldl (fun ρ p => ay ρ (some p.1) p.2) ρ
def dz (env:Env)(n:Nat):Env := fun t => if t < n then env t else .lit undef
def kN (st:LoopState)(pend:Option Code):Option Blk -> Option Blk
  | some (.loop _ _ n env ps asg body) => some (.loop st pend n env ps asg body)
  | _ => none
def zL:Option Blk -> Option Blk
  | some (.loop .ready pend n env ps asg body) => some (.loop .busy pend n env ps asg body)
  | _ => none
def uR (id:Nat)(K:ARes -> AHeap -> Prop):AX -> St -> Prop
  | .normal, s => aP (kN .ready none (s.H.get id)) fun b => K (.ret (.lit (.bool true))) (s.H.upd id b)
  | .ret, s => aP (kN .done (some .ret) (s.H.get id)) fun b => K (.ret (.lit (.bool false))) (s.H.upd id b)
  | .exit i, s => aP (kN .done (some (.exit i)) (s.H.get id)) fun b => K (.ret (.lit (.bool false))) (s.H.upd id b)
  | .goto i, s => aP (kN .done (some (.goto i)) (s.H.get id)) fun b => K (.ret (.lit (.bool false))) (s.H.upd id b)
  | .panic, _ => False
def zM (P:Program)(G:Nat -> Option (List AVal))(n id:Nat)(body:Code)(K:ARes -> AHeap -> Prop):AX -> St -> Prop
  | .normal, s => aP (zL (s.H.get id)) fun b => W P G n (some id) body (uR id K) ⟨s.ρ, s.H.upd id b⟩
  | _, _ => False
theorem HK : ∀ (l : List (Tmp × AVal)) (cl : List (Tmp × Value)) (ρ : Env) (tmps : Array Value), l.length = cl.length → (∀ i (h : i < l.length) (h' : i < cl.length), l[i].1 = cl[i].1 ∧ l[i].1 < tmps.size ∧ RelV P Γ H w l[i].2 cl[i].2) →
    (∀ t, RelV P Γ H w (ρ t) (tmps.getD t undef)) ->
    ((cl.foldl (fun tmps (p:Tmp × Value) => tmps.setIfInBounds p.1 p.2) tmps).size = tmps.size) /\ ∀ t, RelV P Γ H w (kM ρ l t) ((cl.foldl (fun tmps (p:Tmp × Value) => tmps.setIfInBounds p.1 p.2) tmps).getD t undef) := by
  intro l
  induction l with
  | nil =>
    intro cl ρ tmps hl _ he
    cases cl with
    | nil => exact⟨rfl, he⟩
    | cons => simp at hl
  | cons x l ih =>
    intro cl ρ tmps hl h he
    cases cl with
    | nil => simp at hl
    | cons y cl =>
      obtain⟨h1, h2, h3⟩ := h 0 (by simp) (by simp)
      simp only[Rq]at h1 h2 h3
      have := ih cl (ay ρ (some x.1) x.2) (tmps.setIfInBounds y.1 y.2) (by simpa using hl) (fun i a b => by
        have := h (i + 1) (by simpa using a) (by simpa using b)
        simp only[SU]at this
        simpa using this) (fun t => by
          by_cases ht:t = x.1
          · subst ht
            have e1:ay ρ (some x.1) x.2 x.1 = x.2 := by simp [ay]
            have e2:(tmps.setIfInBounds y.1 y.2).getD x.1 undef = y.2 := by rw[<- h1]; simp [h2]
            rw[e1, e2]
            exact h3
          · have e1:ay ρ (some x.1) x.2 t = ρ t := by simp [ay, ht]
            have e2:(tmps.setIfInBounds y.1 y.2).getD t undef = tmps.getD t undef := by
              simp only[Ro]
              rw[Rt, QQ (by rw[<- h1]; exact fun h => ht h.symm)]
            rw[e1, e2]
            exact he t)
      refine⟨?_, this.2⟩
      have h4 := this.1
      simp only[Array.size_setIfInBounds]at h4
      exact h4
theorem HL {st:LoopState}{pend:Option Code}{x:Option Blk}{b:Blk}(h:kN st pend x = some b):∃ st0 p0 n env ps asg body, x = some (.loop st0 p0 n env ps asg body) /\ b = .loop st pend n env ps asg body := by
  unfold kN at h
  split at h
  · cases h; exact⟨_, _, _, _, _, _, _, rfl, rfl⟩
  · cases h
theorem aG.yld {id : Nat} {args : List AVal} {K : ARes → AHeap → Prop} {pend : Option Code} {n : Nat} {env : Env} {ps : Array Tmp} {asg body : Code} (hg : H.get id = some (.loop .ready pend n env ps asg body)) (hl : args.length = ps.size)
    (hps:ps.toList.all (fun t => decide (t < n)) = true) (h:W P G n (some id) asg (zM P G n id body K) ⟨kM (dz env n) (ps.toList.zip args), H⟩):aG P G (.yld id) args H K := by
  intro Γ w cfv cargs R hv hr
  cases hv with
  | yld hy =>
    obtain⟨b, hΓ, rfl⟩ := hy.2.2.2.1 _ _ _ _ _ _ _ hg
    obtain⟨b', r, hΓ', hb, h1, h2, h3, h4, h5, h6, h7, _⟩ := rz R hg
    rw[hΓ]at hΓ'
    simp only[Option.some.injEq, Prod.mk.injEq]at hΓ'
    obtain⟨rfl, _⟩ := hΓ'
    have hsz:cargs.size = r.params.size := by rw[hr.1, hl, h3]
    refine⟨{ target := .fn (.yield b) #[], args := #[] ++ cargs }, rfl, .inr (.inl ⟨b, r.fn, (r.params.zip (#[] ++ cargs)).foldl (fun tmps (t, a) => tmps.setIfInBounds t a) r.tmps, r.assign, r.body, ?_, ?_⟩)⟩
    · show (Instr.yield b (#[] ++ cargs)).run P w = _
      unfold Instr.yield
      rw[aj (pA hb)]
      have:¬ ((#[] ++ cargs).size ≠ r.params.size) := by simp [hsz]
      rw[QQ this]
      rfl
    · refine roundIn_of_wpIn (F := Fence.wide) trivial ?_
      have hfold:(r.params.zip (#[] ++ cargs)).foldl (fun tmps (t, a) => tmps.setIfInBounds t a) r.tmps = (r.params.toList.zip cargs.toList).foldl (fun tmps (p:Tmp × Value) => tmps.setIfInBounds p.1 p.2) r.tmps := by
        rw[<- Array.foldl_toList]
        simp
      rw[hfold, h4, h5]
      have hset := HK (P := P) (Γ := Γ) (H := H) (w := w) (ps.toList.zip args) (r.params.toList.zip cargs.toList) (dz env n) r.tmps (by simp [hr.1, h3]) (fun i a c => by
          simp only[List.length_zip, Sa]at a c
          simp only[List.getElem_zip, RC]
          refine⟨by simp only[h3], ?_, hr.2 i (by omega) (by omega)⟩
          rw[h6]
          have := Rd.1 hps (ps[i]'(by omega)) (by simp)
          simpa using this) (fun t => by
          unfold dz
          by_cases ht:t < n
          · rw[QN ht]
            have:r.tmps.getD t undef = r.tmps[t]'(by omega) := by simp [h6, ht]
            rw[this]
            exact h7 t (by omega)
          · rw[QQ ht]
            have:r.tmps.getD t undef = undef := by simp [h6, ht]
            rw[this]
            exact .lit _)
      have hs:RelS P G n ⟨0, []⟩ Γ ⟨kM (dz env n) (ps.toList.zip args), H⟩ { tmps := (r.params.toList.zip cargs.toList).foldl (fun tmps (p:Tmp × Value) => tmps.setIfInBounds p.1 p.2) r.tmps, defers := [] } w :=
        ⟨by rw[hset.1, h6], hset.2, R, ⟨[], rfl, Marks.nil⟩, SX _⟩
      refine wpIn_mono (h ⟨0, []⟩ Γ _ w (some b) hs ⟨b, _, _, _, _, _, _, _, rfl, hΓ, hg⟩) ?_
      rintro e a₁ w₁ ⟨x, s₁, Γ₁, hx, hq, hs₁, E₁, hn₁, hr₁, _⟩
      cases x with
      | normal =>
        cases e with
        | normal =>
          obtain⟨blk, hbg, hW⟩ := hq
          obtain⟨b1, st1, p1, n1, env1, ps1, asg1, body1, hb1, hΓ₁, hg₁⟩ := hr₁
          simp only[Option.some.injEq]at hb1
          subst hb1
          rw[hg₁]at hbg
          have hst:st1 = .ready /\ blk = .loop .busy p1 n1 env1 ps1 asg1 body1 := by
            cases st1 <;> simp [zL]at hbg
            exact⟨rfl, hbg.symm⟩
          obtain⟨rfl, rfl⟩ := hst
          obtain⟨b2, r1, hΓ₂, hb2, k1, k2, k3, k4, k5, k6, k7, kset⟩ := rz hs₁.heap hg₁
          rw[hΓ₁]at hΓ₂
          simp only[Option.some.injEq, Prod.mk.injEq]at hΓ₂
          obtain⟨rfl, _⟩ := hΓ₂
          obtain⟨R2, E2⟩ := kset .busy r1.pending
          rw[k2]at R2 E2
          have hb3:Γ₁ id = some (b, 0, 0) := hΓ₁
          refine⟨_, HH hb2 k1, ?_⟩
          rw[k2]
          refine wpIn_mono (hW ⟨0, []⟩ Γ₁ a₁ _ (some b) (hs₁.move E2 (Nat.le_refl _) R2) ⟨b, _, _, _, _, _, _, _, rfl, hΓ₁, by rw[ao, QN rfl]⟩) ?_
          rintro e a₂ w₂ ⟨x, s₂, Γ₂, hx, hq, hs₂, E3, hn₂, hr₂, _⟩
          obtain⟨b4, st4, p4, n4, env4, ps4, asg4, body4, hb4, hΓ₄, hg₄⟩ := hr₂
          simp only[Option.some.injEq]at hb4
          subst hb4
          obtain⟨b5, r5, hΓ₅, hb5, l1, l2, l3, l4, l5, l6, l7, lset⟩ := rz hs₂.heap hg₄
          rw[hΓ₄]at hΓ₅
          simp only[Option.some.injEq, Prod.mk.injEq]at hΓ₅
          obtain⟨rfl, _⟩ := hΓ₅
          have E4:Evo Γ H w Γ₂ s₂.H w₂ := (E₁.trans hn₁ E2).trans hn₁ E3
          have hn4:H.next <= s₂.H.next := Ry hn₁ hn₂
          have fin : ∀ (j : Option Code) (v : Bool), v = j.isNone → aP (kN (if j.isNone then .ready else .done) j (s₂.H.get id)) (fun bl => K (.ret (.lit (.bool v))) (s₂.H.upd id bl)) →
              ∃ cv w', (Instr.endRound b j).run P w₂ = .ok cv w' /\ fO P G Γ H w K (.returned cv) w' := by
            rintro j v rfl ⟨bl, hbl, hk⟩
            obtain⟨R6, E6⟩ := lset (if j.isNone then .ready else .done) j
            rw[hg₄]at hbl
            obtain⟨_, _, _, _, _, _, _, heq, rfl⟩ := HL hbl
            simp only[Option.some.injEq, Blk.loop.injEq]at heq
            obtain⟨rfl, rfl, rfl, rfl, rfl, rfl, rfl⟩ := heq
            exact⟨_, _, HI hb5 j, .ret (.lit (.bool j.isNone)), _, Γ₂, RelV.lit _, hk, R6, E4.trans hn4 E6, hn4⟩
          cases e with
          | normal => cases x with
            | normal => exact fin none true rfl hq
            | _ => exact hx.elim
          | ret => cases x with
            | ret => exact fin (some .ret) false rfl hq
            | _ => exact hx.elim
          | exit i => cases x with
            | exit i' =>
              obtain rfl:i = i' := hx
              exact fin (some (.exit i)) false rfl hq
            | _ => exact hx.elim
          | goto i => cases x with
            | goto i' =>
              obtain rfl:i = i' := hx
              exact fin (some (.goto i)) false rfl hq
            | _ => exact hx.elim
          | panic c => cases x with
            | panic => exact hq.elim
            | _ => exact hx.elim
          | outgrown => cases x <;> exact hx.elim
        | _ => exact hx.elim
      | _ => exact hq.elim
theorem uS (hos:w'.os = w.os)(ht:w'.tape = w.tape)(ho:w'.output = w.output)(hs:w.heap.size <= w'.heap.size)(hk:∀ b, b < w.heap.size -> w'.heap[b]? = w.heap[b]?)(hz:∀ a, a.block < w.heap.size -> w'.frozen? a = w.frozen? a)(R:RelH P G Γ H w):Evo Γ H w Γ H w' /\ RelH P G Γ H w' := by
  have E:Evo Γ H w Γ H w' := ⟨hos, ht, ho, hs, fun b hb h => ⟨hk b hb, h⟩, fun _ _ _ x' hx => ⟨x', hx, Blk.le_refl _ _ _⟩, hz⟩
  refine⟨E, ?_⟩
  exact
    { arr := fun id g e cells hg => by
        have h1 := R.arr id g e cells hg
        cases hΓ:Γ id with
        | none => rw[hΓ]at h1; exact h1
        | some y =>
          obtain⟨b, base, n⟩ := y
          rw[hΓ]at h1
          obtain⟨c, a1, a2, a3, a4⟩ := h1
          exact⟨c, by rw[hk b (R.lt _ _ _ _ hΓ)]; exact a1, a2, a3, fun i hi => let ⟨cv, b1, b2⟩ := a4 i hi; ⟨cv, b1, b2.aT E (Nat.le_refl _)⟩⟩
      loop := fun id st pend n env ps asg body hg => by
        obtain⟨b, rr, a1, a2, a3, a4, a5, a6, a7, a8, a9⟩ := R.loop id st pend n env ps asg body hg
        exact⟨b, rr, a1, by rw[hk b (R.lt _ _ _ _ a1)]; exact a2, a3, a4, a5, a6, a7, a8, fun t ht => (a9 t ht).aT E (Nat.le_refl _)⟩
      mp := fun id es hg => by
        obtain⟨b, a1, a2⟩ := R.mp id es hg
        exact⟨b, a1, by rw[hk b (R.lt _ _ _ _ a1)]; exact a2⟩
      rsv := R.rsv
      inj := R.inj
      dom := R.dom
      lt := fun id b base n h => QU (R.lt id b base n h) hs
      next := R.next
      glob := fun g cells h => (R.glob g cells h).aT E (Nat.le_refl _)
      gsz := R.mI E }
def pB:Option Blk -> Option (Option Code × Blk)
  | some (.loop .busy ..) => none
  | some (.loop _ pend n env ps asg body) => some (pend, .loop .exhausted pend n env ps asg body)
  | _ => none
def zN (Q:AX -> St -> Prop)(s:St):Option Code -> Prop
  | none => Q .normal s
  | some .ret => Q .ret s
  | some (.exit i) => Q (.exit i) s
  | some (.goto i) => Q (.goto i) s
  | _ => False
def rA (rd:Option Nat)(Q:AX -> St -> Prop)(ρ:Env)(id:Nat):ARes -> AHeap -> Prop
  | .ret _, H' => dc H' rd /\ aP (pB (H'.get id)) fun pb => zN Q ⟨ρ, H'.upd id pb.2⟩ pb.1
  | .panic, H' => dc H' rd /\ Q .panic ⟨ρ, H'⟩
theorem HM {x:Option Blk}{pb:Option Code × Blk}(h:pB x = some pb):∃ st pend n env ps asg body, x = some (.loop st pend n env ps asg body) /\ (st == .busy) = false /\ pb = (pend, .loop .exhausted pend n env ps asg body) := by
  unfold pB at h
  split at h
  · cases h
  · rename_i st pend n env ps asg body hne
    cases h
    refine⟨_, _, _, _, _, _, _, rfl, ?_, rfl⟩
    cases st with
    | busy => exact absurd rfl (by first | exact hne | exact fun h => hne _ _ _ _ _ _ h)
    | _ => rfl
  · cases h
section
variable {n:Nat} {rd:Option Nat} {Q:AX -> St -> Prop}
theorem W.rangeFunc {g : Operand} {ps : Array Tmp} {asg body : Code} {s : St} {f : FuncId} {first cap : List AVal} (hg : af G s.ρ g = .clo f first cap)
    (h:aP (s.H.lay s.H.next (.loop .ready none n s.ρ ps asg body)) fun H1 => ah P G f (first ++ [.yld s.H.next] ++ cap) H1 (rA rd Q s.ρ s.H.next)):W P G n rd (.rangeFunc g ps asg body) Q s := by
  intro wb Γ a w rb hs hr
  obtain⟨H1, hlay, hcall⟩ := h
  have hlay2:H1 = ⟨fun j => if j = s.H.next then some (.loop .ready none n s.ρ ps asg body) else s.H.get j, s.H.next + 1⟩ := by
    unfold AHeap.lay at hlay
    rw[QN rfl]at hlay
    exact(Option.some.inj hlay).symm
  subst hlay2
  refine wpIn_rangeFunc fun fn _ => ?_
  have he := fN hs g
  rw[hg]at he
  -- the world with the record
  have key : ∀ (w0 : World) (mark : List Deferred) (dblk : Nat), Evo Γ s.H w Γ s.H w0 → RelH P G Γ s.H w0 →
      ph wb Γ w0 (mark ++ a.defers) ->
      ∀ w1, w1 = { w0 with heap := w0.heap.push (.loop { state := .ready, pending := none, fn := fn, tmps := a.tmps, params := ps, assign := asg, body := body, defers := dblk }) } ->
      (Instr.enterLoop fn a.tmps ps asg body (cU rb).round).run P w = .ok (w0.heap.size, mark) w1 ->
      ∃ (l:Nat) (mark:List Deferred) (w₁:World) (d:Deferred) (w₁':World) (f:FuncId) (args:Array Value) (w₂:World),
      (Instr.enterLoop fn a.tmps ps asg body (cU rb).round).run P w = .ok (l, mark) w₁ /\
      (resolve a.eval (rangeCall g l) 0).run P w₁ = .ok d w₁' /\
      (∀ f', Target.leads P w₁' d.target d.args = some f' -> (cU rb).fn f') /\
      (invoke d.target d.args).run P w₁' = .ok (.enter f args) w₂ /\
      ((cU rb).depth.isSome = true -> 1 <= 0) /\
      CallsIn (cU rb) (0 - 1) P f args w₂ (rangePost (cU rb) 0 P l (fb P G n wb rd rb (wr (.rangeFunc g ps asg body)) Γ s.H a w Q) { a with defers := mark ++ a.defers }) := by
    intro w0 mark dblk E0 R0 hdef w1 hw1 hent
    let rec':Loop := { state := .ready, pending := none, fn := fn, tmps := a.tmps, params := ps, assign := asg, body := body, defers := dblk }
    have hheap:w1.heap = w0.heap.push (.loop rec') := by rw[hw1]
    have hsz1:w1.heap.size = w0.heap.size + 1 := by rw[hheap]; simp
    have hk1:∀ b, b < w0.heap.size -> w1.heap[b]? = w0.heap[b]? := fun b hb => by
      rw[hheap, S8]
      rw[QQ (by omega)]
    have hget1:w1.heap[w0.heap.size]? = some (.loop rec') := by rw[hheap]; simp
    obtain⟨E1, R1⟩ := uS (w' := w1) (by rw[hw1]) (by rw[hw1]) (by rw[hw1]) (by omega) hk1 (fun a _ => mM hheap (fun _ _ _ h => by cases h) a) R0
    let Γ1:au := fun i => if i = s.H.next then some (w0.heap.size, 0, 0) else Γ i
    let H1:AHeap := ⟨fun j => if j = s.H.next then some (.loop .ready none n s.ρ ps asg body) else s.H.get j, s.H.next + 1⟩
    have hfresh:∀ i y, s.H.get i = some y -> i ≠ s.H.next := fun i y hy h => by have := R0.next i y hy; omega
    have hΓfresh:∀ i x, Γ i = some x -> i ≠ s.H.next := fun i x hx => let ⟨y, hy⟩ := R0.dom i x hx; hfresh i y hy
    have hΓ1:∀ i, i ≠ s.H.next -> Γ1 i = Γ i := fun i hi => by simp only[Γ1]; rw[QQ hi]
    have hH1:∀ i, i ≠ s.H.next -> H1.get i = s.H.get i := fun i hi => by simp only[H1]; rw[QQ hi]
    have E2:Evo Γ s.H w0 Γ1 H1 w1 :=
      { os := by rw[hw1], tape := by rw[hw1], output := by rw[hw1], size := by omega
        keep := fun b hb ho => ⟨hk1 b hb, by
          rintro⟨i, base, m, hi⟩
          simp only[Γ1]at hi
          split at hi
          · simp only[Option.some.injEq, Prod.mk.injEq]at hi
            omega
          · exact ho ⟨i, base, m, hi⟩⟩
        live := fun i hi _ x' hx => by
          rw[hH1 i (by omega)]at hx
          refine⟨x', hx, ?_⟩
          have hΓi:Γ1 i = Γ i := hΓ1 i (by omega)
          cases x' with
          | arr => exact⟨Nat.le_refl _, fun _ => ⟨hΓi, rfl, rfl⟩⟩
          | loop => exact⟨hΓi, rfl, rfl, rfl, rfl, rfl⟩
          | mp => exact hΓi
          | rsv => trivial
        frz := fun a _ => mM hheap (fun _ _ _ h => by cases h) a }
    have hn1:s.H.next <= H1.next := Uf _
    have tr:∀ v cv, RelV P Γ s.H w0 v cv -> RelV P Γ1 H1 w1 v cv := fun v cv h => h.aT E2 hn1
    have R2:RelH P G Γ1 H1 w1 :=
      { arr := fun i g e cells hi => by
          by_cases hii:i = s.H.next
          · simp only[H1]at hi; rw[QN hii]at hi; simp at hi
          · rw[hH1 i hii]at hi
            have h := R0.arr i g e cells hi
            rw[hΓ1 i hii]
            cases hΓ:Γ i with
            | none => rw[hΓ]at h; exact h
            | some y =>
              obtain⟨b, base, m⟩ := y
              rw[hΓ]at h
              obtain⟨c, a1, a2, a3, a4⟩ := h
              exact⟨c, by rw[hk1 b (R0.lt _ _ _ _ hΓ)]; exact a1, a2, a3, fun j hj => let ⟨cv, b1, b2⟩ := a4 j hj; ⟨cv, b1, tr _ _ b2⟩⟩
        loop := fun i st2 pend2 n2 env2 ps2 asg2 body2 hi => by
          by_cases hii:i = s.H.next
          · simp only[H1]at hi
            rw[QN hii]at hi
            simp only[Option.some.injEq, Blk.loop.injEq]at hi
            obtain⟨rfl, rfl, rfl, rfl, rfl, rfl, rfl⟩ := hi
            refine⟨w0.heap.size, rec', by simp only[Γ1]; rw[QN hii], hget1, rfl, rfl, rfl, rfl, rfl, hs.size, fun t ht => ?_⟩
            have := ((hs.env t).aT E0 (Nat.le_refl _)).aT E2 hn1
            have e1:a.tmps.getD t undef = a.tmps[t]'ht := by
              have:t < a.tmps.size := ht
              simp [this]
            rw[e1]at this
            exact this
          · rw[hH1 i hii]at hi
            obtain⟨b2, r2, a1, a2, a3, a4, a5, a6, a7, a8, a9⟩ := R0.loop i _ _ _ _ _ _ _ hi
            exact⟨b2, r2, by rw[hΓ1 i hii]; exact a1, by rw[hk1 b2 (R0.lt _ _ _ _ a1)]; exact a2, a3, a4, a5, a6, a7, a8, fun t ht => tr _ _ (a9 t ht)⟩
        mp := fun i es hi => by
          by_cases hii:i = s.H.next
          · simp only[H1]at hi; rw[QN hii]at hi; simp at hi
          · rw[hH1 i hii]at hi
            obtain⟨b2, a1, a2⟩ := R0.mp i _ hi
            exact⟨b2, by rw[hΓ1 i hii]; exact a1, by rw[hk1 b2 (R0.lt _ _ _ _ a1)]; exact a2⟩
        rsv := fun i hi => by
          by_cases hii:i = s.H.next
          · simp only[H1]at hi; rw[QN hii]at hi; simp at hi
          · rw[hH1 i hii]at hi
            rw[hΓ1 i hii]; exact R0.rsv i hi
        inj := fun i i' b base m base' m' h h' => by
          by_cases h1:i = s.H.next
          · by_cases h2:i' = s.H.next
            · rw[h1, h2]
            · rw[hΓ1 i' h2]at h'
              simp only[Γ1]at h
              rw[QN h1]at h
              simp only[Option.some.injEq, Prod.mk.injEq]at h
              have := R0.lt _ _ _ _ h'
              omega
          · by_cases h2:i' = s.H.next
            · rw[hΓ1 i h1]at h
              simp only[Γ1]at h'
              rw[QN h2]at h'
              simp only[Option.some.injEq, Prod.mk.injEq]at h'
              have := R0.lt _ _ _ _ h
              omega
            · rw[hΓ1 i h1]at h
              rw[hΓ1 i' h2]at h'
              exact R0.inj _ _ _ _ _ _ _ h h'
        dom := fun i x hi => by
          by_cases hii:i = s.H.next
          · simp only[H1]; rw[QN hii]; exact⟨_, rfl⟩
          · rw[hΓ1 i hii]at hi
            rw[hH1 i hii]; exact R0.dom i x hi
        lt := fun i b base m hi => by
          by_cases hii:i = s.H.next
          · simp only[Γ1]at hi
            rw[QN hii]at hi
            simp only[Option.some.injEq, Prod.mk.injEq]at hi
            omega
          · rw[hΓ1 i hii]at hi
            have := R0.lt _ _ _ _ hi
            omega
        next := fun i y hi => by
          by_cases hii:i = s.H.next
          · show i < s.H.next + 1; omega
          · rw[hH1 i hii]at hi
            have := R0.next i y hi
            show i < s.H.next + 1; omega
        glob := fun g cells h => tr _ _ (R0.glob g cells h)
        gsz := R0.mI E2 }
    have E3:Evo Γ s.H w Γ1 H1 w1 := E0.trans (Nat.le_refl _) E2
    generalize hcg:a.eval g = cg at he
    cases he with
    | @clo _ _ _ fs cs hfs hcs hf hc =>
      obtain⟨⟨fn', hfn', hb', hname'⟩, hcall⟩ := hcall
      have hyld:RelV P Γ1 H1 w1 (.yld s.H.next) (.func (.yield w0.heap.size) #[] #[]) :=
        .yld ⟨Tm _, rfl, by simp [H1], fun st pend n env ps asg body hgi => ⟨w0.heap.size, by simp [Γ1], rfl⟩, fun es hgi => by simp [H1]at hgi⟩
      have hargs:cG P Γ1 H1 w1 (first ++ [.yld s.H.next] ++ cap) (fs.toArray ++ #[.func (.yield w0.heap.size) #[] #[]] ++ cs.toArray) := by
        refine qQ (qQ ⟨by simpa using hfs, fun i h1 h2 => ?_⟩ ⟨rfl, fun i h1 h2 => ?_⟩) ⟨by simpa using hcs, fun i h1 h2 => ?_⟩
        · exact(by simpa using hf i h1 (by simpa using h2):RelV P Γ s.H w first[i] (fs.toArray[i])).aT E3 hn1
        · have:i = 0 := by simp at h1; omega
          subst this
          exact hyld
        · exact(by simpa using hc i h1 (by simpa using h2):RelV P Γ s.H w cap[i] (cs.toArray[i])).aT E3 hn1
      refine⟨w0.heap.size, mark, w1, { target := .fn (.func f) cs.toArray, args := fs.toArray ++ #[.func (.yield w0.heap.size) #[] #[]] }, w1, f, fs.toArray ++ #[.func (.yield w0.heap.size) #[] #[]] ++ cs.toArray, w1, hent, ?_, fun _ _ => trivial, ?_, fun hc => by simp [Fence.wide]at hc, ?_⟩
      · have hm:Array.map a.eval #[Operand.const (.func (.yield w0.heap.size) #[] #[])] = #[.func (.yield w0.heap.size) #[] #[]] := by simp [Act.eval]
        unfold resolve
        simp only[hcg, hm]
        rfl
      · show (callFunc f (fs.toArray ++ #[.func (.yield w0.heap.size) #[] #[]] ++ cs.toArray)).run P w1 = _
        unfold callFunc
        rw[aj (run_program P w1)]
        simp only[hfn']
        rw[hname', hb']
        rfl
      · have h4:CallsIn (cU rb) 0 P f (fs.toArray ++ #[.func (.yield w0.heap.size) #[] #[]] ++ cs.toArray) w1 _ := hcall Γ1 w1 _ R2 hargs
        refine h4.mono ?_
        rintro e w3 ⟨r, H', Γ', hend, hk, R', E', hn'⟩
        have E5:Evo Γ s.H w Γ' H' w3 := E3.trans hn1 E'
        have hn5:s.H.next <= H'.next := Ry hn1 hn'
        have mkS:∀ (H'':AHeap) (w4:World), RelH P G Γ' H'' w4 -> Evo Γ s.H w Γ' H'' w4 -> Evo Γ s.H w0 Γ' H'' w4 -> s.H.next <= H''.next -> RelS P G n wb Γ' ⟨s.ρ, H''⟩ { a with defers := mark ++ a.defers } w4 :=
          fun H'' w4 R'' E'' E0'' hn'' => ⟨hs.size, fun t => (hs.env t).aT E'' hn'', R'', hdef.aT E0'', Ry hs.low E''.size⟩
        cases e with
        | returned cv =>
          cases r with
          | panic => exact hend.elim
          | ret v =>
            obtain⟨hri, pb, hpb, hj⟩ := hk
            obtain⟨st, pend, n2, env2, ps2, asg2, body2, hgl, hbusy, rfl⟩ := HM hpb
            obtain⟨b, r2, hΓb, hb, l1, l2, l3, l4, l5, l6, l7, lset⟩ := rz R' hgl
            obtain⟨R6, E6⟩ := lset .exhausted r2.pending
            have hbl:b = w0.heap.size := by
              obtain⟨x, hx, hle⟩ := E'.live s.H.next (Tm _) (QU (Tm _) hn') _ hgl
              have hx':H1.get s.H.next = some (.loop .ready none n s.ρ ps asg body) := by simp [H1]
              rw[hx']at hx
              cases hx
              have h1 := hle.1
              rw[hΓb]at h1
              simp only[Γ1, if_true, Option.some.injEq, Prod.mk.injEq]at h1
              exact h1.1
            subst hbl
            have hend' := HJ (P := P) hb (by rw[l1]; exact hbusy)
            rw[l2]at R6 E6 hend'
            refine⟨pend, _, hend', ?_⟩
            have E7 := E5.trans hn5 E6
            have hS := mkS _ _ R6 E7 ((E2.trans hn1 E').trans hn5 E6) hn5
            have hri':dc (H'.upd s.H.next (.loop .exhausted pend n2 env2 ps2 asg2 body2)) rd := by
              cases rd with
              | none => trivial
              | some i =>
                obtain⟨st3, pend3, n3, env3, ps3, asg3, body3, h3⟩ := hri
                by_cases hii:i = s.H.next
                · exact⟨_, _, _, _, _, _, _, by rw[ao, QN hii]⟩
                · exact⟨_, _, _, _, _, _, _, by rw[ao, QQ hii]; exact h3⟩
            have hR := hr.aT E7 hn5 hs.heap hri'
            have post:∀ (e:Exit) (x:AX), uD e x -> Q x ⟨s.ρ, H'.upd s.H.next (.loop .exhausted pend n2 env2 ps2 asg2 body2)⟩ -> fb P G n wb rd rb (wr (.rangeFunc g ps asg body)) Γ s.H a w Q e { a with defers := mark ++ a.defers } _ :=
              fun e x hx hq => ⟨x, _, Γ', hx, hq, hS, E7, hn5, hR, fun t _ => rfl⟩
            simp only at hj
            cases pend with
            | none => exact post .normal .normal trivial hj
            | some c =>
              cases c with
              | ret => exact wpIn_ret (post .ret .ret trivial hj)
              | exit i => exact wpIn_exit (post (.exit i) (.exit i) rfl hj)
              | goto i => exact wpIn_goto (post (.goto i) (.goto i) rfl hj)
              | _ => exact hj.elim
        | panicked chain =>
          cases r with
          | ret v => exact hend.elim
          | panic =>
            exact⟨.panic, _, Γ', hend, hk.2, mkS _ _ R' E5 (E2.trans hn1 E') hn5, E5, hn5, hr.aT E5 hn5 hs.heap hk.1, fun t _ => rfl⟩
        | outgrown => cases r <;> exact hend.elim
  cases rb with
  | none =>
    let w0:World := { w with heap := w.heap.push (.deferred (some [])) }
    have hk0:∀ b, b < w.heap.size -> w0.heap[b]? = w.heap[b]? := fun b hb => by
      show (w.heap.push _)[b]? = _
      rw[S8, QQ (by omega)]
    obtain⟨E0, R0⟩ := uS (w := w) (w' := w0) rfl rfl rfl (by simp [w0]) hk0 (fun a _ => mM (o := .deferred (some [])) rfl (fun _ _ _ h => by cases h) a) hs.heap
    refine key w0 [{ target := .collected w.heap.size, args := #[] }] w.heap.size E0 R0 ?_ _ rfl rfl
    obtain⟨m, hm, hmk⟩ := hs.defers
    refine⟨{ target := .collected w.heap.size, args := #[] } :: m, by rw[hm]; rfl, fun d hd => ?_, ?_⟩
    · simp only[List.mem_cons]at hd
      rcases hd with rfl | hd
      · refine⟨w.heap.size, rfl, hs.low, ?_, by simp [w0]⟩
        rintro⟨i, base, m, hi⟩
        have := hs.heap.lt _ _ _ _ hi
        omega
      · obtain⟨r, h1, h2, h3⟩ := hmk.1 d hd
        exact⟨r, h1, h2, h3.aT E0⟩
    · refine Tz.2 ⟨fun d hd => ?_, hmk.2⟩
      obtain⟨r, h1, h2, h3⟩ := hmk.1 d hd
      rw[h1]
      intro he
      simp only[Target.collected.injEq]at he
      have h4 := h3.2
      rw[<- he, RK (Nat.le_refl _)]at h4
      cases h4
  | some b0 =>
    have hlr:∃ r, w.heap[b0]? = some (.loop r) := by
      cases rd with
      | none => cases hr
      | some id =>
        obtain⟨b, st, pend, n', env, ps', asg', body', h1, h2, h3⟩ := hr
        obtain⟨b', r, h4, h5, _⟩ := hs.heap.loop _ _ _ _ _ _ _ _ h3
        rw[h2]at h4
        simp only[Option.some.injEq, Prod.mk.injEq]at h4 h1
        rw[h1, h4.1]
        exact⟨r, h5⟩
    obtain⟨r, hlr⟩ := hlr
    refine key w [] r.defers (Evo.refl _ _ _) hs.heap (by simpa using hs.defers) _ rfl ?_
    show (Instr.enterLoop fn a.tmps ps asg body (some b0)).run P w = _
    unfold Instr.enterLoop
    simp only[bind_assoc, pure_bind]
    rw[aj (pA hlr)]
    rfl
end
end Go.Hx
namespace Go.Hx
variable {P:Program} {G:Nat -> Option (List AVal)} {Γ Γ':au} {H H':AHeap} {w w':World}
def bT:AHeap := ⟨fun _ => none, 0⟩
inductive Fresh (H:AHeap):AVal -> AVal -> Prop
  | lit (v:Value):Fresh H (.lit v) (.lit v)
  | nil:Fresh H (.lit (.slice none 0 0)) (.vec 0 [])
  | vec0:Fresh H (.vec 0 []) (.vec 0 [])
  | agg {c c':List AVal} (hl:c'.length = c.length) (h:∀ i (h:i < c.length) (h':i < c'.length), Fresh H c[i] c'[i]):Fresh H (.agg c) (.agg c')
  | tup {c c':List AVal} (hl:c'.length = c.length) (h:∀ i (h:i < c.length) (h':i < c'.length), Fresh H c[i] c'[i]):Fresh H (.tup c) (.tup c')
  | own {id g o l z : Nat} {e : TypeId} {cells c' : List AVal} (hg : H.get id = some (.arr g e cells)) (hl : c'.length = l * z)
      (h:∀ i (h:i < l * z) (h2:o + i < cells.length) (h':i < c'.length), Fresh H cells[o + i] c'[i]):Fresh H (.own id g o l z) (.vec l c')
theorem Fresh.sound (R:RelH P G Γ' H' w){N:Nat}(h1:∀ b, Γ'.dZ b -> N <= b)(h2:∀ b, Γ.dZ b -> b < N){v v':AVal}(hf:Fresh H' v v'):∀ {cv:Value}, RelV P Γ' H' w v cv -> RelV P Γ H w v' cv := by
  induction hf with
  | lit v => intro cv h; cases h; exact .lit _
  | nil => intro cv h; cases h; exact .vec0 none 0
  | vec0 =>
    intro cv h
    cases h with
    | vec0 a cap => exact .vec0 a cap
    | vec hb hlt hlen hcs hcell hrel => exact .vec0 _ _
  | agg hl hc ih =>
    intro cv h
    cases h with
    | agg hcs hrel => exact .agg (by omega) fun i a b => ih i (by omega) a (hrel i (by omega) b)
  | tup hl hc ih =>
    intro cv h
    cases h with
    | tup hcs hrel => exact .tup (by omega) fun i a b => ih i (by omega) a (hrel i (by omega) b)
  | @own id g o l z e cells c' hg hl hc ih =>
    intro cv h
    cases h with
    | own h =>
      obtain⟨_, _, h0, h3⟩ := h
      have h4 := (h3 _ _ _ hg).2 rfl
      have harr := R.arr id g e cells hg
      cases hΓ:Γ' id with
      | none =>
        rw[hΓ]at h4
        obtain⟨rfl, rfl, rfl⟩ := h4
        have:c' = [] := QT (by simpa using hl)
        subst this
        exact .vec0 _ _
      | some y =>
        obtain⟨b, base, n⟩ := y
        rw[hΓ]at h4 harr
        obtain⟨a, cap, rfl, hcap, hoff, hor⟩ := h4
        obtain⟨c, a1, a2, a3, a4⟩ := harr
        rcases hor with ⟨rfl, hn⟩ | ⟨rfl, rfl⟩
        · have hcell : ∀ i, i < l * z → ∃ cv, c[base + (o + i)]? = some cv ∧ ∀ (h : o + i < cells.length), RelV P Γ' H' w cells[o + i] cv := fun i hi => by
            obtain⟨cv, b1, b2⟩ := a4 (o + i) (by omega)
            exact⟨cv, b1, fun _ => b2⟩
          let cs:List Value := (List.range (l * z)).map fun i => (c[base + (o + i)]?).getD undef
          have hcs:cs.length = c'.length := by simp [cs, hl]
          refine .vec (cs := cs) (fun ho => ?_) (R.lt _ _ _ _ hΓ) hcap hcs (fun i hi => ?_) fun i hi hi' => ?_
          · have := h2 b ho
            have := h1 b ⟨id, base, n, hΓ⟩
            omega
          · have hi2:i < l * z := by rw[hcs, hl]at hi; exact hi
            obtain⟨cv, b1, _⟩ := hcell i hi2
            have:cs[i] = cv := by simp [cs, b1]
            rw[this]
            have he:base + o + i = base + (o + i) := by omega
            simp only[World.cell?, a1, he]
            exact b1
          · have hi2:i < l * z := by rw[hl]at hi; exact hi
            obtain⟨cv, b1, b2⟩ := hcell i hi2
            have:cs[i] = cv := by simp [cs, b1]
            rw[this]
            exact ih i hi2 (by omega) hi (b2 (by omega))
        · have:c' = [] := QT (by simpa using hl)
          subst this
          exact .vec0 _ _
theorem DE (H:AHeap):FzH (fun _ => True) H bT := ⟨fun _ _ => rfl, fun _ _ h => absurd trivial h, fun _ h => absurd trivial h⟩
theorem yj (b:Nat):¬ (eh (fun _ => True) Γ).dZ b := by
  rintro⟨id, base, n, h⟩
  exact(iZ h).1 trivial
def pc (o:Option AVal)(r:ARes)(H':AHeap):Prop := match o with
  | some v' => ∃ v, r = .ret v /\ Fresh H' v v'
  | none => r = .panic
def yk:Option AVal -> ARes
  | some v => .ret v
  | none => .panic
theorem ah.DF {f : FuncId} {args args' : List AVal} {o : Option AVal} (hG : el G) (hl : args'.length = args.length) (hv : ∀ i (h : i < args.length) (h' : i < args'.length), Fz (fun _ => True) H 0 args[i] args'[i])
    (h:ah P G f args' bT (pc o)):ah P G f args H fun r H' => r = yk o /\ H' = H := by
  refine⟨h.1, fun Γ w cargs R hr => ?_⟩
  have F := DE H
  have R0:RelH P G (eh (fun _ => True) Γ) bT w := F.rel hG R
  have hr0:cG P (eh (fun _ => True) Γ) bT w args' cargs := ⟨by have := hr.1; omega, fun i h1 h2 => (hv i (by omega) h1).sound R F (hr.2 i (by omega) h2)⟩
  refine(h.2 _ w cargs R0 hr0).mono ?_
  rintro e w' ⟨r, H', Γ', hend, hg, R', E, hn⟩
  have hown:∀ b, Γ'.dZ b -> w.heap.size <= b := fun b hb => Tn fun hlt => (E.keep b hlt (yj b)).2 hb
  have hown2:∀ b, Γ.dZ b -> b < w.heap.size := fun b ⟨id, base, n, hb⟩ => R.lt _ _ _ _ hb
  obtain⟨E2, R2⟩ := uS E.os E.tape E.output E.size (fun b hb => (E.keep b hb (yj b)).1) E.frz R
  refine⟨yk o, H, Γ, ?_, ⟨rfl, rfl⟩, R2, E2, Nat.le_refl _⟩
  cases o with
  | some v' =>
    obtain⟨v, rfl, hf⟩ := hg
    cases e with
    | returned cv => exact hf.sound R' hown hown2 hend
    | _ => exact hend.elim
  | none =>
    have hg':r = .panic := hg
    subst hg'
    cases e with
    | panicked chain => exact hend
    | _ => exact hend.elim
theorem ah.frame {f : FuncId} {args args' : List AVal} {v' : AVal} (hG : el G) (hl : args'.length = args.length) (hv : ∀ i (h : i < args.length) (h' : i < args'.length), Fz (fun _ => True) H 0 args[i] args'[i])
    (h:ah P G f args' bT fun r H' => ∃ v, r = .ret v /\ Fresh H' v v'):ah P G f args H fun r H' => r = .ret v' /\ H' = H := ah.DF (o := some v') hG hl hv h
end Go.Hx
namespace Go.Hx.Ev
open Go.Hx
variable {P:Program} {G:Nat -> Option (List AVal)} {Γ Γ':au} {H H':AHeap} {w w':World}
def bY (e g:Nat -> Option Blk):Nat -> Option Blk := fun j => match e j with
  | some b => some b
  | none => g j
def lZ (e:Option (Nat × Blk)):Nat -> Option Blk := fun j => match e with
  | some (k, b) => if j = k then some b else none
  | none => none
theorem ye (e:Option (Nat × Blk))(g:Nat -> Option Blk):bY (lZ e) g = cW e g := by
  funext j
  cases e with
  | none => rfl
  | some kb =>
    obtain⟨k, b⟩ := kb
    simp only[bY, lZ, cW]
    by_cases h:j = k
    · rw[QN h, QN h]
    · rw[QQ h, QQ h]
def kE (P:Program)(G:Nat -> Option (List AVal))(fv:AVal)(args:List AVal)(H:AHeap)(v:AVal)(e:Nat -> Option Blk)(k:Nat)(f:FP):Prop :=
  (∀ r, r ∈ f.rs -> r < H.next) /\ (∀ r, (e r).isSome = true -> r ∈ f.eff /\ ((r ∈ f.rs /\ ∃ g t c, H.get r = some (.arr g t c)) \/ (H.next <= r /\ r < H.next + k))) /\ (∀ c, c < k -> (e (H.next + c)).isSome = true) /\
  ∀ H2:AHeap, (∀ r, r ∈ f.rs -> H2.get r = H.get r) -> (∀ c, c < k -> H2.get (H.next + c) = some .rsv) -> H.next + k <= H2.next -> aG P G fv args H2 fun r H3 => r = .ret v /\ H3 = ⟨bY e H2.get, H2.next⟩
def bE (P:Program)(G:Nat -> Option (List AVal))(o:Oper)(K:FP -> St -> Prop)(s:St):Prop :=
  match o.op with
  | .call { callee := .value fv, args, .. } => ∃ v e k f, kE P G (af G s.ρ fv) (args.toList.map (af G s.ρ)) s.H v e k f /\ K f ⟨ay s.ρ o.dst v, ⟨bY e s.H.get, s.H.next + k⟩⟩
  | op => aP (ae P G s.ρ s.H s.H.next op) fun vH => K (aY P G s.ρ s.H.next op) ⟨ay s.ρ o.dst vH.1, vH.2⟩
def cS (P:Program)(G:Nat -> Option (List AVal))(all:Array Oper)(tail:St -> Prop):List Nat -> Nat -> List (Nat × FP) -> List Oper -> St -> Prop
  | b :: bs, i, acc, o :: rest, s => aP (dO all s.ρ o) fun t => if t = true then bE P G o (fun f s' => fg b f acc ∧ cS P G all tail bs (i + 1) (eg i f acc) rest s') s
      else cS P G all tail bs (i + 1) acc rest ⟨ay s.ρ o.dst (.lit undef), s.H⟩
  | _, _, _, [], s => tail s
  | [], _, _, _ :: _, _ => False
structure Dt where
  v:AVal
  e:Nat -> Option Blk
  al:Nat
  f:FP
def aS (all:Array Oper)(d:Nat -> Dt)(ρ0:Env):Nat -> (Nat -> Bool) -> Env
  | 0, _ => ρ0
  | n + 1, D => if D n then ay (aS all d ρ0 n D) (eE all n) (d n).v else aS all d ρ0 n D
def aL (d:Nat -> Dt)(g0:Nat -> Option Blk):Nat -> (Nat -> Bool) -> Nat -> Option Blk
  | 0, _ => g0
  | n + 1, D => if D n then bY (d n).e (aL d g0 n D) else aL d g0 n D
def av (d:Nat -> Dt):Nat -> Nat
  | 0 => 0
  | n + 1 => av d n + (d n).al
def cF (x:Dt)(r:Nat):Prop := (x.e r).isSome = true
theorem kF {e g:Nat -> Option Blk}{r:Nat}(h:¬ (e r).isSome = true):bY e g r = g r := by
  unfold bY
  cases he:e r with
  | none => rfl
  | some b => rw[he]at h; exact absurd rfl h
theorem yf {e g g':Nat -> Option Blk}{r:Nat}(h:(e r).isSome = true):bY e g r = bY e g' r := by
  unfold bY
  cases he:e r with
  | none => rw[he]at h; cases h
  | some b => rfl
theorem uc {e g g':Nat -> Option Blk}{r:Nat}(h:g r = g' r):bY e g r = bY e g' r := by
  unfold bY; rw[h]
theorem Dv {e e':Nat -> Option Blk}{g:Nat -> Option Blk}(h:∀ r, (e r).isSome = true -> ¬ (e' r).isSome = true):bY e' (bY e g) = bY e (bY e' g) := by
  funext r
  by_cases hx:(e r).isSome = true
  · rw[kF (h r hx)]
    exact yf hx
  · rw[kF (g := bY e' g) hx]
    exact uc (kF hx)
section
variable {all:Array Oper} {d d':Nat -> Dt} {ρ0:Env} {g0 g0':Nat -> Option Blk} {D D':Nat -> Bool}
theorem l8 {t:Tmp}:∀ {n:Nat}, (∀ j, j < n -> eE all j = some t -> D j = D' j) -> aS all d ρ0 n D t = aS all d ρ0 n D' t := by
  intro n
  induction n with
  | zero => intro _; rfl
  | succ n ih =>
    intro h
    have h0 := ih fun j hj => h j (by omega)
    simp only[aS]
    by_cases hd:eE all n = some t
    · rw[h n (by omega) hd]
      split
      · exact qX h0
      · exact h0
    · have : ∀ (b : Bool) (ρ : Env), (if b = true then ay ρ (eE all n) (d n).v else ρ) t = ρ t := by
        intro b ρ
        split
        · exact nk hd
        · rfl
      rw[this, this]
      exact h0
theorem ud {m:Nat}:∀ {n:Nat}, m <= n -> aS all d ρ0 n (fun j => decide (j < m)) = aS all d ρ0 m fun _ => true := by
  have low:∀ k, k <= m -> aS all d ρ0 k (fun j => decide (j < m)) = aS all d ρ0 k fun _ => true := by
    intro k
    induction k with
    | zero => intro _; rfl
    | succ k ih =>
      intro hk
      simp only[aS]
      rw[ih (by omega), QN (by simp; omega)]
      simp
  intro n
  induction n with
  | zero =>
    intro hm
    obtain rfl:m = 0 := by omega
    exact low 0 (by omega)
  | succ n ih =>
    intro hm
    by_cases h:m = n + 1
    · subst h; exact low (n + 1) (by omega)
    · simp only[aS]
      rw[QQ (by simp; omega)]
      exact ih (by omega)
theorem l9 {r:Nat}:∀ {n:Nat}, (∀ j, j < n -> cF (d j) r -> D j = D' j) -> aL d g0 n D r = aL d g0 n D' r := by
  intro n
  induction n with
  | zero => intro _; rfl
  | succ n ih =>
    intro h
    have h0 := ih fun j hj => h j (by omega)
    simp only[aL]
    by_cases hd:cF (d n) r
    · rw[h n (by omega) hd]
      split
      · exact uc h0
      · exact h0
    · have : ∀ (b : Bool) (g : Nat → Option Blk), (if b = true then bY (d n).e g else g) r = g r := by
        intro b g
        split
        · exact kF hd
        · rfl
      rw[this, this]
      exact h0
theorem ue {m:Nat}:∀ {n:Nat}, m <= n -> aL d g0 n (fun j => decide (j < m)) = aL d g0 m fun _ => true := by
  have low:∀ k, k <= m -> aL d g0 k (fun j => decide (j < m)) = aL d g0 k fun _ => true := by
    intro k
    induction k with
    | zero => intro _; rfl
    | succ k ih =>
      intro hk
      simp only[aL]
      rw[ih (by omega), QN (by simp; omega)]
      simp
  intro n
  induction n with
  | zero =>
    intro hm
    obtain rfl:m = 0 := by omega
    exact low 0 (by omega)
  | succ n ih =>
    intro hm
    by_cases h:m = n + 1
    · subst h; exact low (n + 1) (by omega)
    · simp only[aL]
      rw[QQ (by simp; omega)]
      exact ih (by omega)
theorem oV {r:Nat}:∀ {n:Nat}, (g0 r = g0' r \/ ∃ j, j < n /\ D j = true /\ cF (d j) r) -> aL d g0 n D r = aL d g0' n D r := by
  intro n
  induction n with
  | zero =>
    rintro(h | ⟨j, hj, _⟩)
    · exact h
    · omega
  | succ n ih =>
    intro h
    simp only[aL]
    by_cases hD:D n = true
    · rw[QN hD, QN hD]
      by_cases ht:cF (d n) r
      · exact yf ht
      · refine uc (ih ?_)
        rcases h with h | ⟨j, hj, h1, h2⟩
        · exact .inl h
        · by_cases hjn:j = n
          · subst hjn; exact absurd h2 ht
          · exact .inr ⟨j, by omega, h1, h2⟩
    · rw[QQ hD, QQ hD]
      refine ih ?_
      rcases h with h | ⟨j, hj, h1, h2⟩
      · exact .inl h
      · by_cases hjn:j = n
        · subst hjn; exact absurd h1 hD
        · exact .inr ⟨j, by omega, h1, h2⟩
theorem uf {r:Nat}:∀ {n:Nat}, (∀ j, j < n -> D j = true -> ¬ cF (d j) r) -> aL d g0 n D r = g0 r := by
  intro n
  induction n with
  | zero => intro _; rfl
  | succ n ih =>
    intro h
    simp only[aL]
    split
    · rename_i hD
      rw[kF (h n (by omega) hD)]
      exact ih fun j hj => h j (by omega)
    · exact ih fun j hj => h j (by omega)
def bh (D:Nat -> Bool)(i:Nat):Nat -> Bool := fun j => if j = i then true else D j
theorem ug {i : Nat} (hD : D i = false) : ∀ {n : Nat}, i < n → (∀ j, i < j → j < n → D j = true → ∀ t, eE all i = some t → eE all j ≠ some t) →
    aS all d ρ0 n (bh D i) = ay (aS all d ρ0 n D) (eE all i) (d i).v := by
  intro n
  induction n with
  | zero => intro h; omega
  | succ n ih =>
    intro hi h
    by_cases hin:i = n
    · subst hin
      have h0:aS all d ρ0 i (bh D i) = aS all d ρ0 i D := funext fun t => l8 fun j hj _ => by simp [bh, Tb hj]
      simp only[aS]
      rw[QN (by simp [bh]), QQ (by simp [hD]), h0]
    · have hw:bh D i n = D n := by simp [bh, Ne.symm hin]
      have h0 := ih (by omega) fun j h1 h2 => h j h1 (by omega)
      simp only[aS, hw]
      split
      · rename_i hDn
        rw[h0]
        exact zf (h n (by omega) (by omega) hDn)
      · exact h0
theorem uh {i : Nat} (hD : D i = false) : ∀ {n : Nat}, i < n → (∀ j, i < j → j < n → D j = true → ∀ t, cF (d i) t → ¬ cF (d j) t) →
    aL d g0 n (bh D i) = bY (d i).e (aL d g0 n D) := by
  intro n
  induction n with
  | zero => intro h; omega
  | succ n ih =>
    intro hi h
    by_cases hin:i = n
    · subst hin
      have h0:aL d g0 i (bh D i) = aL d g0 i D := funext fun t => l9 fun j hj _ => by simp [bh, Tb hj]
      simp only[aL]
      rw[QN (by simp [bh]), QQ (by simp [hD]), h0]
    · have hw:bh D i n = D n := by simp [bh, Ne.symm hin]
      have h0 := ih (by omega) fun j h1 h2 => h j h1 (by omega)
      simp only[aL, hw]
      split
      · rename_i hDn
        rw[h0]
        exact Dv (h n (by omega) (by omega) hDn)
      · exact h0
theorem mV {m n:Nat}(h:m <= n):av d m <= av d n := by
  induction n with
  | zero =>
    have:m = 0 := by omega
    subst this; exact Nat.le_refl _
  | succ n ih =>
    by_cases hm:m = n + 1
    · subst hm; exact Nat.le_refl _
    · exact Ry (ih (by omega)) (by simp [av])
theorem oW {n c:Nat}(h:c < av d n):∃ j, j < n /\ av d j <= c /\ c < av d j + (d j).al := by
  induction n with
  | zero => simp [av]at h
  | succ n ih =>
    by_cases hc:c < av d n
    · obtain⟨j, h1, h2⟩ := ih hc
      exact⟨j, by omega, h2⟩
    · simp only[av]at h
      exact⟨n, by omega, by omega, by omega⟩
theorem iY {i n:Nat}(h:i < n):av d i + (d i).al <= av d n := by
  have := mV (d := d) (m := i + 1) (n := n) h
  simpa only[av] using this
theorem oY {n:Nat}(h:∀ j, j < n -> d j = d' j):aS all d ρ0 n D = aS all d' ρ0 n D := by
  induction n with
  | zero => rfl
  | succ n ih => simp only[aS]; rw[ih fun j hj => h j (by omega), h n (by omega)]
theorem o0 {n:Nat}(h:∀ j, j < n -> d j = d' j):aL d g0 n D = aL d' g0 n D := by
  induction n with
  | zero => rfl
  | succ n ih => simp only[aL]; rw[ih fun j hj => h j (by omega), h n (by omega)]
theorem dN {n:Nat}(h:∀ j, j < n -> d j = d' j):av d n = av d' n := by
  induction n with
  | zero => rfl
  | succ n ih => simp only[av]; rw[ih fun j hj => h j (by omega), h n (by omega)]
end
def ExecOk (P:Program)(G:Nat -> Option (List AVal))(all:Array Oper)(o:Oper)(id:Nat)(s s':St):Prop :=
  (dO all s.ρ o = some false /\ s' = ⟨ay s.ρ o.dst (.lit undef), s.H⟩) \/
  (dO all s.ρ o = some true /\ ∃ v, s'.ρ = ay s.ρ o.dst v /\
    (ae P G s.ρ s.H id o.op = some (v, s'.H) \/
     ∃ fv args ats, o.op = .call ⟨.value fv, args, ats⟩ /\ (∀ id st pend m env ps asg body, s.H.get id = some (.loop st pend m env ps asg body) -> s'.H.get id = s.H.get id) /\ aG P G (af G s.ρ fv) (args.toList.map (af G s.ρ)) s.H fun r H3 => r = .ret v /\ H3 = s'.H))
theorem ui {n : Nat} {wb : Base} {rd rb : Option Nat} {all : Array Oper} {o : Oper} {id i : Nat} {s s' : St} {a : Act} {next : Act → World → Prop} {Q' : Exit → Act → World → Prop} (ho : all[i]? = some o) (hd : eC n o = true)
    (hs:RelS P G n wb Γ s a w) (hr:cP Γ s.H rd rb) (h:ExecOk P G all o id s s')
    (hnext:∀ Γ' a' w', RelS P G n wb Γ' s' a' w' -> Evo Γ s.H w Γ' s'.H w' -> s.H.next <= s'.H.next -> cP Γ' s'.H rd rb -> (∃ cv, a' = a.put o.dst cv) -> next a' w'):
    wpOpIn (cU rb) 0 P all Q' i next a w := by
  have hdst:∀ d, o.dst = some d -> d < n := by
    intro d hd'
    unfold eC at hd
    rw[hd']at hd
    simpa using hd
  unfold wpOpIn
  rw[ho]
  simp only
  rcases h with ⟨hw, rfl⟩ | ⟨hw, v, hρ, h⟩
  · rw[mY hs hw]
    simp only[Bool.false_eq_true, if_false]
    refine⟨fun _ _ => trivial, ?_⟩
    have hs' := iK (v := .lit undef) (cv := undef) hs hdst (Evo.refl Γ s.H w) (Nat.le_refl _) hs.heap (.lit _)
    exact hnext Γ _ w hs' (Evo.refl _ _ _) (Nat.le_refl _) hr ⟨_, rfl⟩
  · rw[mY hs hw]
    simp only[if_true]
    obtain⟨ρ', H'⟩ := s'
    simp only at hρ
    subst hρ
    refine⟨fun _ _ => trivial, ?_⟩
    rcases h with hop | ⟨fv, args, ats, hop, hH, hap⟩
    · simp only at hop
      rw[Oper.semAt_eq _ _ _ (fun c hc => by rw[hc]at hop; simp [ae]at hop)]
      obtain⟨nx, cv, Γ', w', hrun, hnx, E, hn, R, hv⟩ := uB hs.heap (fN hs) hop
      rw[hrun]
      have hri := uE hr (uF hs.heap hop)
      have hs' := iK hs hdst E hn R hv
      have hr' := hr.aT E hn hs.heap hri
      rcases hnx with rfl | ⟨rfl, rfl⟩
      · exact hnext Γ' _ w' hs' E hn hr' ⟨_, rfl⟩
      · exact hnext Γ' _ w' hs' E hn hr' ⟨_, rfl⟩
    · rw[Oper.semAt_eq _ _ _ (fun c hc => by rw[hc]at hop; cases hop)]
      obtain⟨d, h1, h2⟩ := hap Γ w (a.eval fv) (args.map a.eval) hs.heap (fN hs fv) ⟨by simp, fun i h1 h2 => by simp only[QY, SE, RC]; exact fN hs _⟩
      have hex:(execOp a.eval o).run P w = (invoke d.target d.args).run P w := by
        unfold execOp
        simp only[hop]
        unfold resolve
        simp only
        rw[aj h1]
      have hri:dc H' rd := by
        cases rd with
        | none => trivial
        | some id =>
          obtain⟨b, st, pend, n, env, ps, asg, body, _, _, h3⟩ := hr
          exact⟨_, _, _, _, _, _, _, (hH _ _ _ _ _ _ _ _ h3).trans h3⟩
      have cont : ∀ e w', fO P G Γ s.H w (fun r H3 => r = .ret v ∧ H3 = H') e w' → (match e with
          | .returned v => next (a.put o.dst v) w'
          | .panicked chain => Q' (.panic chain) a w'
          | .outgrown => LetsOut Q') := by
        rintro e w' ⟨r, H4, Γ', hend, ⟨rfl, rfl⟩, R, E, hn⟩
        have hr' := hr.aT E hn hs.heap hri
        cases e with
        | returned cv => exact hnext Γ' _ w' (iK hs hdst E hn R hend) E hn hr' ⟨_, rfl⟩
        | panicked chain => exact hend.elim
        | outgrown => exact hend.elim
      rw[hex]
      rcases h2 with ⟨f, as, h3, h4⟩ | ⟨l, f, tm, asg, body, h3, h4⟩ | ⟨cv, w', h3, h4⟩
      · rw[h3]
        refine⟨fun hc => by simp [Fence.wide]at hc, ?_⟩
        have h4':CallsIn (cU rb) 0 P f as w _ := h4
        refine h4'.mono ?_
        intro e w' hp
        have := cont e w' hp
        cases e <;> exact this
      · rw[h3]
        refine⟨fun hc => by simp [Fence.wide]at hc, ?_⟩
        have h4':RoundIn (cU rb) 0 P l f tm asg body w _ := h4
        refine h4'.mono ?_
        intro e w' hp
        have := cont e w' hp
        cases e <;> exact this
      · rw[h3]
        exact cont (.returned cv) w' h4
def jH (d:Nat -> Dt)(H0:AHeap)(m:Nat):AHeap := ⟨aL d H0.get m fun _ => true, H0.next + av d m⟩
def canon (all:Array Oper)(d:Nat -> Dt)(s0:St)(m:Nat):St := ⟨aS all d s0.ρ m fun _ => true, jH d s0.H m⟩
structure GoodAt (P:Program)(G:Nat -> Option (List AVal))(all:Array Oper)(bs:List Nat)(s0:St)(d:Nat -> Dt)(i:Nat):Prop where
  step:∀ o, all[i]? = some o -> ∀ ρ2 H2, (∀ t, t ∈ o.looksAt all -> ρ2 t = (canon all d s0 i).ρ t) -> (∀ r, r ∈ (d i).f.rs -> H2.get r = (canon all d s0 i).H.get r) ->
    (∀ c, c < (d i).al -> H2.get (s0.H.next + av d i + c) = some .rsv) -> s0.H.next + av d i + (d i).al <= H2.next ->
    ExecOk P G all o (s0.H.next + av d i) ⟨ρ2, H2⟩ ⟨ay ρ2 o.dst (d i).v, ⟨bY (d i).e H2.get, H2.next⟩⟩
  eff:∀ r, cF (d i) r -> r ∈ (d i).f.eff /\ (r ∈ (d i).f.rs \/ (s0.H.next + av d i <= r /\ r < s0.H.next + av d i + (d i).al))
  al:∀ c, c < (d i).al -> cF (d i) (s0.H.next + av d i + c)
  lt:∀ r, r ∈ (d i).f.rs -> r < s0.H.next + av d i
  apart:∀ j, j < i -> (cI bs i).testBit j = false -> (∀ r, r ∈ (d i).f.eff -> r ∉ (d j).f.rs) /\ (∀ r, r ∈ (d j).f.eff -> r ∉ (d i).f.rs)
def bn (d:Nat -> Dt)(m:Nat)(x:Dt):Nat -> Dt := fun j => if j = m then x else d j
theorem eR {d:Nat -> Dt}{m:Nat}{x:Dt}{i:Nat}(h:i < m):d i = bn d m x i := by simp [bn, Tb h]
theorem bN {d:Nat -> Dt}{m:Nat}{x:Dt}:bn d m x m = x := by simp [bn]
theorem jI {all:Array Oper}{d d':Nat -> Dt}{s0:St}{m:Nat}(h:∀ j, j < m -> d j = d' j):canon all d s0 m = canon all d' s0 m := by
  unfold canon jH
  rw[oY h, o0 h, dN h]
theorem GoodAt.below {all:Array Oper}{bs:List Nat}{s0:St}{d d':Nat -> Dt}{i:Nat}(g:GoodAt P G all bs s0 d i)(h:∀ j, j <= i -> d j = d' j):GoodAt P G all bs s0 d' i := by
  have hi := h i (Nat.le_refl _)
  have hn:av d i = av d' i := dN fun j hj => h j (by omega)
  have hc:canon all d s0 i = canon all d' s0 i := jI fun j hj => h j (by omega)
  obtain⟨a, b, c, e, f⟩ := g
  refine⟨?_, ?_, ?_, ?_, ?_⟩
  · rw[<- hi, <- hn, <- hc]; exact a
  · rw[<- hi, <- hn]; exact b
  · rw[<- hi, <- hn]; exact c
  · rw[<- hi, <- hn]; exact e
  · intro j hj hb
    rw[<- hi, <- h j (by omega)]
    exact f j hj hb
def iI (d:Nat -> Dt)(m:Nat)(acc:List (Nat × FP)):Prop := ∀ j, j < m -> (d j).f = ⟨[], []⟩ \/ (j, (d j).f) ∈ acc
theorem iI.add {d:Nat -> Dt}{m:Nat}{acc:List (Nat × FP)}(h:iI d m acc)(x:Dt):iI (bn d m x) (m + 1) (eg m x.f acc) := by
  intro j hj
  have key:∀ p, p ∈ acc -> p ∈ eg m x.f acc := by
    intro p hp
    unfold eg
    split
    · exact hp
    · exact RB _ hp
  by_cases hjm:j = m
  · subst hjm
    rw[bN]
    by_cases hf:x.f = ⟨[], []⟩
    · exact .inl hf
    · refine .inr ?_
      unfold eg
      split
      · rename_i h0; exact absurd h0 hf
      · exact RZ
  · rw[<- eR (x := x) (by omega)]
    exact(h j (by omega)).imp id (key _)
theorem o7 {d:Nat -> Dt}{m:Nat}{acc:List (Nat × FP)}{b:Nat}{f:FP}(hc:iI d m acc)(h:fg b f acc):∀ j, j < m -> b.testBit j = false -> (∀ r, r ∈ f.eff -> r ∉ (d j).f.rs) /\ (∀ r, r ∈ (d j).f.eff -> r ∉ f.rs) := by
  intro j hj hb
  rcases hc j hj with h0 | h1
  · rw[h0]
    exact⟨fun r _ h => (by cases h), fun r h => (by cases h)⟩
  · exact h _ h1 hb
theorem ma {all : Array Oper} {d : Nat → Dt} {s0 : St} {m : Nat} {x : Dt} {o : Oper} (ho : all[m]? = some o) :
    canon all (bn d m x) s0 (m + 1) = ⟨ay (canon all d s0 m).ρ o.dst x.v, ⟨bY x.e (canon all d s0 m).H.get, (canon all d s0 m).H.next + x.al⟩⟩ := by
  have hb:∀ j, j < m -> d j = bn d m x j := fun j hj => eR hj
  unfold canon jH
  simp only[aS, aL, av, if_true, bN]
  rw[<- oY hb, <- o0 hb, <- dN hb]
  simp only[eE, ho, Option.bind_some, SB]
theorem mb {all : Array Oper} {bs : List Nat} {s0 : St} {d : Nat → Dt} {m : Nat} {x : Dt} (hg : ∀ i, i < m → GoodAt P G all bs s0 d i) (hx : GoodAt P G all bs s0 (bn d m x) m) :
    ∀ i, i < m + 1 -> GoodAt P G all bs s0 (bn d m x) i := by
  intro i hi
  by_cases him:i = m
  · subst him; exact hx
  · exact(hg i (by omega)).below fun j hj => eR (by omega)
theorem trace {all : Array Oper} {bs : List Nat} {s0 : St} {tail : St → Prop} {K : Nat} (hbs : bs.length = K) (hK : K ≤ all.size) : ∀ (k m : Nat) (d : Nat → Dt) (acc : List (Nat × FP)), k + m = K →
    (∀ i, i < m -> GoodAt P G all bs s0 d i) -> iI d m acc -> ef (canon all d s0 m).H -> cS P G all tail (bs.drop m) m acc ((all.toList.take K).drop m) (canon all d s0 m) ->
    ∃ d', (∀ i, i < K -> GoodAt P G all bs s0 d' i) /\ tail (canon all d' s0 K) := by
  intro k
  induction k with
  | zero =>
    intro m d acc hm hg hc wf h
    obtain rfl:m = K := by omega
    refine⟨d, hg, ?_⟩
    have:(all.toList.take m).drop m = [] := by
      apply To
      simp only[QV]
      omega
    rw[this]at h
    cases hb:bs.drop m with
    | nil => rw[hb]at h; simpa only[cS] using h
    | cons b bs' => rw[hb]at h; simpa only[cS] using h
  | succ k ih =>
    intro m d acc hm hg hc wf h
    have hmK:m < K := by omega
    have hms:m < all.size := by omega
    have ho:all[m]? = some all[m] := QS hms
    have hbm:bs.drop m = cI bs m :: bs.drop (m + 1) := by
      rw[Rv (by omega)]
      congr 1
      simp [cI, QK (show m < bs.length by omega)]
    have hom:(all.toList.take K).drop m = all[m] :: (all.toList.take K).drop (m + 1) := by
      rw[Rv (by simp only[QV, Sa]; omega)]
      congr 1
      simp
    rw[hbm, hom]at h
    simp only[cS]at h
    obtain⟨t, ht, h⟩ := h
    have hnext:(canon all d s0 m).H.next = s0.H.next + av d m := rfl
    cases t with
    | false =>
      simp only[Bool.false_eq_true, if_false]at h
      let x:Dt := ⟨.lit undef, fun _ => none, 0, ⟨[], []⟩⟩
      have hb:∀ j, j < m -> d j = bn d m x j := fun j hj => eR hj
      have hcan:canon all (bn d m x) s0 (m + 1) = ⟨ay (canon all d s0 m).ρ all[m].dst (.lit undef), (canon all d s0 m).H⟩ := ma ho
      have hgx:GoodAt P G all bs s0 (bn d m x) m := by
        refine⟨?_, ?_, ?_, ?_, ?_⟩
        · rw[bN, <- jI hb]
          intro o ho' ρ2 H2 h1 h2 h3 _
          rw[ho]at ho'
          cases ho'
          refine .inl ⟨?_, rfl⟩
          simp only
          rw[nq h1, ht]
        · rw[bN]; intro k he; cases he
        · rw[bN]; intro c he; exact absurd he (Q5 _)
        · rw[bN]; intro r hr; cases hr
        · rw[bN]
          intro j hj hbit
          exact⟨fun r hr => (by cases hr), fun r hr hr' => (by cases hr')⟩
      refine ih (m + 1) (bn d m x) acc (by omega) (mb hg hgx) (hc.add x) ?_ ?_
      · rw[hcan]; exact wf
      · rw[hcan]; exact h
    | true =>
      simp only[if_true]at h
      unfold bE at h
      split at h
      · rename_i fv args ats hop
        obtain⟨v, e, k, f, ⟨hlt, heff, hnew, hcall⟩, hap, h⟩ := h
        let x:Dt := ⟨v, e, k, f⟩
        have hb:∀ j, j < m -> d j = bn d m x j := fun j hj => eR hj
        have hcan:canon all (bn d m x) s0 (m + 1) = ⟨ay (canon all d s0 m).ρ all[m].dst v, ⟨bY e (canon all d s0 m).H.get, (canon all d s0 m).H.next + k⟩⟩ := ma ho
        have hgx:GoodAt P G all bs s0 (bn d m x) m := by
          refine⟨?_, ?_, ?_, ?_, ?_⟩
          · rw[bN, <- jI hb, <- dN hb]
            intro o ho' ρ2 H2 h1 h2 h3 h4
            rw[ho]at ho'
            cases ho'
            refine .inr ⟨?_, v, rfl, .inr ⟨fv, args, ats, hop, ?_, ?_⟩⟩
            · simp only
              rw[nq h1, ht]
            · intro id st pend q env ps asg body hid
              refine kF fun hs => ?_
              rcases(heff id hs).2 with ⟨hrs, g, t, c, hg⟩ | ⟨g1, g2⟩
              · have e9 := h2 id hrs
                simp only at hid
                rw[hid, hg]at e9
                cases e9
              · obtain⟨c, rfl⟩:∃ c, id = (canon all d s0 m).H.next + c := ⟨id - (canon all d s0 m).H.next, by omega⟩
                have e9:H2.get ((canon all d s0 m).H.next + c) = some .rsv := h3 c (show c < k by omega)
                simp only at hid
                rw[hid]at e9
                cases e9
            · have hev := qZ (G := G) h1
              have e1:af G ρ2 fv = af G (canon all d s0 m).ρ fv := hev fv (by simp [hop, Op.operands, Call.operands])
              have e2:args.toList.map (af G ρ2) = args.toList.map (af G (canon all d s0 m).ρ) :=
                Rm fun y hy => hev y (by simp only[hop, Op.operands, Call.operands]; simp; exact .inr (by simpa using hy))
              simp only
              rw[e1, e2]
              exact hcall H2 h2 h3 h4
          · rw[bN, <- dN hb]
            intro r hr
            exact⟨(heff r hr).1, (heff r hr).2.imp (fun h => h.1) id⟩
          · rw[bN, <- dN hb]; exact hnew
          · rw[bN, <- dN hb]; exact hlt
          · rw[bN]
            intro j hj hbit
            rw[<- eR hj]
            exact o7 hc hap j hj hbit
        refine ih (m + 1) (bn d m x) _ (by omega) (mb hg hgx) (hc.add x) ?_ ?_
        · rw[hcan]
          intro id b hid
          show id < (canon all d s0 m).H.next + k
          simp only at hid
          by_cases hs:(e id).isSome = true
          · rcases(heff id hs).2 with ⟨hrs, _⟩ | ⟨_, g2⟩
            · have := hlt id hrs; omega
            · exact g2
          · rw[kF hs]at hid
            have := wf id b hid
            omega
        · rw[hcan]; exact h
      · obtain⟨⟨v, H'⟩, hop, hap, h⟩ := h
        obtain⟨e, al, hget, hnx, heff, hal, hlt, hloc⟩ := uK wf hop
        let x:Dt := ⟨v, lZ e, (if al = true then 1 else 0), aY P G (canon all d s0 m).ρ (canon all d s0 m).H.next all[m].op⟩
        have hb:∀ j, j < m -> d j = bn d m x j := fun j hj => eR hj
        have hcan:canon all (bn d m x) s0 (m + 1) = ⟨ay (canon all d s0 m).ρ all[m].dst v, H'⟩ := by
          rw[ma ho]
          congr 1
          cases H'
          simp only at hget hnx
          simp only[AHeap.mk.injEq]
          refine⟨(ye _ _).trans hget.symm, ?_⟩
          rw[hnx]
          simp only[x]
          cases al <;> simp
        have hgx:GoodAt P G all bs s0 (bn d m x) m := by
          refine⟨?_, ?_, ?_, ?_, ?_⟩
          · rw[bN, <- jI hb, <- dN hb]
            intro o ho' ρ2 H2 h1 h2 h3 h4
            rw[ho]at ho'
            cases ho'
            refine .inr ⟨?_, v, rfl, .inl ?_⟩
            · simp only
              rw[nq h1, ht]
            · simp only
              rw[ze (ρ' := (canon all d s0 m).ρ) (qZ h1), ye]
              refine hloc H2 h2 fun ha => ?_
              subst ha
              have h5 := h3 0 (by simp [x])
              simp only[x, if_true]at h4
              refine⟨h5, ?_⟩
              rw[hnext]; omega
          · rw[bN, <- dN hb]
            intro r hr
            unfold cF at hr
            simp only[x, lZ]at hr
            cases he:e with
            | none => rw[he]at hr; cases hr
            | some kb =>
              obtain⟨k0, b0⟩ := kb
              rw[he]at hr
              simp only at hr
              by_cases hrk:r = k0
              · subst hrk
                obtain⟨h1, h2⟩ := heff r b0 he
                refine⟨h1, ?_⟩
                cases hal2:al with
                | false => exact .inl (h2 hal2)
                | true =>
                  obtain⟨b1, hb1⟩ := hal hal2
                  rw[he]at hb1
                  simp only[Option.some.injEq, Prod.mk.injEq]at hb1
                  refine .inr ?_
                  simp only[x, hal2, if_true]
                  rw[hnext]at hb1
                  omega
              · rw[QQ hrk]at hr; cases hr
          · rw[bN, <- dN hb]
            intro c hc2
            cases hal2:al with
            | false => simp [x, hal2]at hc2
            | true =>
              simp only[x, hal2, if_true]at hc2
              obtain⟨b1, hb1⟩ := hal hal2
              obtain rfl:c = 0 := by omega
              unfold cF
              simp only[x, lZ, hb1, Nat.add_zero]
              rw[hnext]
              simp
          · rw[bN, <- dN hb]; exact hlt
          · rw[bN]
            intro j hj hbit
            rw[<- eR hj]
            exact o7 hc hap j hj hbit
        have wf':ef H' := by
          intro id b hid
          rw[hget]at hid
          rw[hnx]
          cases e with
          | none =>
            have := wf id b hid
            split <;> omega
          | some kb =>
            obtain⟨k0, b0⟩ := kb
            simp only[cW]at hid
            split at hid
            · rename_i hk
              subst hk
              cases al with
              | true =>
                obtain⟨b1, hb1⟩ := hal rfl
                simp only[Option.some.injEq, Prod.mk.injEq]at hb1
                simp only[if_true]
                omega
              | false =>
                have := hlt _ ((heff id b0 rfl).2 rfl)
                simpa using this
            · have := wf id b hid
              split <;> omega
        refine ih (m + 1) (bn d m x) _ (by omega) (mb hg hgx) (hc.add x) ?_ ?_
        · rw[hcan]; exact wf'
        · rw[hcan]; exact h
end Go.Hx.Ev
