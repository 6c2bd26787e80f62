/-
  Rewrite rules by which the formula is reckoned out. Own work: no program stands in this text.
-/
import Derived.Test.YtikgmgmphkalkaaDoorLibB
set_option linter.all false
namespace Go.Hx
variable {P : Program} {G : Nat → Option (List AVal)}

theorem wpo_some {α : Type} (a : α) (K : α → Prop) : wpo (some a) K = K a := by simp [wpo]
theorem wpo_none {α : Type} (K : α → Prop) : wpo none K = False := by simp [wpo]
theorem wpo_bind {α β : Type} (o : Option α) (f : α → Option β) (K : β → Prop) : wpo (o.bind f) K = wpo o fun a => wpo (f a) K := by
  cases o <;> simp [wpo]
theorem wpo_map {α β : Type} (o : Option α) (f : α → β) (K : β → Prop) : wpo (o.map f) K = wpo o fun a => K (f a) := by
  cases o <;> simp [wpo]
theorem wpo_ite {α : Type} (c : Prop) [Decidable c] (a : Option α) (K : α → Prop) : wpo (if c then a else none) K = (c ∧ wpo a K) := by
  by_cases h : c <;> simp [h, wpo]
theorem wpo_ext {α : Type} {o : Option α} {K K' : α → Prop} (h : ∀ a, K a = K' a) : wpo o K = wpo o K' := by
  have : K = K' := funext h
  subst this
  rfl

theorem Branch_true (p q : Prop) : Branch true p q = p := by simp [Branch]
theorem Branch_false (p q : Prop) : Branch false p q = q := by simp [Branch]
theorem Branch.mk {t : Bool} {p q : Prop} (h1 : t = true → p) (h2 : t = false → q) : Branch t p q := ⟨h1, h2⟩

theorem ACall_congr {f : FuncId} {args args' : List AVal} {H H' : AHeap} {K : ARes → AHeap → Prop} (h2 : args = args') (h3 : H = H') : ACall P G f args H K = ACall P G f args' H' K := by
  rw [h2, h3]
theorem W_congr {n : Nat} {rd : Option Nat} {c : Code} {Q : AX → St → Prop} {s s' : St} (h : s = s') : W P G n rd c Q s = W P G n rd c Q s' := by rw [h]

attribute [congr] ACall_congr W_congr
theorem thenA_normal (K : St → Prop) (Q : AX → St → Prop) (s : St) : thenA K Q .normal s = K s := (rfl)
theorem thenA_exit (K : St → Prop) (Q : AX → St → Prop) (i : Nat) (s : St) : thenA K Q (.exit i) s = Q (.exit i) s := (rfl)
theorem thenA_goto (K : St → Prop) (Q : AX → St → Prop) (i : Nat) (s : St) : thenA K Q (.goto i) s = Q (.goto i) s := (rfl)
theorem thenA_ret (K : St → Prop) (Q : AX → St → Prop) (s : St) : thenA K Q .ret s = Q .ret s := (rfl)
theorem thenA_panic (K : St → Prop) (Q : AX → St → Prop) (s : St) : thenA K Q .panic s = Q .panic s := (rfl)
theorem blockA_normal (i : Nat) (Q : AX → St → Prop) (s : St) : blockA i Q .normal s = Q .normal s := (rfl)
theorem blockA_exit (i j : Nat) (Q : AX → St → Prop) (s : St) : blockA i Q (.exit j) s = if j = i then Q .normal s else Q (.exit j) s := (rfl)
theorem blockA_goto (i j : Nat) (Q : AX → St → Prop) (s : St) : blockA i Q (.goto j) s = Q (.goto j) s := (rfl)
theorem blockA_ret (i : Nat) (Q : AX → St → Prop) (s : St) : blockA i Q .ret s = Q .ret s := (rfl)
theorem blockA_panic (i : Nat) (Q : AX → St → Prop) (s : St) : blockA i Q .panic s = Q .panic s := (rfl)
theorem noGoto_normal (Q : AX → St → Prop) (s : St) : noGoto Q .normal s = Q .normal s := (rfl)
theorem noGoto_exit (i : Nat) (Q : AX → St → Prop) (s : St) : noGoto Q (.exit i) s = Q (.exit i) s := (rfl)
theorem noGoto_ret (Q : AX → St → Prop) (s : St) : noGoto Q .ret s = Q .ret s := (rfl)
theorem noGoto_panic (Q : AX → St → Prop) (s : St) : noGoto Q .panic s = Q .panic s := (rfl)

section code
variable {n : Nat} {rd : Option Nat} {Q : AX → St → Prop} {s : St}
theorem vc_skip : vc P G n rd .skip Q s = Q .normal s := (rfl)
theorem vc_label (l : Nat) : vc P G n rd (.label l) Q s = Q .normal s := (rfl)
theorem vc_region (id : Nat) (ops : Array Oper) : vc P G n rd (.region id ops false) Q s = opsV P G rd Q ops ops.toList s := (rfl)
theorem vc_draw (id : Nat) (ops : Array Oper) : vc P G n rd (.region id ops true) Q s = W P G n rd (.region id ops true) Q s := (rfl)
theorem vc_seq (a b : Code) : vc P G n rd (.seq a b) Q s = vc P G n rd a (thenA (vc P G n rd b Q) Q) s := (rfl)
theorem vc_block (id : Nat) (c : Code) : vc P G n rd (.block id c) Q s = vc P G n rd c (blockA id Q) s := (rfl)
theorem vc_loop (c : Code) : vc P G n rd (.loop c) Q s = W P G n rd (.loop c) Q s := (rfl)
theorem vc_rangeFunc (f : Operand) (ps : Array Tmp) (asg c : Code) : vc P G n rd (.rangeFunc f ps asg c) Q s = W P G n rd (.rangeFunc f ps asg c) Q s := (rfl)
theorem vc_exit (i : Nat) : vc P G n rd (.exit i) Q s = Q (.exit i) s := (rfl)
theorem vc_scope (c : Code) : vc P G n rd (.scope c) Q s = vc P G n rd c (noGoto Q) s := (rfl)
theorem vc_goto (i : Nat) : vc P G n rd (.goto i) Q s = Q (.goto i) s := (rfl)
theorem vc_ret : vc P G n rd .ret Q s = Q .ret s := (rfl)
def boolA : AVal → Option Bool
  | .lit (.bool t) => some t
  | _ => none
theorem boolA_lit (t : Bool) : boolA (.lit (.bool t)) = some t := rfl
theorem vc_cond (c : Operand) (a b : Code) : vc P G n rd (.cond c a b) Q s = wpo (boolA (evA G s.ρ c)) fun t => Branch t (vc P G n rd a Q s) (vc P G n rd b Q s) := by
  simp only [vc]
  congr 1
end code

theorem evA_tmp (ρ : Env) (t : Tmp) : evA G ρ (.tmp t) = ρ t := rfl
theorem evA_const (ρ : Env) (v : Value) : evA G ρ (.const v) = .lit v := rfl
theorem evA_func (ρ : Env) (f : FuncId) : evA G ρ (.func f) = .clo f [] [] := rfl
theorem putA_app (ρ : Env) (d : Tmp) (v : AVal) (t : Tmp) : putA ρ (some d) v t = if t = d then v else ρ t := rfl
theorem putA_none (ρ : Env) (v : AVal) : putA ρ none v = ρ := rfl
theorem mask_app (ws : Nat) (ρ ρ₀ : Env) (t : Nat) : mask ws ρ ρ₀ t = if ws / 2 ^ t % 2 = 1 then ρ t else ρ₀ t := rfl

def iv : AVal → Int
  | .lit (.int _ n) => n
  | _ => 0
theorem iv_int (k : IntKind) (n : Int) : iv (.lit (.int k n)) = n := rfl
theorem envOf_app (l : List AVal) (t : Nat) : envOf l t = (l[t]?).getD (.lit undef) := rfl

theorem bodyQ_ret (rs : List ResultVar) (H : AHeap) (K : ARes → AHeap → Prop) (s : St) : bodyQ P G rs H K .ret s = wpo (resA P s.H s.ρ rs) fun vs => FinV P G H K (resV vs) s.H := (rfl)
theorem bodyQ_normal (rs : List ResultVar) (H : AHeap) (K : ARes → AHeap → Prop) (s : St) : bodyQ P G rs H K .normal s = wpo (resA P s.H s.ρ rs) fun vs => FinV P G H K (resV vs) s.H := (rfl)
theorem resA_nil (H : AHeap) (ρ : Env) : resA P H ρ [] = some [] := rfl
theorem resA_tmp (H : AHeap) (ρ : Env) (t : Tmp) (r : List ResultVar) : resA P H ρ (.tmp t :: r) = (resA P H ρ r).map (ρ t :: ·) := rfl
theorem resA_cell (H : AHeap) (ρ : Env) (a : Tmp) (t : TypeId) (r : List ResultVar) : resA P H ρ (.cell a t :: r) = (loadA P H t (ρ a)).bind fun v => (resA P H ρ r).map (v :: ·) := rfl
theorem resV_one (v : AVal) : resV [v] = v := rfl
theorem resV_two (v u : AVal) (r : List AVal) : resV (v :: u :: r) = .tup (v :: u :: r) := rfl
theorem resV_nil : resV [] = .tup [] := rfl

section ops
variable {rd : Option Nat} {Q : AX → St → Prop} {K : St → Prop} {s : St} {d : Option Tmp} {ty : TypeId} {pos : String} {aft : Array Edge} {g : Option (Nat × Bool)}

theorem opsV_nil (all : Array Oper) : opsV P G rd Q all [] s = Q .normal s := (rfl)
theorem opsV_plain (all : Array Oper) (op : Op) (rest : List Oper) : opsV P G rd Q all (⟨d, op, ty, pos, aft, none⟩ :: rest) s = opV P G rd Q ⟨d, op, ty, pos, aft, none⟩ (opsV P G rd Q all rest) s := by
  simp [opsV, wantA, wpo_some]
theorem opsV_guard (all : Array Oper) (op : Op) (rest : List Oper) (j : Nat) (want : Bool) : opsV P G rd Q all (⟨d, op, ty, pos, aft, some (j, want)⟩ :: rest) s =
    wpo (wantA all s.ρ ⟨d, op, ty, pos, aft, some (j, want)⟩) fun t => if t = true then opV P G rd Q ⟨d, op, ty, pos, aft, some (j, want)⟩ (opsV P G rd Q all rest) s else opsV P G rd Q all rest ⟨putA s.ρ d (.lit undef), s.H⟩ := (rfl)

def AAp (P : Program) (G : Nat → Option (List AVal)) (fv : AVal) (args : List AVal) (H : AHeap) (K : ARes → AHeap → Prop) (_d : TagR K := .mk) : Prop := AApply P G fv args H K
theorem opV_call (fv : Operand) (args : Array Operand) (ats : Array TypeId) : opV P G rd Q ⟨d, .call ⟨.value fv, args, ats⟩, ty, pos, aft, g⟩ K s =
    AAp P G (evA G s.ρ fv) (args.toList.map (evA G s.ρ)) s.H fun r H' => RdIn H' rd ∧ match r with
      | .ret v => K ⟨putA s.ρ d v, H'⟩
      | .panic => Q .panic ⟨s.ρ, H'⟩ := (rfl)
theorem opV_panic (x : Operand) : opV P G rd Q ⟨d, .panic x, ty, pos, aft, g⟩ K s = ((∃ t v, (evA G s.ρ x) = .lit (.iface t v)) ∧ Q .panic s) := (rfl)
theorem opV_move (x : Operand) : opV P G rd Q ⟨d, .move x, ty, pos, aft, g⟩ K s = K ⟨putA s.ρ d (evA G s.ρ x), s.H⟩ := by simp [opV, opA, wpo_some]
theorem opV_assign (x : Operand) : opV P G rd Q ⟨d, .assign x, ty, pos, aft, g⟩ K s = K ⟨putA s.ρ d (evA G s.ρ x), s.H⟩ := by simp [opV, opA, wpo_some]
theorem opV_pick (c a b : Operand) : opV P G rd Q ⟨d, .pick c a b, ty, pos, aft, g⟩ K s = wpo (match evA G s.ρ c with | .lit (.bool t) => some t | _ => none) fun t => K ⟨putA s.ρ d (if t then evA G s.ρ a else evA G s.ρ b), s.H⟩ := by
  simp only [opV, opA]
  split <;> simp_all [wpo_some, wpo_none]
theorem opV_alloc (e : TypeId) : opV P G rd Q ⟨d, .alloc e, ty, pos, aft, g⟩ K s = wpo (zeroA P e) fun z => wpo (s.H.lay s.H.next (.arr 0 e z)) fun H' => K ⟨putA s.ρ d (.ptr s.H.next 0 0), H'⟩ := by
  simp only [opV, opA, wpo_bind]
  exact wpo_ext fun _ => wpo_map ..
theorem opV_load (t : TypeId) (a : Operand) : opV P G rd Q ⟨d, .load t a, ty, pos, aft, g⟩ K s = wpo (loadA P s.H t (evA G s.ρ a)) fun v => K ⟨putA s.ρ d v, s.H⟩ := by
  simp [opV, opA, wpo_map]
theorem opV_store (t : TypeId) (a x : Operand) : opV P G rd Q ⟨d, .store t a x, ty, pos, aft, g⟩ K s = ((P.underlying t).isSome = true ∧ wpo (storeA P s.H t (evA G s.ρ a) (evA G s.ρ x)) fun H' => K ⟨putA s.ρ d (.lit undef), H'⟩) := by
  simp [opV, opA, wpo_ite, wpo_map]
theorem opV_nilCheck (x : Operand) : opV P G rd Q ⟨d, .nilCheck x, ty, pos, aft, g⟩ K s = wpo (nilCheckA s.H (evA G s.ρ x)) fun v => K ⟨putA s.ρ d v, s.H⟩ := by
  simp [opV, opA, wpo_map]
theorem opV_binOp (op : BinOp) (t : TypeId) (x y : Operand) (u : TypeId) : opV P G rd Q ⟨d, .binOp op t x y u, ty, pos, aft, g⟩ K s =
    nilK P op t (nilOf s.H op (evA G s.ρ x) (evA G s.ρ y)) (fun v => K ⟨putA s.ρ d v, s.H⟩) (wpo (binA P op t x y (evA G s.ρ x) (evA G s.ρ y)) fun v => K ⟨putA s.ρ d v, s.H⟩) := by
  simp [opV, opA, wpo_map]
theorem nilK_none (op : BinOp) (t : TypeId) (Kb : AVal → Prop) (p : Prop) : nilK P op t none Kb p = p := rfl
theorem nilK_some (op : BinOp) (t : TypeId) (k : Bool) (Kb : AVal → Prop) (p : Prop) : nilK P op t (some k) Kb p = (sliceT (P.underlying t) = true ∧ ∀ b : Bool, (k = true → b = false) → Kb (.lit (.bool (if op == .neq then !b else b)))) := rfl
theorem sliceT_slice (e : TypeId) : sliceT (some (.slice e)) = true := rfl
theorem nilOf_lit (H : AHeap) (op : BinOp) (v : Value) (y : AVal) : nilOf H op (.lit v) y = none := by
  unfold nilOf
  split <;> rfl
theorem nilOf_eql (H : AHeap) (n : Nat) (cells : List AVal) : nilOf H .eql (.vec n cells) (.lit (.slice none 0 0)) = some (decide (0 < n)) := rfl
theorem nilOf_neq (H : AHeap) (n : Nat) (cells : List AVal) : nilOf H .neq (.vec n cells) (.lit (.slice none 0 0)) = some (decide (0 < n)) := rfl
theorem eql_neq : (BinOp.eql == BinOp.neq) = false := rfl
theorem neq_neq : (BinOp.neq == BinOp.neq) = true := rfl
theorem opV_unOp (op : UnOp) (t : TypeId) (x : Operand) : opV P G rd Q ⟨d, .unOp op t x, ty, pos, aft, g⟩ K s = wpo (unA P op (evA G s.ρ x)) fun v => K ⟨putA s.ρ d v, s.H⟩ := by
  simp [opV, opA, wpo_map]
theorem opV_convert (a b : TypeId) (x : Operand) : opV P G rd Q ⟨d, .convert a b x, ty, pos, aft, g⟩ K s = wpo (convH P s.H a b (evA G s.ρ x)) fun v => K ⟨putA s.ρ d v, s.H⟩ := by
  simp [opV, opA, wpo_map]
theorem opV_makeFunc (f : FuncId) (first cap : Array Operand) : opV P G rd Q ⟨d, .makeFunc (.func f) first cap, ty, pos, aft, g⟩ K s = K ⟨putA s.ρ d (.clo f (first.toList.map (evA G s.ρ)) (cap.toList.map (evA G s.ρ))), s.H⟩ := by
  simp [opV, opA, wpo_some]
theorem opV_makeSlice (t : TypeId) (l c : Operand) : opV P G rd Q ⟨d, .makeSlice t l c, ty, pos, aft, g⟩ K s = wpo (makeSliceA P s.H s.H.next t (evA G s.ρ l) (evA G s.ρ c)) fun vH => K ⟨putA s.ρ d vH.1, vH.2⟩ := by
  simp [opV, opA]
theorem opV_slice (t : TypeId) (x : Operand) (lo hi : Option Operand) : opV P G rd Q ⟨d, .slice t x lo hi none, ty, pos, aft, g⟩ K s =
    wpo (sliceA P s.H t (evA G s.ρ x) (lo.map (evA G s.ρ)) (hi.map (evA G s.ρ))) fun v => K ⟨putA s.ρ d v, s.H⟩ := by
  simp [opV, opA, wpo_map]
def fieldAddrA (P : Program) (H : AHeap) (s : TypeId) (f : Nat) (x : AVal) : Option AVal :=
  (fieldA P s f).bind fun of => match x with
    | .ptr id gen off => (H.live id gen).map fun _ => .ptr id gen (off + of.1)
    | .vptr cells off => some (.vptr cells (off + of.1))
    | _ => none
def fieldVA (P : Program) (t : TypeId) (f : Nat) (x : AVal) : Option AVal :=
  (fieldA P t f).bind fun of => match x with
    | .agg cells => partA P of.2 cells of.1
    | .lit (.agg cs) => partA P of.2 (cs.toList.map .lit) of.1
    | _ => none
def indexAddrV (P : Program) (H : AHeap) (t : TypeId) (x i : AVal) : Option AVal := match i with
  | .lit (.int _ i) => indexAddrA P H t x i
  | _ => none
theorem opV_indexAddr (t : TypeId) (x i : Operand) : opV P G rd Q ⟨d, .indexAddr t x i, ty, pos, aft, g⟩ K s = wpo (indexAddrV P s.H t (evA G s.ρ x) (evA G s.ρ i)) fun v => K ⟨putA s.ρ d v, s.H⟩ := by
  simp only [opV, opA, indexAddrV]
  split <;> simp_all [wpo_none, wpo_map]
theorem opV_index (t : TypeId) (x i : Operand) : opV P G rd Q ⟨d, .index t x i, ty, pos, aft, g⟩ K s = wpo (indexA P t (evA G s.ρ x) (evA G s.ρ i)) fun v => K ⟨putA s.ρ d v, s.H⟩ := by
  simp [opV, opA, wpo_map]
theorem opV_extract (t : Operand) (i : Nat) : opV P G rd Q ⟨d, .extract t i, ty, pos, aft, g⟩ K s = wpo (extractA (evA G s.ρ t) i) fun v => K ⟨putA s.ρ d v, s.H⟩ := by
  simp [opV, opA, wpo_map]
theorem opV_builtin (b : Builtin) (args : Array Operand) (ats : Array TypeId) : opV P G rd Q ⟨d, .call ⟨.builtin b, args, ats⟩, ty, pos, aft, g⟩ K s =
    wpo (builtinA P s.H s.H.next b ats.toList (args.toList.map (evA G s.ρ))) fun vH => K ⟨putA s.ρ d vH.1, vH.2⟩ := by
  simp [opV, opA]
end ops

theorem builtin_len (H : AHeap) (id : Nat) (t : TypeId) (x : AVal) : builtinA P H id .len [t] [x] = (lenA P H t x).map fun v => (v, H) := rfl
theorem builtin_append (H : AHeap) (id : Nat) (t u : TypeId) (s x : AVal) : builtinA P H id .append [t, u] [s, x] = appendA P H id t u s x := rfl
theorem builtin_copy (H : AHeap) (id : Nat) (t u : TypeId) (s x : AVal) : builtinA P H id .copy [t, u] [s, x] = copyA P H t s x := rfl
section nums
variable {t : TypeId} {x y : Operand} {k : IntKind} {a b : Int}
theorem bin_add : binA P .add t x y (.lit (.int k a)) (.lit (.int k b)) = some (.lit (.int k (k.wrap (a + b)))) := by
  simp [binA, AVal.toVal, eqGuard, binOp, Op.intArith, pureRun, bind, Sem.bind, pure]
theorem bin_sub : binA P .sub t x y (.lit (.int k a)) (.lit (.int k b)) = some (.lit (.int k (k.wrap (a - b)))) := by
  simp [binA, AVal.toVal, eqGuard, binOp, Op.intArith, pureRun, bind, Sem.bind, pure]
theorem bin_mul : binA P .mul t x y (.lit (.int k a)) (.lit (.int k b)) = some (.lit (.int k (k.wrap (a * b)))) := by
  simp [binA, AVal.toVal, eqGuard, binOp, Op.intArith, pureRun, bind, Sem.bind, pure]
theorem bin_quo : binA P .quo t x y (.lit (.int k a)) (.lit (.int k b)) = if b ≠ 0 then some (.lit (.int k (k.wrap (a.tdiv b)))) else none := by
  by_cases h : b = 0 <;> simp [h, binA, AVal.toVal, eqGuard, binOp, Op.intDiv, runtimePanic, program, goPanic, pureRun, bind, Sem.bind, pure]
theorem bin_rem : binA P .rem t x y (.lit (.int k a)) (.lit (.int k b)) = if b ≠ 0 then some (.lit (.int k (a.tmod b))) else none := by
  by_cases h : b = 0 <;> simp [h, binA, AVal.toVal, eqGuard, binOp, Op.intDiv, runtimePanic, program, goPanic, pureRun, bind, Sem.bind, pure]
theorem bin_lss : binA P .lss t x y (.lit (.int k a)) (.lit (.int k b)) = some (.lit (.bool (decide (a < b)))) := by
  simp [binA, AVal.toVal, eqGuard, binOp, Op.intCmp, pureRun, bind, Sem.bind, pure]
theorem bin_leq : binA P .leq t x y (.lit (.int k a)) (.lit (.int k b)) = some (.lit (.bool (decide (a ≤ b)))) := by
  simp [binA, AVal.toVal, eqGuard, binOp, Op.intCmp, pureRun, bind, Sem.bind, pure]
theorem bin_gtr : binA P .gtr t x y (.lit (.int k a)) (.lit (.int k b)) = some (.lit (.bool (decide (b < a)))) := by
  simp [binA, AVal.toVal, eqGuard, binOp, Op.intCmp, pureRun, bind, Sem.bind, pure]
theorem bin_geq : binA P .geq t x y (.lit (.int k a)) (.lit (.int k b)) = some (.lit (.bool (decide (b ≤ a)))) := by
  simp [binA, AVal.toVal, eqGuard, binOp, Op.intCmp, pureRun, bind, Sem.bind, pure]
theorem bin_eql : binA P .eql t x y (.lit (.int k a)) (.lit (.int k b)) = some (.lit (.bool (decide (a = b)))) := by
  simp [binA, AVal.toVal, eqGuard, binOp, Op.intCmp, pureRun, bind, Sem.bind, pure]
  rfl
theorem bin_neq : binA P .neq t x y (.lit (.int k a)) (.lit (.int k b)) = some (.lit (.bool (!decide (a = b)))) := by
  simp [binA, AVal.toVal, eqGuard, binOp, Op.intCmp, pureRun, bind, Sem.bind, pure]
  rfl
theorem un_not (v : Bool) : unA P .not (.lit (.bool v)) = some (.lit (.bool (!v))) := rfl
theorem convH_lit (H : AHeap) (s d : TypeId) (v : Value) : convH P H s d (.lit v) = convA P s d (.lit v) := rfl
theorem convH_agg (H : AHeap) (s d : TypeId) (c : List AVal) : convH P H s d (.agg c) = convA P s d (.agg c) := rfl
theorem conv_int {s d : TypeId} {k' : IntKind} (hs : (P.underlying s).isSome = true) (hd : P.underlying d = some (.int k')) : convA P s d (.lit (.int k a)) = some (.lit (.int k' (k'.wrap a))) := by
  obtain ⟨ds, hs⟩ := Option.isSome_iff_exists.1 hs
  simp only [convA, AVal.toVal]
  have : pureRun P (convert s d (.int k a)) = some (.int k' (k'.wrap a)) := by
    simp [convert, underlying, program, hs, hd, pureRun, bind, Sem.bind, pure, Conv.intToInt]
  rw [this]
  rfl
end nums

def ext (H : AHeap) (L : List Blk) : AHeap :=
  { get := fun j => if H.next ≤ j ∧ j < H.next + L.length then L[j - H.next]? else H.get j, next := H.next + L.length }

theorem ext_next (H : AHeap) (L : List Blk) : (ext H L).next = H.next + L.length := rfl
theorem lay_next (H : AHeap) (b : Blk) : H.lay H.next b = some (ext H [b]) := by
  unfold AHeap.lay ext
  rw [if_pos rfl]
  congr 2
  funext j
  by_cases h : j = H.next
  · subst h; simp
  · rw [if_neg h, if_neg]
    simp only [List.length_cons, List.length_nil]
    omega
theorem lay_ext (H : AHeap) (L : List Blk) (b : Blk) : (ext H L).lay (H.next + L.length) b = some (ext H (L ++ [b])) := by
  unfold AHeap.lay
  rw [if_pos (ext_next H L).symm]
  unfold ext
  congr 2
  · funext j
    simp only [List.length_append, List.length_cons, List.length_nil]
    by_cases h : j = H.next + L.length
    · subst h
      rw [if_pos rfl, if_pos (by omega), Nat.add_sub_cancel_left]
      simp
    · rw [if_neg h]
      by_cases h2 : H.next ≤ j ∧ j < H.next + L.length
      · rw [if_pos h2, if_pos (by omega), List.getElem?_append_left (by omega)]
      · rw [if_neg h2, if_neg (by omega)]
  · simp only [List.length_append, List.length_cons, List.length_nil]; omega
theorem lay_ext' (H : AHeap) (L : List Blk) (i : Nat) (b : Blk) (h : L.length = i) : (ext H L).lay (H.next + i) b = some (ext H (L ++ [b])) := by subst h; exact lay_ext H L b
theorem get_ext (H : AHeap) (L : List Blk) (i : Nat) (h : i < L.length) : (ext H L).get (H.next + i) = L[i]? := by
  unfold ext
  simp only
  rw [if_pos (by omega), Nat.add_sub_cancel_left]
theorem get_ext_old (H : AHeap) (L : List Blk) (i : Nat) (h : i < H.next) : (ext H L).get i = H.get i := by
  unfold ext
  simp only
  rw [if_neg (by omega)]
theorem upd_ext (H : AHeap) (L : List Blk) (i : Nat) (b : Blk) (h : i < L.length) : (ext H L).upd (H.next + i) b = ext H (L.set i b) := by
  unfold ext AHeap.upd
  simp only [List.length_set]
  congr 1
  funext j
  by_cases hj : j = H.next + i
  · subst hj
    rw [if_pos rfl, if_pos (by omega), Nat.add_sub_cancel_left, List.getElem?_set_self h]
  · rw [if_neg hj]
    by_cases h2 : H.next ≤ j ∧ j < H.next + L.length
    · rw [if_pos h2, if_pos h2, List.getElem?_set_ne (by omega)]
    · rw [if_neg h2, if_neg h2]

def liveL (b : Option Blk) (gen : Nat) : Option (TypeId × List AVal) :=
  match b with
  | some (.arr g e cells) => if g = gen then some (e, cells) else none
  | _ => none
theorem liveL_some (g gen : Nat) (e : TypeId) (cells : List AVal) : liveL (some (.arr g e cells)) gen = if g = gen then some (e, cells) else none := rfl
theorem live_ext (H : AHeap) (L : List Blk) (i gen : Nat) (h : i < L.length) : (ext H L).live (H.next + i) gen = liveL L[i]? gen := by
  unfold AHeap.live liveL
  rw [get_ext H L i h]
  rfl
theorem live_ext0 (H : AHeap) (b : Blk) (L : List Blk) (gen : Nat) : (ext H (b :: L)).live H.next gen = liveL (some b) gen := live_ext H (b :: L) 0 gen (by simp)
theorem upd_ext0 (H : AHeap) (c : Blk) (L : List Blk) (b : Blk) : (ext H (c :: L)).upd H.next b = ext H (b :: L) := upd_ext H (c :: L) 0 b (by simp)

end Go.Hx
namespace Go.Hx
variable {P : Program} {G : Nat → Option (List AVal)}

def guardA (want : Bool) : Option AVal → Option Bool
  | some (.lit (.bool b)) => some (b == want)
  | some (.lit _) => some false
  | none => some false
  | _ => none
theorem guardA_bool (want b : Bool) : guardA want (some (.lit (.bool b))) = some (b == want) := rfl
theorem beq_true' (b : Bool) : (b == true) = b := by cases b <;> rfl
theorem beq_false' (b : Bool) : (b == false) = !b := by cases b <;> rfl
theorem branch_ite (t : Bool) (p q : Prop) : (if t = true then p else q) = Branch t p q := by cases t <;> simp [Branch]

theorem wantA_guard (all : Array Oper) (ρ : Env) (d : Option Tmp) (op : Op) (ty : TypeId) (pos : String) (aft : Array Edge) (j : Nat) (want : Bool) :
    wantA all ρ ⟨d, op, ty, pos, aft, some (j, want)⟩ = guardA want (((all[j]?).bind (·.dst)).map ρ) := by
  unfold wantA
  simp only
  cases (all[j]?).bind (·.dst) with
  | none => rfl
  | some d =>
    simp only [Option.map_some]
    cases ρ d with
    | lit v => cases v <;> rfl
    | _ => rfl

section
variable {rd : Option Nat} {Q : AX → St → Prop} {s : St} {d : Option Tmp} {ty : TypeId} {pos : String} {aft : Array Edge} {g : Option (Nat × Bool)}
theorem opsV_guard' (all : Array Oper) (op : Op) (rest : List Oper) (j : Nat) (want : Bool) : opsV P G rd Q all (⟨d, op, ty, pos, aft, some (j, want)⟩ :: rest) s =
    wpo (guardA want (((all[j]?).bind (·.dst)).map s.ρ)) fun t => Branch t (opV P G rd Q ⟨d, op, ty, pos, aft, some (j, want)⟩ (opsV P G rd Q all rest) s) (opsV P G rd Q all rest ⟨putA s.ρ d (.lit undef), s.H⟩) := by
  rw [opsV_guard, wantA_guard]
  exact wpo_ext fun _ => branch_ite ..

variable {all : Array Oper} {tail : St → Prop} {b i : Nat} {bs : List Nat} {acc : List (Nat × FP)} {K : FP → St → Prop}
theorem opsD_nil (bs : List Nat) : opsD P G all tail bs i acc [] s = tail s := by cases bs <;> rfl
theorem opsD_plain (op : Op) (rest : List Oper) : opsD P G all tail (b :: bs) i acc (⟨d, op, ty, pos, aft, none⟩ :: rest) s =
    opD P G ⟨d, op, ty, pos, aft, none⟩ (fun f s' => ApartA b f acc ∧ opsD P G all tail bs (i + 1) (addF i f acc) rest s') s := by
  simp [opsD, wantA, wpo]
theorem opsD_guard (op : Op) (rest : List Oper) (j : Nat) (want : Bool) : opsD P G all tail (b :: bs) i acc (⟨d, op, ty, pos, aft, some (j, want)⟩ :: rest) s =
    wpo (guardA want (((all[j]?).bind (·.dst)).map s.ρ)) fun t =>
      Branch t (opD P G ⟨d, op, ty, pos, aft, some (j, want)⟩ (fun f s' => ApartA b f acc ∧ opsD P G all tail bs (i + 1) (addF i f acc) rest s') s)
        (opsD P G all tail bs (i + 1) acc rest ⟨putA s.ρ d (.lit undef), s.H⟩) := by
  simp only [opsD, wantA_guard]
  exact wpo_ext fun _ => branch_ite ..

theorem opD_call (fv : Operand) (args : Array Operand) (ats : Array TypeId) : opD P G ⟨d, .call ⟨.value fv, args, ats⟩, ty, pos, aft, g⟩ K s =
    ∃ v rs, PCall P G (evA G s.ρ fv) (args.toList.map (evA G s.ρ)) s.H v rs ∧ K ⟨[], rs⟩ ⟨putA s.ρ d v, s.H⟩ := (rfl)
abbrev QF : AX → St → Prop := fun _ _ => False
theorem opD_move (x : Operand) : opD P G ⟨d, .move x, ty, pos, aft, g⟩ K s = opV P G none QF ⟨d, .move x, ty, pos, aft, g⟩ (K ⟨[], []⟩) s := (rfl)
theorem opD_assign (x : Operand) : opD P G ⟨d, .assign x, ty, pos, aft, g⟩ K s = opV P G none QF ⟨d, .assign x, ty, pos, aft, g⟩ (K ⟨[], []⟩) s := (rfl)
theorem opD_pick (c x y : Operand) : opD P G ⟨d, .pick c x y, ty, pos, aft, g⟩ K s = opV P G none QF ⟨d, .pick c x y, ty, pos, aft, g⟩ (K ⟨[], []⟩) s := (rfl)
theorem opD_alloc (e : TypeId) : opD P G ⟨d, .alloc e, ty, pos, aft, g⟩ K s = opV P G none QF ⟨d, .alloc e, ty, pos, aft, g⟩ (K ⟨[s.H.next], []⟩) s := (rfl)
theorem opD_box (e : TypeId) (x : Operand) : opD P G ⟨d, .box e x, ty, pos, aft, g⟩ K s = opV P G none QF ⟨d, .box e x, ty, pos, aft, g⟩ (K ⟨[s.H.next], []⟩) s := (rfl)
theorem opD_build (t : TypeId) (p : Array (Nat × Operand)) : opD P G ⟨d, .build t p, ty, pos, aft, g⟩ K s = opV P G none QF ⟨d, .build t p, ty, pos, aft, g⟩ (K ⟨[], []⟩) s := (rfl)
theorem opD_buildSlice (t : TypeId) (l : Nat) (p : Array (Nat × Operand)) : opD P G ⟨d, .buildSlice t l p, ty, pos, aft, g⟩ K s = opV P G none QF ⟨d, .buildSlice t l p, ty, pos, aft, g⟩ (K ⟨[s.H.next], []⟩) s := (rfl)
theorem opD_load (t : TypeId) (x : Operand) : opD P G ⟨d, .load t x, ty, pos, aft, g⟩ K s = opV P G none QF ⟨d, .load t x, ty, pos, aft, g⟩ (K ⟨[], idsV (evA G s.ρ x)⟩) s := (rfl)
theorem opD_store (t : TypeId) (x y : Operand) : opD P G ⟨d, .store t x y, ty, pos, aft, g⟩ K s = opV P G none QF ⟨d, .store t x y, ty, pos, aft, g⟩ (K ⟨idsV (evA G s.ρ x), idsV (evA G s.ρ x)⟩) s := (rfl)
theorem opD_nilCheck (x : Operand) : opD P G ⟨d, .nilCheck x, ty, pos, aft, g⟩ K s = opV P G none QF ⟨d, .nilCheck x, ty, pos, aft, g⟩ (K ⟨[], idsV (evA G s.ρ x)⟩) s := (rfl)
theorem opD_binOp (op : BinOp) (t : TypeId) (x y : Operand) (u : TypeId) : opD P G ⟨d, .binOp op t x y u, ty, pos, aft, g⟩ K s = wpo (binA P op t x y (evA G s.ρ x) (evA G s.ρ y)) fun v => K ⟨[], []⟩ ⟨putA s.ρ d v, s.H⟩ := by
  simp only [opD, opA, wpo_map]
  rfl
theorem opD_unOp (op : UnOp) (t : TypeId) (x : Operand) : opD P G ⟨d, .unOp op t x, ty, pos, aft, g⟩ K s = opV P G none QF ⟨d, .unOp op t x, ty, pos, aft, g⟩ (K ⟨[], []⟩) s := (rfl)
theorem opD_convert (t u : TypeId) (x : Operand) : opD P G ⟨d, .convert t u x, ty, pos, aft, g⟩ K s = opV P G none QF ⟨d, .convert t u x, ty, pos, aft, g⟩ (K ⟨[], idsV (evA G s.ρ x)⟩) s := (rfl)
theorem opD_makeInterface (t : TypeId) (x : Operand) : opD P G ⟨d, .makeInterface t x, ty, pos, aft, g⟩ K s = opV P G none QF ⟨d, .makeInterface t x, ty, pos, aft, g⟩ (K ⟨[], []⟩) s := (rfl)
theorem opD_makeFunc (f : Fn) (x y : Array Operand) : opD P G ⟨d, .makeFunc f x y, ty, pos, aft, g⟩ K s = opV P G none QF ⟨d, .makeFunc f x y, ty, pos, aft, g⟩ (K ⟨[], []⟩) s := (rfl)
theorem opD_makeSlice (t : TypeId) (x y : Operand) : opD P G ⟨d, .makeSlice t x y, ty, pos, aft, g⟩ K s = opV P G none QF ⟨d, .makeSlice t x y, ty, pos, aft, g⟩ (K ⟨[s.H.next], []⟩) s := (rfl)
theorem opD_slice (t : TypeId) (x : Operand) (lo hi mx : Option Operand) : opD P G ⟨d, .slice t x lo hi mx, ty, pos, aft, g⟩ K s = opV P G none QF ⟨d, .slice t x lo hi mx, ty, pos, aft, g⟩ (K ⟨[], idsV (evA G s.ρ x)⟩) s := (rfl)
theorem opD_fieldAddr (t : TypeId) (x : Operand) (f : Nat) : opD P G ⟨d, .fieldAddr t x f, ty, pos, aft, g⟩ K s = opV P G none QF ⟨d, .fieldAddr t x f, ty, pos, aft, g⟩ (K ⟨[], idsV (evA G s.ρ x)⟩) s := (rfl)
theorem opD_field (t : TypeId) (x : Operand) (f : Nat) : opD P G ⟨d, .field t x f, ty, pos, aft, g⟩ K s = opV P G none QF ⟨d, .field t x f, ty, pos, aft, g⟩ (K ⟨[], []⟩) s := (rfl)
theorem opD_indexAddr (t : TypeId) (x y : Operand) : opD P G ⟨d, .indexAddr t x y, ty, pos, aft, g⟩ K s = opV P G none QF ⟨d, .indexAddr t x y, ty, pos, aft, g⟩ (K ⟨[], idsV (evA G s.ρ x)⟩) s := (rfl)
theorem opD_index (t : TypeId) (x y : Operand) : opD P G ⟨d, .index t x y, ty, pos, aft, g⟩ K s = opV P G none QF ⟨d, .index t x y, ty, pos, aft, g⟩ (K ⟨[], []⟩) s := (rfl)
theorem opD_extract (x : Operand) (f : Nat) : opD P G ⟨d, .extract x f, ty, pos, aft, g⟩ K s = opV P G none QF ⟨d, .extract x f, ty, pos, aft, g⟩ (K ⟨[], []⟩) s := (rfl)
theorem opD_builtin (f : Builtin) (args : Array Operand) (ats : Array TypeId) : opD P G ⟨d, .call ⟨.builtin f, args, ats⟩, ty, pos, aft, g⟩ K s =
    opV P G none QF ⟨d, .call ⟨.builtin f, args, ats⟩, ty, pos, aft, g⟩ (K (fpB P s.H.next f ats.toList (args.toList.map (evA G s.ρ)))) s := rfl
end

theorem idsV_lit (v : Value) : idsV (.lit v) = [] := rfl
theorem idsV_vec (n : Nat) (l : List AVal) : idsV (.vec n l) = [] := rfl
theorem idsV_vptr (l : List AVal) (o : Nat) : idsV (.vptr l o) = [] := rfl
theorem idsV_agg (l : List AVal) : idsV (.agg l) = [] := rfl
theorem idsV_own (id g o l z : Nat) : idsV (.own id g o l z) = [id] := rfl
theorem idsV_ptr (id g o : Nat) : idsV (.ptr id g o) = [id] := rfl
theorem isOwn_own (id g o l z : Nat) : isOwn (.own id g o l z) = true := rfl
theorem isOwn_lit (v : Value) : isOwn (.lit v) = false := rfl
theorem isOwn_vec (n : Nat) (l : List AVal) : isOwn (.vec n l) = false := rfl
theorem fpB_len (id : Nat) (t : TypeId) (x : AVal) : fpB P id .len [t] [x] = ⟨[], lenIds P t x⟩ := rfl
theorem lenIds_nil (t : TypeId) (x : AVal) (h : idsV x = []) : lenIds P t x = [] := by unfold lenIds; split <;> first | exact h | rfl
theorem lenIds_vec (t : TypeId) (n : Nat) (l : List AVal) : lenIds P t (.vec n l) = [] := lenIds_nil _ _ rfl
def djF (f f' : FP) : Prop := (∀ r, r ∈ f.eff → r ∉ f'.rs) ∧ (∀ r, r ∈ f'.eff → r ∉ f.rs)
theorem ApartA_nil (b : Nat) (f : FP) : ApartA b f [] = True := by simp [ApartA]
theorem ApartA_cons (b : Nat) (f : FP) (j : Nat) (f' : FP) (acc : List (Nat × FP)) : ApartA b f ((j, f') :: acc) = ((b / 2 ^ j % 2 = 1 ∨ djF f f') ∧ ApartA b f acc) := by
  simp only [ApartA, List.forall_mem_cons, Nat.testBit_eq_decide_div_mod_eq, decide_eq_false_iff_not, eq_iff_iff]
  refine and_congr ⟨fun h => ?_, fun h hb => ?_⟩ Iff.rfl
  · by_cases hb : b / 2 ^ j % 2 = 1
    · exact .inl hb
    · exact .inr (h hb)
  · rcases h with h | h
    · exact absurd h hb
    · exact h
theorem ApartA_none (b : Nat) (acc : List (Nat × FP)) : ApartA b ⟨[], []⟩ acc = True := by
  simp [ApartA]
theorem djF_mk (e r e' r' : List Nat) : djF ⟨e, r⟩ ⟨e', r'⟩ = ((∀ x, x ∈ e → x ∉ r') ∧ ∀ x, x ∈ e' → x ∉ r) := rfl
theorem addF_nil (i : Nat) (acc : List (Nat × FP)) : addF i ⟨[], []⟩ acc = acc := rfl
theorem addF_eff (i x : Nat) (e r : List Nat) (acc : List (Nat × FP)) : addF i ⟨x :: e, r⟩ acc = (i, ⟨x :: e, r⟩) :: acc := rfl
theorem addF_rs (i x : Nat) (e r : List Nat) (acc : List (Nat × FP)) : addF i ⟨e, x :: r⟩ acc = (i, ⟨e, x :: r⟩) :: acc := by cases e <;> rfl

theorem PCall.mk {f : FuncId} {first cap args : List AVal} {H : AHeap} {v : AVal} {rs : List Nat} (hlt : ∀ r, r ∈ rs → r < H.next)
    (h : ∀ H2 : AHeap, (∀ r, r ∈ rs → H2.get r = H.get r) → H.next ≤ H2.next → ACall P G f (first ++ args ++ cap) H2 fun r H3 => r = .ret v ∧ H3 = H2) : PCall P G (.clo f first cap) args H v rs :=
  ⟨hlt, fun H2 h1 h2 => AApply.clo (h H2 h1 h2)⟩
theorem PCall.pure {f : FuncId} {args : List AVal} {H : AHeap} {v : AVal} (h : ∀ H2 : AHeap, ACall P G f args H2 fun r H3 => r = .ret v ∧ H3 = H2) : PCall P G (.clo f [] []) args H v [] :=
  PCall.mk (fun _ h => by cases h) fun H2 _ _ => by simpa using h H2
theorem ACall.pure {f : FuncId} {args : List AVal} {H : AHeap} {v : AVal} {K : ARes → AHeap → Prop} (h : ∀ H2 : AHeap, ACall P G f args H2 fun r H3 => r = .ret v ∧ H3 = H2) (hk : K (.ret v) H) : ACall P G f args H K :=
  (h H).mono fun r H3 ⟨h1, h2⟩ => by rw [h1, h2]; exact hk

end Go.Hx
namespace Go.Hx
variable {P : Program} {G : Nat → Option (List AVal)} {H : AHeap}

def lenS (H : AHeap) (x : AVal) : Option AVal :=
  match x with
    | .vec len _ => some (.lit (.int .i64 len))
    | .own id gen _ len _ => (H.live id gen).map fun _ => .lit (.int .i64 len)
    | .lit (.slice none 0 0) => some (.lit (.int .i64 0))
    | _ => none
def lenStr (x : AVal) : Option AVal :=
  match x with
    | .lit (.string s) => some (.lit (.int .i64 s.size))
    | _ => none
def lenU (d : Option TypeDesc) (H : AHeap) (x : AVal) : Option AVal :=
  match d with
  | some (.slice _) => lenS H x
  | some .string => lenStr x
  | some (.array n _) => some (.lit (.int .i64 n))
  | _ => none
theorem lenA_U (t : TypeId) (x : AVal) : lenA P H t x = lenU (P.underlying t) H x := rfl
theorem lenU_slice (e : TypeId) (x : AVal) : lenU (some (.slice e)) H x = lenS H x := rfl
theorem lenU_string (x : AVal) : lenU (some .string) H x = lenStr x := rfl
theorem lenU_array (n : Nat) (e : TypeId) (x : AVal) : lenU (some (.array n e)) H x = some (.lit (.int .i64 n)) := rfl
theorem lenS_vec (n : Nat) (l : List AVal) : lenS H (.vec n l) = some (.lit (.int .i64 n)) := rfl
theorem lenS_own (id g o n z : Nat) : lenS H (.own id g o n z) = (H.live id g).map fun _ => .lit (.int .i64 n) := rfl
theorem lenS_nil : lenS H (.lit (.slice none 0 0)) = some (.lit (.int .i64 0)) := rfl
theorem lenStr_lit (s : ByteArray) : lenStr (.lit (.string s)) = some (.lit (.int .i64 s.size)) := rfl

def partU (d : Option TypeDesc) (n : Nat) (cells : List AVal) (off : Nat) : Option AVal :=
  match d with
  | none => none
  | some d => if aggT d then (if off + n ≤ cells.length then some (.agg ((cells.drop off).take n)) else none) else cells[off]?
theorem partA_U (t : TypeId) (cells : List AVal) (off : Nat) : partA P t cells off = partU (P.underlying t) (P.cellsOf t) cells off := rfl
theorem partU_int (k : IntKind) (n : Nat) (cells : List AVal) (off : Nat) : partU (some (.int k)) n cells off = cells[off]? := rfl
theorem partU_bool (n : Nat) (cells : List AVal) (off : Nat) : partU (some .bool) n cells off = cells[off]? := rfl
theorem partU_string (n : Nat) (cells : List AVal) (off : Nat) : partU (some .string) n cells off = cells[off]? := rfl
theorem partU_slice (e : TypeId) (n : Nat) (cells : List AVal) (off : Nat) : partU (some (.slice e)) n cells off = cells[off]? := rfl
theorem partU_pointer (e : TypeId) (n : Nat) (cells : List AVal) (off : Nat) : partU (some (.pointer e)) n cells off = cells[off]? := rfl
theorem partU_struct (fs : Array Field) (n : Nat) (cells : List AVal) (off : Nat) : partU (some (.struct fs)) n cells off = if off + n ≤ cells.length then some (.agg ((cells.drop off).take n)) else none := rfl
theorem partU_array (k : Nat) (e : TypeId) (n : Nat) (cells : List AVal) (off : Nat) : partU (some (.array k e)) n cells off = if off + n ≤ cells.length then some (.agg ((cells.drop off).take n)) else none := rfl
theorem setAt_zero (cells vs : List AVal) : setAt cells 0 vs = vs ++ cells.drop vs.length := by simp [setAt]
theorem loadA_vptr (t : TypeId) (cells : List AVal) (off : Nat) : loadA P H t (.vptr cells off) = partA P t cells off := rfl
theorem loadA_ptr (t : TypeId) (id gen off : Nat) : loadA P H t (.ptr id gen off) = (H.live id gen).bind fun ec => partA P t ec.2 off := by
  simp only [AHeap.live, loadA]
  generalize H.get id = x
  cases x with
  | none => rfl
  | some b =>
    cases b with
    | arr g e cells =>
      simp only
      by_cases hg : g = gen
      · rw [if_pos hg, if_pos hg]; rfl
      · rw [if_neg hg, if_neg hg]; rfl
    | _ => rfl
theorem storeA_ptr (t : TypeId) (id gen off : Nat) (v : AVal) : storeA P H t (.ptr id gen off) v =
    (H.live id gen).bind fun ec => if v.cells.length = P.cellsOf t ∧ v.cells.all AVal.one = true ∧ off + v.cells.length ≤ ec.2.length then some (H.upd id (.arr gen ec.1 (setAt ec.2 off v.cells))) else none := by
  simp only [AHeap.live, storeA]
  generalize H.get id = x
  cases x with
  | none => rfl
  | some b =>
    cases b with
    | arr g e cells =>
      simp only
      by_cases hg : g = gen
      · subst hg
        simp
      · rw [if_neg hg, if_neg (fun h => hg h.1)]
        rfl
    | _ => rfl

def idxS (H : AHeap) (c : Nat) (x : AVal) (i : Int) : Option AVal :=
  match x with
  | .own id gen off len sz => if 0 ≤ i ∧ i < (len : Int) ∧ sz = c then (H.live id gen).map fun _ => .ptr id gen (off + i.toNat * c) else none
  | .vec len cells => if 0 ≤ i ∧ i < (len : Int) ∧ cells ≠ [] then some (.vptr cells (i.toNat * c)) else none
  | _ => none
def idxA (H : AHeap) (c n : Nat) (x : AVal) (i : Int) : Option AVal :=
  if 0 ≤ i ∧ i < (n : Int) then
      match x with
      | .ptr id gen off => (H.live id gen).map fun _ => .ptr id gen (off + i.toNat * c)
      | .vptr cells off => some (.vptr cells (off + i.toNat * c))
      | _ => none
  else none
def idxU (P : Program) (H : AHeap) (d : Option TypeDesc) (x : AVal) (i : Int) : Option AVal :=
  match d with
  | some (.array n e) => if (P.underlying e).isSome then idxA H (P.cellsOf e) n x i else none
  | some (.slice e) => if (P.underlying e).isSome then idxS H (P.cellsOf e) x i else none
  | _ => none
theorem indexAddrV_U (t : TypeId) (x : AVal) (k : IntKind) (i : Int) : indexAddrV P H t x (.lit (.int k i)) = idxU P H (P.underlying t) x i := by
  simp only [indexAddrV, indexAddrA, idxU]
  cases P.underlying t with
  | none => rfl
  | some d =>
    cases d with
    | array n e =>
      simp only [idxA]
      by_cases h : (P.underlying e).isSome = true
      · simp only [h, and_true, if_true]
        rfl
      · rw [if_neg h, if_neg (fun h' => h h'.2.2)]
    | slice e => rfl
    | _ => rfl
theorem idxU_slice (e : TypeId) (x : AVal) (i : Int) : idxU P H (some (.slice e)) x i = if (P.underlying e).isSome = true then idxS H (P.cellsOf e) x i else none := rfl
theorem idxU_array (n : Nat) (e : TypeId) (x : AVal) (i : Int) : idxU P H (some (.array n e)) x i = if (P.underlying e).isSome = true then idxA H (P.cellsOf e) n x i else none := rfl
theorem idxS_vec (c n : Nat) (l : List AVal) (i : Int) : idxS H c (.vec n l) i = if 0 ≤ i ∧ i < (n : Int) ∧ l ≠ [] then some (.vptr l (i.toNat * c)) else none := rfl
theorem idxS_own (c id g o n z : Nat) (i : Int) : idxS H c (.own id g o n z) i = if 0 ≤ i ∧ i < (n : Int) ∧ z = c then (H.live id g).map fun _ => .ptr id g (o + i.toNat * c) else none := rfl
theorem idxA_vptr (c n : Nat) (l : List AVal) (o : Nat) (i : Int) : idxA H c n (.vptr l o) i = if 0 ≤ i ∧ i < (n : Int) then some (.vptr l (o + i.toNat * c)) else none := rfl
theorem idxA_ptr (c n id g o : Nat) (i : Int) : idxA H c n (.ptr id g o) i = if 0 ≤ i ∧ i < (n : Int) then (H.live id g).map fun _ => .ptr id g (o + i.toNat * c) else none := rfl

def slS (H : AHeap) (c : Nat) (x : AVal) (lo hi : Option AVal) : Option AVal :=
      match x with
      | .own id gen off len sz => if sz = c then (H.live id gen).bind fun _ => (boundA hi len len).bind fun h => (boundA lo 0 h).map fun l => .own id gen (off + l * sz) (h - l) sz else none
      | .vec len cells => if cells.length = len * c then (boundA hi len len).bind fun h => (boundA lo 0 h).map fun l => .vec (h - l) ((cells.drop (l * c)).take ((h - l) * c)) else none
      | .lit (.slice none 0 0) => (boundA hi 0 0).bind fun h => (boundA lo 0 h).map fun _ => .lit (.slice none 0 0)
      | _ => none
def slA (H : AHeap) (c n : Nat) (x : AVal) (lo hi : Option AVal) : Option AVal :=
      match x with
      | .ptr id gen off =>
        match H.live id gen with
        | some (_, cells) =>
          if off + n * c ≤ cells.length then
            (boundA hi n n).bind fun h => (boundA lo 0 h).map fun l => .own id gen (off + l * c) (h - l) c
          else none
        | none => none
      | .vptr cells off => if off + n * c ≤ cells.length then
            (boundA hi n n).bind fun h => (boundA lo 0 h).map fun l => .vec (h - l) ((cells.drop (off + l * c)).take ((h - l) * c))
          else none
      | _ => none
def slStr (x : AVal) (lo hi : Option AVal) : Option AVal :=
    match x with
    | .lit (.string s) => (boundA hi s.size s.size).bind fun h => (boundA lo 0 h).map fun l => .lit (.string (s.extract l h))
    | _ => none
def slU (P : Program) (H : AHeap) (d : Option TypeDesc) (x : AVal) (lo hi : Option AVal) : Option AVal :=
  match d with
  | some (.array n e) => if (P.underlying e).isSome then slA H (P.cellsOf e) n x lo hi else none
  | some (.slice e) => if (P.underlying e).isSome then slS H (P.cellsOf e) x lo hi else none
  | some .string => slStr x lo hi
  | _ => none
theorem sliceA_U (t : TypeId) (x : AVal) (lo hi : Option AVal) : sliceA P H t x lo hi = slU P H (P.underlying t) x lo hi := rfl
theorem slU_slice (e : TypeId) (x : AVal) (lo hi : Option AVal) : slU P H (some (.slice e)) x lo hi = if (P.underlying e).isSome = true then slS H (P.cellsOf e) x lo hi else none := rfl
theorem slU_array (n : Nat) (e : TypeId) (x : AVal) (lo hi : Option AVal) : slU P H (some (.array n e)) x lo hi = if (P.underlying e).isSome = true then slA H (P.cellsOf e) n x lo hi else none := rfl
theorem slU_string (x : AVal) (lo hi : Option AVal) : slU P H (some .string) x lo hi = slStr x lo hi := rfl
theorem slS_own (c id g o n z : Nat) (lo hi : Option AVal) : slS H c (.own id g o n z) lo hi = if z = c then (H.live id g).bind fun _ => (boundA hi n n).bind fun h => (boundA lo 0 h).map fun l => .own id g (o + l * z) (h - l) z else none := rfl
theorem slS_vec (c n : Nat) (cells : List AVal) (lo hi : Option AVal) : slS H c (.vec n cells) lo hi = if cells.length = n * c then (boundA hi n n).bind fun h => (boundA lo 0 h).map fun l => .vec (h - l) ((cells.drop (l * c)).take ((h - l) * c)) else none := rfl
theorem slS_nil (c : Nat) (lo hi : Option AVal) : slS H c (.lit (.slice none 0 0)) lo hi = (boundA hi 0 0).bind fun h => (boundA lo 0 h).map fun _ => .lit (.slice none 0 0) := rfl
theorem slA_vptr (c n : Nat) (cells : List AVal) (off : Nat) (lo hi : Option AVal) : slA H c n (.vptr cells off) lo hi = if off + n * c ≤ cells.length then
            (boundA hi n n).bind fun h => (boundA lo 0 h).map fun l => .vec (h - l) ((cells.drop (off + l * c)).take ((h - l) * c)) else none := rfl
theorem slStr_lit (s : ByteArray) (lo hi : Option AVal) : slStr (.lit (.string s)) lo hi = (boundA hi s.size s.size).bind fun h => (boundA lo 0 h).map fun l => .lit (.string (s.extract l h)) := rfl
theorem boundA_none (d m : Nat) : boundA none d m = some d := rfl
theorem boundA_int (k : IntKind) (i : Int) (d m : Nat) : boundA (some (.lit (.int k i))) d m = if 0 ≤ i ∧ i ≤ (m : Int) then some i.toNat else none := rfl

theorem sourceA_vec (sz n : Nat) (l : List AVal) : sourceA H sz (.vec n l) = if l.length = n * sz then some (n, l) else none := rfl
theorem sourceA_own (sz id g o n z : Nat) : sourceA H sz (.own id g o n z) = if z = sz then (H.live id g).map fun x => (n, (x.2.drop o).take (n * sz)) else none := rfl
theorem sourceA_nil (sz : Nat) : sourceA H sz (.lit (.slice none 0 0)) = some (0, []) := rfl
def appU (P : Program) (H : AHeap) (id : Nat) (d0 d1 : Option TypeDesc) (s x : AVal) : Option (AVal × AHeap) :=
  match d0, d1 with
  | some (.slice e), some (.slice _) => (zeroA P e).bind fun _ => (sourceA H (P.cellsOf e) x).bind fun nx =>
        match s with
        | .lit (.slice none 0 0) =>
          if nx.1 = 0 then some (s, H)
          else if nx.1 * P.bytesOf e ≤ 2 ^ 46 ∧ nx.1 ≤ 2 ^ 46 then (H.lay id (.arr 0 e nx.2)).map fun H' => (.own id 0 0 nx.1 (P.cellsOf e), H')
          else none
        | .own id' gen off len sz =>
          (H.live id' gen).bind fun ec =>
            if ec.1 = e ∧ sz = P.cellsOf e ∧ off + len * sz = ec.2.length ∧ (len + nx.1) * P.bytesOf e ≤ 2 ^ 46 ∧ len + nx.1 ≤ 2 ^ 46 ∧ nx.2.all AVal.one = true then
              if nx.1 = 0 then some (s, H)
              else some (.own id' (gen + 1) 0 (len + nx.1) sz, H.upd id' (.arr (gen + 1) e (ec.2.drop off ++ nx.2)))
            else none
        | _ => none
  | _, _ => none
theorem appendA_U (id : Nat) (t u : TypeId) (s x : AVal) : appendA P H id t u s x = appU P H id (P.underlying t) (P.underlying u) s x := by
  unfold appendA appU
  cases P.underlying t with
  | none => rfl
  | some d =>
    cases d with
    | slice e =>
      cases P.underlying u with
      | none => rfl
      | some d' => cases d' <;> rfl
    | _ => rfl
theorem appU_nil (id : Nat) (e u : TypeId) (x : AVal) : appU P H id (some (.slice e)) (some (.slice u)) (.lit (.slice none 0 0)) x = (zeroA P e).bind fun _ => (sourceA H (P.cellsOf e) x).bind fun nx =>
    if nx.1 = 0 then some (.lit (.slice none 0 0), H) else if nx.1 * P.bytesOf e ≤ 2 ^ 46 ∧ nx.1 ≤ 2 ^ 46 then (H.lay id (.arr 0 e nx.2)).map fun H' => (.own id 0 0 nx.1 (P.cellsOf e), H') else none := rfl
theorem appU_own (id : Nat) (e u : TypeId) (x : AVal) (id' gen off len sz : Nat) : appU P H id (some (.slice e)) (some (.slice u)) (.own id' gen off len sz) x = (zeroA P e).bind fun _ => (sourceA H (P.cellsOf e) x).bind fun nx =>
    (H.live id' gen).bind fun ec =>
            if ec.1 = e ∧ sz = P.cellsOf e ∧ off + len * sz = ec.2.length ∧ (len + nx.1) * P.bytesOf e ≤ 2 ^ 46 ∧ len + nx.1 ≤ 2 ^ 46 ∧ nx.2.all AVal.one = true then
              if nx.1 = 0 then some (.own id' gen off len sz, H)
              else some (.own id' (gen + 1) 0 (len + nx.1) sz, H.upd id' (.arr (gen + 1) e (ec.2.drop off ++ nx.2)))
            else none := rfl
def cpyU (P : Program) (H : AHeap) (d0 : Option TypeDesc) (d x : AVal) : Option (AVal × AHeap) :=
  match d0 with
  | some (.slice e) =>
    if (P.underlying e).isSome then
      (sourceA H (P.cellsOf e) x).bind fun nx =>
        match d with
        | .own id gen off len sz =>
          (H.live id gen).bind fun ec =>
            if sz = P.cellsOf e ∧ off + len * sz ≤ ec.2.length ∧ nx.2.all AVal.one = true then
              some (.lit (.int .i64 (min nx.1 len : Nat)), H.upd id (.arr gen ec.1 (setAt ec.2 off (nx.2.take (min nx.1 len * sz)))))
            else none
        | _ => none
    else none
  | _ => none
theorem copyA_U (t : TypeId) (d x : AVal) : copyA P H t d x = cpyU P H (P.underlying t) d x := rfl
theorem cpyU_own (e : TypeId) (id gen off len sz : Nat) (x : AVal) : cpyU P H (some (.slice e)) (.own id gen off len sz) x = if (P.underlying e).isSome = true then
      (sourceA H (P.cellsOf e) x).bind fun nx => (H.live id gen).bind fun ec =>
            if sz = P.cellsOf e ∧ off + len * sz ≤ ec.2.length ∧ nx.2.all AVal.one = true then
              some (.lit (.int .i64 (min nx.1 len : Nat)), H.upd id (.arr gen ec.1 (setAt ec.2 off (nx.2.take (min nx.1 len * sz)))))
            else none
      else none := rfl

def mkU (P : Program) (H : AHeap) (id : Nat) (d : Option TypeDesc) (l c : AVal) : Option (AVal × AHeap) :=
  match d, l, c with
  | some (.slice e), .lit (.int _ l), .lit (.int _ c) =>
    if 0 ≤ l ∧ l ≤ c ∧ c * P.bytesOf e ≤ 2 ^ 46 ∧ c ≤ 2 ^ 46 then
      (zerosA P e l.toNat).bind fun cells => (H.lay id (.arr 0 e cells)).map fun H' => (.own id 0 0 l.toNat (P.cellsOf e), H')
    else none
  | _, _, _ => none
theorem makeSliceA_U (id : Nat) (t : TypeId) (l c : AVal) : makeSliceA P H id t l c = mkU P H id (P.underlying t) l c := by
  unfold makeSliceA mkU
  cases P.underlying t with
  | none => rfl
  | some d => rfl
theorem mkU_slice (id : Nat) (e : TypeId) (k k' : IntKind) (l c : Int) : mkU P H id (some (.slice e)) (.lit (.int k l)) (.lit (.int k' c)) = if 0 ≤ l ∧ l ≤ c ∧ c * P.bytesOf e ≤ 2 ^ 46 ∧ c ≤ 2 ^ 46 then
      (zerosA P e l.toNat).bind fun cells => (H.lay id (.arr 0 e cells)).map fun H' => (.own id 0 0 l.toNat (P.cellsOf e), H')
    else none := rfl
theorem zerosA_def (e : TypeId) (n : Nat) : zerosA P e n = (zeroA P e).map fun z => (List.replicate n z).flatten := rfl
theorem flatten_one (n : Nat) (v : AVal) : (List.replicate n [v]).flatten = List.replicate n v := by
  induction n with
  | zero => rfl
  | succ n ih => rw [List.replicate_succ, List.flatten_cons, ih, List.replicate_succ]; rfl
def bsU (P : Program) (H : AHeap) (id : Nat) (d : Option TypeDesc) (len : Nat) (parts : List (Nat × AVal)) : Option (AVal × AHeap) :=
  match d with
  | some (.slice e) =>
    if len * P.cellsOf e ≤ 2 ^ 24 then
      (zerosA P e len).bind fun z => (fillA (fun i => some (i * P.cellsOf e, P.cellsOf e)) z parts).bind fun cells =>
        (H.lay id (.arr 0 e cells)).map fun H' => (.own id 0 0 len (P.cellsOf e), H')
    else none
  | _ => none
theorem buildSliceA_U (id : Nat) (t : TypeId) (len : Nat) (parts : List (Nat × AVal)) : buildSliceA P H id t len parts = bsU P H id (P.underlying t) len parts := rfl
theorem bsU_slice (id : Nat) (e : TypeId) (len : Nat) (parts : List (Nat × AVal)) : bsU P H id (some (.slice e)) len parts = if len * P.cellsOf e ≤ 2 ^ 24 then
      (zerosA P e len).bind fun z => (fillA (fun i => some (i * P.cellsOf e, P.cellsOf e)) z parts).bind fun cells =>
        (H.lay id (.arr 0 e cells)).map fun H' => (.own id 0 0 len (P.cellsOf e), H')
    else none := rfl
def buildU (P : Program) (t : TypeId) (d : Option TypeDesc) (parts : List (Nat × AVal)) : Option AVal :=
  (zeroA P t).bind fun z =>
    match d with
    | some (.struct _) => (placesA P t).bind fun pl => (fillA (fun i => pl[i]?) z parts).map .agg
    | some (.array _ e) => if (P.underlying e).isSome then (fillA (fun i => some (i * P.cellsOf e, P.cellsOf e)) z parts).map .agg else none
    | _ => none
theorem buildA_U (t : TypeId) (parts : List (Nat × AVal)) : buildA P t parts = buildU P t (P.underlying t) parts := rfl
theorem buildU_struct (t : TypeId) (fs : Array Field) (parts : List (Nat × AVal)) : buildU P t (some (.struct fs)) parts = (zeroA P t).bind fun z => (placesA P t).bind fun pl => (fillA (fun i => pl[i]?) z parts).map .agg := rfl
theorem buildU_array (t : TypeId) (n : Nat) (e : TypeId) (parts : List (Nat × AVal)) : buildU P t (some (.array n e)) parts = (zeroA P t).bind fun z => if (P.underlying e).isSome = true then (fillA (fun i => some (i * P.cellsOf e, P.cellsOf e)) z parts).map .agg else none := rfl
theorem fillA_nil (pl : Nat → Option (Nat × Nat)) (cells : List AVal) : fillA pl cells [] = some cells := rfl
theorem cells_int (k : IntKind) (n : Int) : (AVal.lit (.int k n)).cells = [.lit (.int k n)] := rfl
theorem cells_bool (b : Bool) : (AVal.lit (.bool b)).cells = [.lit (.bool b)] := rfl
theorem cells_string (s : ByteArray) : (AVal.lit (.string s)).cells = [.lit (.string s)] := rfl
theorem cells_slice (a : Option Addr) (n c : Nat) : (AVal.lit (.slice a n c)).cells = [.lit (.slice a n c)] := rfl
theorem cells_agg (l : List AVal) : (AVal.agg l).cells = l := rfl
theorem cells_vec (n : Nat) (l : List AVal) : (AVal.vec n l).cells = [.vec n l] := rfl
theorem cells_own (a b c d e : Nat) : (AVal.own a b c d e).cells = [.own a b c d e] := rfl
theorem cells_ptr (a b c : Nat) : (AVal.ptr a b c).cells = [.ptr a b c] := rfl
theorem one_int (k : IntKind) (n : Int) : (AVal.lit (.int k n)).one = true := rfl
theorem one_bool (b : Bool) : (AVal.lit (.bool b)).one = true := rfl
theorem one_string (s : ByteArray) : (AVal.lit (.string s)).one = true := rfl
theorem one_slice (a : Option Addr) (n c : Nat) : (AVal.lit (.slice a n c)).one = true := rfl
theorem one_vec (n : Nat) (l : List AVal) : (AVal.vec n l).one = true := rfl
theorem one_own (a b c d e : Nat) : (AVal.own a b c d e).one = true := rfl
theorem one_ptr (a b c : Nat) : (AVal.ptr a b c).one = true := rfl

def lin (n : Int) : AVal := .lit (.int .i64 n)
def ints (l : List Int) : List AVal := l.map lin
def vecI (l : List Int) : AVal := .vec l.length (ints l)
theorem ints_length (l : List Int) : (ints l).length = l.length := List.length_map ..
theorem ints_get (l : List Int) (i : Nat) : (ints l)[i]? = (l[i]?).map lin := List.getElem?_map ..
theorem ints_nil (l : List Int) : ints l = [] ↔ l = [] := List.map_eq_nil_iff
end Go.Hx
namespace Go.Hx
variable {P : Program} {G : Nat → Option (List AVal)} {Γ Γ' : Gam} {H H' : AHeap} {w w' : World}

inductive Below (n : Nat) : AVal → Prop
  | lit (v : Value) : Below n (.lit v)
  | vec {len : Nat} {cells : List AVal} (h : ∀ i (h : i < cells.length), Below n cells[i]) : Below n (.vec len cells)
  | vptr {off : Nat} {cells : List AVal} (h : ∀ i (h : i < cells.length), Below n cells[i]) : Below n (.vptr cells off)
  | agg {cells : List AVal} (h : ∀ i (h : i < cells.length), Below n cells[i]) : Below n (.agg cells)
  | tup {cells : List AVal} (h : ∀ i (h : i < cells.length), Below n cells[i]) : Below n (.tup cells)
  | clo {f : FuncId} {a b : List AVal} (h1 : ∀ i (h : i < a.length), Below n a[i]) (h2 : ∀ i (h : i < b.length), Below n b[i]) : Below n (.clo f a b)
  | own {id g o l z : Nat} (h : id < n) : Below n (.own id g o l z)
  | ptr {id g o : Nat} (h : id < n) : Below n (.ptr id g o)
  | yld {id : Nat} (h : id < n) : Below n (.yld id)

theorem RelV.belowN {v : AVal} {cv : Value} (h : RelV P Γ H w v cv) : Below H.next v := by
  induction h with
  | lit v => exact .lit v
  | vec0 a cap => exact .vec fun i h => absurd h (Nat.not_lt_zero _)
  | vec hb hlt hlen hcs hcell hrel ih => exact .vec fun i h => ih i h (by omega)
  | own h => exact .own h.1
  | ptr h => exact .ptr h.1
  | vptr hb hlt hcs hcell hrel ih => exact .vptr fun i h => ih i h (by omega)
  | agg hcs hrel ih => exact .agg fun i h => ih i h (by omega)
  | tup hcs hrel ih => exact .tup fun i h => ih i h (by omega)
  | clo hfs hcs hf hc ih1 ih2 => exact .clo (fun i h => ih1 i h (by omega)) fun i h => ih2 i h (by omega)
  | yld h => exact .yld h.1

def BelowB (n : Nat) : Blk → Prop
  | .arr _ _ cells => ∀ i (h : i < cells.length), Below n cells[i]
  | .loop _ _ m env _ _ _ => ∀ t, t < m → Below n (env t)
  | .mp _ => True
  | .rsv => True

structure Clo (H : AHeap) : Prop where
  lt : ∀ id b, H.get id = some b → id < H.next
  below : ∀ id b, H.get id = some b → BelowB H.next b

theorem RelH.clo (R : RelH P G Γ H w) : Clo H := by
  refine ⟨fun id b h => R.next id b h, fun id b h => ?_⟩
  cases b with
  | rsv => trivial
  | mp => trivial
  | arr g e cells =>
    intro i hi
    have h1 := R.arr id g e cells h
    split at h1
    · obtain ⟨c, _, _, _, h5⟩ := h1
      obtain ⟨cv, _, h6⟩ := h5 i hi
      exact h6.belowN
    · subst h1
      exact absurd hi (Nat.not_lt_zero _)
  | loop st pend n env ps asg body =>
    intro t ht
    obtain ⟨b, r, _, _, _, _, _, _, _, h8, h9⟩ := R.loop id st pend n env ps asg body h
    exact (h9 t (by omega)).belowN

inductive Fz (S : Nat → Prop) (H : AHeap) (nx : Nat) : AVal → AVal → Prop
  | lit (v : Value) : Fz S H nx (.lit v) (.lit v)
  | vec {len : Nat} {c c' : List AVal} (hl : c'.length = c.length) (h : ∀ i (h : i < c.length) (h' : i < c'.length), Fz S H nx c[i] c'[i]) : Fz S H nx (.vec len c) (.vec len c')
  | vptr {off : Nat} {c c' : List AVal} (hl : c'.length = c.length) (h : ∀ i (h : i < c.length) (h' : i < c'.length), Fz S H nx c[i] c'[i]) : Fz S H nx (.vptr c off) (.vptr c' off)
  | agg {c c' : List AVal} (hl : c'.length = c.length) (h : ∀ i (h : i < c.length) (h' : i < c'.length), Fz S H nx c[i] c'[i]) : Fz S H nx (.agg c) (.agg c')
  | tup {c c' : List AVal} (hl : c'.length = c.length) (h : ∀ i (h : i < c.length) (h' : i < c'.length), Fz S H nx c[i] c'[i]) : Fz S H nx (.tup c) (.tup c')
  | clo {f : FuncId} {a a' b b' : List AVal} (ha : a'.length = a.length) (hb : b'.length = b.length) (h1 : ∀ i (h : i < a.length) (h' : i < a'.length), Fz S H nx a[i] a'[i]) (h2 : ∀ i (h : i < b.length) (h' : i < b'.length), Fz S H nx b[i] b'[i]) : Fz S H nx (.clo f a b) (.clo f a' b')
  | own {id g o l z : Nat} (h : id < nx) (hs : ¬ S id) : Fz S H nx (.own id g o l z) (.own id g o l z)
  | ptr {id g o : Nat} (h : id < nx) (hs : ¬ S id) : Fz S H nx (.ptr id g o) (.ptr id g o)
  | yld {id : Nat} (h : id < nx) (hs : ¬ S id) : Fz S H nx (.yld id) (.yld id)
  | deadOwn {id g o l z : Nat} (h : id < nx) (hs : S id) : Fz S H nx (.own id g o l z) (.own id g o l z)
  | deadPtr {id g o : Nat} (h : id < nx) (hs : S id) : Fz S H nx (.ptr id g o) (.ptr id g o)
  | deadYld {id : Nat} (h : id < nx) (hs : S id) : Fz S H nx (.yld id) (.yld id)
  | nil : Fz S H nx (.lit (.slice none 0 0)) (.vec 0 [])
  | frz {id g o l z : Nat} {e : TypeId} {cells c' : List AVal} (hs : S id) (hg : H.get id = some (.arr g e cells)) (hl : c'.length = l * z)
      (h : ∀ i (h : i < l * z) (h2 : o + i < cells.length) (h' : i < c'.length), Fz S H nx cells[o + i] c'[i]) : Fz S H nx (.own id g o l z) (.vec l c')
  | pfrz {id g o : Nat} {e : TypeId} {cells c' : List AVal} (hs : S id) (hg : H.get id = some (.arr g e cells)) (hne : cells ≠ []) (hl : c'.length = cells.length)
      (h : ∀ i (h : i < cells.length) (h' : i < c'.length), Fz S H nx cells[i] c'[i]) : Fz S H nx (.ptr id g o) (.vptr c' o)

theorem Fz.refl {S : Nat → Prop} {H : AHeap} {nx : Nat} {v : AVal} (h : Below nx v) (hs : ∀ id, id < nx → ¬ S id) : Fz S H nx v v := by
  induction h with
  | lit v => exact .lit v
  | vec _ ih => exact .vec rfl fun i h _ => ih i h
  | vptr _ ih => exact .vptr rfl fun i h _ => ih i h
  | agg _ ih => exact .agg rfl fun i h _ => ih i h
  | tup _ ih => exact .tup rfl fun i h _ => ih i h
  | clo _ _ ih1 ih2 => exact .clo rfl rfl (fun i h _ => ih1 i h) fun i h _ => ih2 i h
  | own h => exact .own h (hs _ h)
  | ptr h => exact .ptr h (hs _ h)
  | yld h => exact .yld h (hs _ h)

def FzB (S : Nat → Prop) (H : AHeap) (nx : Nat) : Blk → Blk → Prop
  | .arr g e c, .arr g' e' c' => g' = g ∧ e' = e ∧ c'.length = c.length ∧ ∀ i (_ : i < c.length) (_ : i < c'.length), Fz S H nx c[i] c'[i]
  | .loop st pend n env ps asg body, .loop st' pend' n' env' ps' asg' body' => st' = st ∧ pend' = pend ∧ n' = n ∧ env' = env ∧ ps' = ps ∧ asg' = asg ∧ body' = body ∧ ∀ t, t < n → Fz S H nx (env t) (env t)
  | .mp es, .mp es' => es' = es
  | .rsv, .rsv => True
  | _, _ => False

structure FzH (S : Nat → Prop) (H H' : AHeap) : Prop where
  gone : ∀ id, S id → H'.get id = none
  kept : ∀ id b, ¬ S id → H.get id = some b → id < H'.next ∧ ∃ b', H'.get id = some b' ∧ FzB S H H'.next b b'
  none : ∀ id, ¬ S id → H.get id = none → H'.get id = none

open Classical in
noncomputable def gamF (S : Nat → Prop) (Γ : Gam) : Gam := fun id => if S id then none else Γ id

theorem gamF_out {S : Nat → Prop} {id : Nat} (h : ¬ S id) : gamF S Γ id = Γ id := by simp [gamF, h]
theorem gamF_some {S : Nat → Prop} {id : Nat} {x : Nat × Nat × Nat} (h : gamF S Γ id = some x) : ¬ S id ∧ Γ id = some x := by
  unfold gamF at h
  split at h
  · cases h
  · exact ⟨by assumption, h⟩
theorem gamF_owns {S : Nat → Prop} {b : Nat} (h : (gamF S Γ).owns b) : Γ.owns b := by
  obtain ⟨id, base, n, h⟩ := h
  exact ⟨id, base, n, (gamF_some h).2⟩

theorem FzH.back {S : Nat → Prop} (F : FzH S H H') {id : Nat} {b' : Blk} (h : H'.get id = some b') : ¬ S id ∧ ∃ b, H.get id = some b ∧ FzB S H H'.next b b' ∧ id < H'.next := by
  have hs : ¬ S id := fun hs => by rw [F.gone id hs] at h; cases h
  refine ⟨hs, ?_⟩
  cases hg : H.get id with
  | none => rw [F.none id hs hg] at h; cases h
  | some b =>
    obtain ⟨h1, b1, h2, h3⟩ := F.kept id b hs hg
    rw [h] at h2
    cases h2
    exact ⟨b, rfl, h3, h1⟩

theorem Fz.sound {S : Nat → Prop} (R : RelH P G Γ H w) (F : FzH S H H') {v v' : AVal} (hf : Fz S H H'.next v v') : ∀ {cv : Value}, RelV P Γ H w v cv → RelV P (gamF S Γ) H' w v' cv := by
  induction hf with
  | lit v => intro cv h; cases h; exact .lit _
  | nil => intro cv h; cases h; exact .vec0 none 0
  | deadOwn hlt hs =>
    intro cv h
    cases h with
    | own h => exact .own ⟨hlt, h.2.1, fun hr => (by rw [F.gone _ hs] at hr; cases hr), fun _ _ _ hg => (by rw [F.gone _ hs] at hg; cases hg)⟩
  | deadPtr hlt hs =>
    intro cv h
    cases h with
    | ptr h => exact .ptr ⟨hlt, h.2.1, fun hr => (by rw [F.gone _ hs] at hr; cases hr), fun _ _ _ hg => (by rw [F.gone _ hs] at hg; cases hg)⟩
  | deadYld hlt hs =>
    intro cv h
    cases h with
    | yld h => exact .yld ⟨hlt, h.2.1, fun hr => (by rw [F.gone _ hs] at hr; cases hr), fun _ _ _ _ _ _ _ hg => (by rw [F.gone _ hs] at hg; cases hg), fun _ hg => (by rw [F.gone _ hs] at hg; cases hg)⟩
  | vec hl hc ih =>
    intro cv h
    cases h with
    | vec0 a cap =>
      rename_i c' 
      have : c' = [] := List.eq_nil_of_length_eq_zero hl
      subst this
      exact .vec0 a cap
    | vec hb hlt hlen hcs hcell hrel => exact .vec (fun h => hb (gamF_owns h)) hlt hlen (by omega) hcell fun i h1 h2 => ih i (by omega) h1 (hrel i (by omega) h2)
  | vptr hl hc ih =>
    intro cv h
    cases h with
    | vptr hb hlt hcs hcell hrel => exact .vptr (fun h => hb (gamF_owns h)) hlt (by omega) hcell fun i h1 h2 => ih i (by omega) h1 (hrel i (by omega) h2)
  | agg hl hc ih =>
    intro cv h
    cases h with
    | agg hcs hrel => exact .agg (by omega) fun i h1 h2 => ih i (by omega) h1 (hrel i (by omega) h2)
  | tup hl hc ih =>
    intro cv h
    cases h with
    | tup hcs hrel => exact .tup (by omega) fun i h1 h2 => ih i (by omega) h1 (hrel i (by omega) h2)
  | clo ha hb h1 h2 ih1 ih2 =>
    intro cv h
    cases h with
    | clo hfs hcs hf hc => exact .clo (by omega) (by omega) (fun i a b => ih1 i (by omega) a (hf i (by omega) b)) fun i a b => ih2 i (by omega) a (hc i (by omega) b)
  | own hlt hs =>
    intro cv h
    cases h with
    | own h =>
      obtain ⟨h1, h2, h0, h3⟩ := h
      refine .own ⟨hlt, h2, fun hr => ?_, fun g' e' cells' hg' => ?_⟩
      · obtain ⟨_, b, hb, hfb, _⟩ := F.back hr
        cases b with
        | rsv => exact h0 hb
        | _ => exact hfb.elim
      · obtain ⟨_, b, hb, hfb, _⟩ := F.back hg'
        cases b with
        | arr g e cells =>
          obtain ⟨rfl, rfl, hlen, _⟩ := hfb
          have := h3 _ _ _ hb
          rw [gamF_out hs, hlen]
          exact this
        | _ => exact hfb.elim
  | ptr hlt hs =>
    intro cv h
    cases h with
    | ptr h =>
      obtain ⟨h1, h2, h0, h3⟩ := h
      refine .ptr ⟨hlt, h2, fun hr => ?_, fun g' e' cells' hg' => ?_⟩
      · obtain ⟨_, b, hb, hfb, _⟩ := F.back hr
        cases b with
        | rsv => exact h0 hb
        | _ => exact hfb.elim
      · obtain ⟨_, b, hb, hfb, _⟩ := F.back hg'
        cases b with
        | arr g e cells =>
          obtain ⟨rfl, rfl, hlen, _⟩ := hfb
          have := h3 _ _ _ hb
          rw [gamF_out hs]
          exact this
        | _ => exact hfb.elim
  | yld hlt hs =>
    intro cv h
    cases h with
    | yld h =>
      obtain ⟨h1, h2, h0, h3, h4⟩ := h
      refine .yld ⟨hlt, h2, fun hr => ?_, fun st pend n env ps asg body hg' => ?_, fun es hg' => ?_⟩
      · obtain ⟨_, b, hb, hfb, _⟩ := F.back hr
        cases b with
        | rsv => exact h0 hb
        | _ => exact hfb.elim
      · obtain ⟨_, b, hb, hfb, _⟩ := F.back hg'
        cases b with
        | loop st0 pend0 n0 env0 ps0 asg0 body0 =>
          have := h3 _ _ _ _ _ _ _ hb
          rw [gamF_out hs]
          exact this
        | _ => exact hfb.elim
      · obtain ⟨_, b, hb, hfb, _⟩ := F.back hg'
        cases b with
        | mp es0 =>
          have := h4 _ hb
          rw [gamF_out hs]
          exact this
        | _ => exact hfb.elim
  | @frz id g o l z e cells c' hs hg hl hc ih =>
    intro cv h
    cases h with
    | own h =>
      obtain ⟨h1, h2, h0, h3⟩ := h
      have h4 := (h3 _ _ _ hg).2 rfl
      have harr := R.arr id g e cells hg
      cases hΓ : Γ id with
      | none =>
        rw [hΓ] at h4
        obtain ⟨rfl, rfl, rfl⟩ := h4
        have : c' = [] := List.eq_nil_of_length_eq_zero (by simpa using hl)
        subst this
        exact .vec0 _ _
      | some y =>
        obtain ⟨b, base, n⟩ := y
        rw [hΓ] at h4 harr
        obtain ⟨a, cap, rfl, hcap, hoff, hor⟩ := h4
        obtain ⟨c, a1, a2, a3, a4⟩ := harr
        rcases hor with ⟨rfl, hn⟩ | ⟨rfl, rfl⟩
        · have hcell : ∀ i, i < l * z → ∃ cv, c[base + (o + i)]? = some cv ∧ ∀ (h : o + i < cells.length), RelV P Γ H w cells[o + i] cv := fun i hi => by
            obtain ⟨cv, b1, b2⟩ := a4 (o + i) (by omega)
            exact ⟨cv, b1, fun _ => b2⟩
          let cs : List Value := (List.range (l * z)).map fun i => (c[base + (o + i)]?).getD undef
          have hcs : cs.length = c'.length := by simp [cs, hl]
          refine .vec (cs := cs) (fun ho => ?_) (R.lt _ _ _ _ hΓ) hcap hcs (fun i hi => ?_) fun i hi hi' => ?_
          · obtain ⟨id', base', n', h'⟩ := ho
            obtain ⟨hns, h''⟩ := gamF_some h'
            have := R.inj _ _ _ _ _ _ _ h'' hΓ
            subst this
            exact hns hs
          · have hi2 : i < l * z := by rw [hcs, hl] at hi; exact hi
            obtain ⟨cv, b1, _⟩ := hcell i hi2
            have : cs[i] = cv := by simp [cs, b1]
            rw [this]
            have he : base + o + i = base + (o + i) := by omega
            simp only [World.cell?, a1, he]
            exact b1
          · have hi2 : i < l * z := by rw [hl] at hi; exact hi
            obtain ⟨cv, b1, b2⟩ := hcell i hi2
            have : cs[i] = cv := by simp [cs, b1]
            rw [this]
            exact ih i hi2 (by omega) hi (b2 (by omega))
        · have : c' = [] := List.eq_nil_of_length_eq_zero (by simpa using hl)
          subst this
          exact .vec0 _ _
  | @pfrz id g o e cells c' hs hg hne hl hc ih =>
    intro cv h
    cases h with
    | ptr h =>
      obtain ⟨h1, h2, h0, h3⟩ := h
      obtain ⟨b, base, n, hΓ, rfl⟩ := (h3 _ _ _ hg).2 rfl
      have harr := R.arr id g e cells hg
      rw [hΓ] at harr
      obtain ⟨c, a1, a2, a3, a4⟩ := harr
      let cs : List Value := (List.range cells.length).map fun i => (c[base + i]?).getD undef
      have hcs : cs.length = c'.length := by simp [cs, hl]
      have hcell : ∀ i (hi : i < cells.length) (hi' : i < cs.length), c[base + i]? = some cs[i] ∧ RelV P Γ H w cells[i] cs[i] := fun i hi hi' => by
        obtain ⟨cv, b1, b2⟩ := a4 i hi
        have : cs[i] = cv := by simp [cs, b1]
        rw [this]
        exact ⟨b1, b2⟩
      refine .vptr (cs := cs) (fun ho => ?_) (R.lt _ _ _ _ hΓ) hcs (fun i hi => ?_) fun i hi hi' => ?_
      · obtain ⟨id', base', n', h'⟩ := ho
        obtain ⟨hns, h''⟩ := gamF_some h'
        have := R.inj _ _ _ _ _ _ _ h'' hΓ
        subst this
        exact hns hs
      · simp only [World.cell?, a1]
        exact (hcell i (by omega) hi).1
      · exact ih i (by omega) hi (hcell i (by omega) hi').2

theorem Fz.plain {S : Nat → Prop} {H : AHeap} {nx : Nat} {v : AVal} (h : Below 0 v) : Fz S H nx v v := by
  induction h with
  | lit v => exact .lit v
  | vec _ ih => exact .vec rfl fun i h _ => ih i h
  | vptr _ ih => exact .vptr rfl fun i h _ => ih i h
  | agg _ ih => exact .agg rfl fun i h _ => ih i h
  | tup _ ih => exact .tup rfl fun i h _ => ih i h
  | clo _ _ ih1 ih2 => exact .clo rfl rfl (fun i h _ => ih1 i h) fun i h _ => ih2 i h
  | own h => exact absurd h (Nat.not_lt_zero _)
  | ptr h => exact absurd h (Nat.not_lt_zero _)
  | yld h => exact absurd h (Nat.not_lt_zero _)

theorem Fz.ints {S : Nat → Prop} {H : AHeap} {nx id g o : Nat} {e : TypeId} {cells : List AVal} {x : List Int} {n : Nat} (hs : S id) (hg : H.get id = some (.arr g e cells)) (hn : n = x.length) (hx : ∀ i (h : i < x.length), cells[o + i]? = some (lin x[i])) :
    Fz S H nx (.own id g o n 1) (vecI x) := by
  subst hn
  refine .frz hs hg (by simp [Go.Hx.ints]) fun i hi h2 h' => ?_
  have h1 := hx i (by omega)
  rw [List.getElem?_eq_getElem h2] at h1
  rw [Option.some.inj h1]
  have : (Go.Hx.ints x)[i] = lin x[i] := by simp [Go.Hx.ints]
  rw [this]
  exact .lit _

theorem Fz.ints_nil {S : Nat → Prop} {H : AHeap} {nx : Nat} : Fz S H nx (.lit (.slice none 0 0)) (vecI []) := .nil
theorem Fz.keepInts {S : Nat → Prop} {H : AHeap} {nx : Nat} (x : List Int) : Fz S H nx (vecI x) (vecI x) :=
  .plain (.vec fun i h => by simp only [Go.Hx.ints, List.getElem_map]; exact .lit _)
def GOk (G : Nat → Option (List AVal)) : Prop := ∀ g cells, G g = some cells → Below 0 (.vptr cells 0)

theorem FzH.evo {S : Nat → Prop} (F : FzH S H H') : Evo Γ H w (gamF S Γ) H' w where
  os := rfl
  tape := rfl
  output := rfl
  size := Nat.le_refl _
  keep := fun _ _ h => ⟨rfl, fun h' => h (gamF_owns h')⟩
  live := fun id _ _ x' hx => by
    obtain ⟨hs, b, hb, hfb, _⟩ := F.back hx
    refine ⟨b, hb, ?_⟩
    cases b <;> cases x' <;> first | exact hfb.elim | skip
    · obtain ⟨rfl, rfl, hl, _⟩ := hfb
      exact ⟨Nat.le_refl _, fun _ => ⟨gamF_out hs, rfl, hl⟩⟩
    · obtain ⟨rfl, rfl, rfl, rfl, rfl, rfl, rfl, _⟩ := hfb
      exact ⟨gamF_out hs, rfl, rfl, rfl, rfl, rfl⟩
    · exact gamF_out hs
    · trivial
  frz := fun _ _ => rfl

theorem FzH.rel {S : Nat → Prop} (hG : GOk G) (R : RelH P G Γ H w) (F : FzH S H H') : RelH P G (gamF S Γ) H' w where
  arr id g e cells hg := by
    obtain ⟨hs, b, hb, hfb, _⟩ := F.back hg
    cases b with
    | arr g0 e0 c0 =>
      obtain ⟨rfl, rfl, hl, hc⟩ := hfb
      have h1 := R.arr _ _ _ _ hb
      rw [gamF_out hs]
      cases hΓ : Γ id with
      | none =>
        rw [hΓ] at h1
        simp only at h1 ⊢
        subst h1
        exact List.eq_nil_of_length_eq_zero hl
      | some y =>
        obtain ⟨b, base, n⟩ := y
        rw [hΓ] at h1
        obtain ⟨c, a1, a2, a3, a4⟩ := h1
        refine ⟨c, a1, a2, by omega, fun i hi => ?_⟩
        obtain ⟨cv, b1, b2⟩ := a4 i (by omega)
        exact ⟨cv, b1, (hc i (by omega) hi).sound R F b2⟩
    | _ => exact hfb.elim
  loop id st pend n env ps asg body hg := by
    obtain ⟨hs, b, hb, hfb, _⟩ := F.back hg
    cases b with
    | loop =>
      obtain ⟨rfl, rfl, rfl, rfl, rfl, rfl, rfl, hf⟩ := hfb
      obtain ⟨b, rr, a1, a2, a3, a4, a5, a6, a7, a8, a9⟩ := R.loop _ _ _ _ _ _ _ _ hb
      exact ⟨b, rr, by rw [gamF_out hs]; exact a1, a2, a3, a4, a5, a6, a7, a8, fun t ht => (hf t (by omega)).sound R F (a9 t ht)⟩
    | _ => exact hfb.elim
  mp id es hg := by
    obtain ⟨hs, b, hb, hfb, _⟩ := F.back hg
    cases b with
    | mp es0 =>
      have hfb' : es = es0 := hfb
      subst hfb'
      obtain ⟨b, a1, a2⟩ := R.mp _ _ hb
      exact ⟨b, by rw [gamF_out hs]; exact a1, a2⟩
    | _ => exact hfb.elim
  rsv id hg := by
    obtain ⟨hs, b, hb, hfb, _⟩ := F.back hg
    cases b with
    | rsv => rw [gamF_out hs]; exact R.rsv id hb
    | _ => exact hfb.elim
  inj id id' b base n base' n' h h' := R.inj id id' b base n base' n' (gamF_some h).2 (gamF_some h').2
  dom id x h := by
    obtain ⟨hs, h⟩ := gamF_some h
    obtain ⟨y, hy⟩ := R.dom id x h
    obtain ⟨_, b', hb', _⟩ := F.kept id y hs hy
    exact ⟨b', hb'⟩
  lt id b base n h := R.lt id b base n (gamF_some h).2
  next id y h := by
    obtain ⟨_, _, _, _, h⟩ := F.back h
    exact h
  glob g cells h := (Fz.plain (hG g cells h)).sound R F (R.glob g cells h)
  gsz := R.gsz

theorem WeakV.freeze {S : Nat → Prop} (hG : GOk G) {v v' : AVal} (F : FzH S H H') (hv : Fz S H H'.next v v') : WeakV P G H v H' v' :=
  fun Γ _ R => ⟨gamF S Γ, F.rel hG R, F.evo, fun _ h => hv.sound R F h⟩

theorem WeakS.freeze {S : Nat → Prop} (hG : GOk G) {s s' : St} (F : FzH S s.H s'.H) (hv : ∀ t, Fz S s.H s'.H.next (s.ρ t) (s'.ρ t)) : WeakS P G s s' := by
  intro n wb Γ a w hs
  have E : Evo Γ s.H w (gamF S Γ) s'.H w := F.evo
  refine ⟨gamF S Γ, ⟨hs.size, fun t => (hv t).sound hs.heap F (hs.env t), F.rel hG hs.heap, hs.defers.evo E, hs.low⟩, E, fun rd rb hr hri => ?_⟩
  cases rd with
  | none => exact hr
  | some id =>
    obtain ⟨b, st, pend, n, env, ps, asg, body, h1, h2, h3⟩ := hr
    obtain ⟨st', pend', n', env', ps', asg', body', h4⟩ := hri
    obtain ⟨hns, _⟩ := F.back h4
    exact ⟨b, _, _, _, _, _, _, _, h1, by rw [gamF_out hns]; exact h2, h4⟩

theorem fzH_ext (hc : Clo H) (L : List Blk) : FzH (fun id => H.next ≤ id) (ext H L) H where
  gone id hs := by
    cases h : H.get id with
    | none => rfl
    | some b => have := hc.lt id b h; omega
  kept id b hs hb := by
    have hlt : id < H.next := Nat.lt_of_not_le hs
    rw [get_ext_old H L id hlt] at hb
    have hbb := hc.below id b hb
    refine ⟨hlt, b, hb, ?_⟩
    have hno : ∀ i, i < H.next → ¬ H.next ≤ i := fun i h => Nat.not_le_of_lt h
    cases b with
    | rsv => trivial
    | mp => rfl
    | arr g e cells => exact ⟨rfl, rfl, rfl, fun i h _ => .refl (hbb i h) hno⟩
    | loop st pend n env ps asg body => exact ⟨rfl, rfl, rfl, rfl, rfl, rfl, rfl, fun t ht => .refl (hbb t ht) hno⟩
  none id hs hb := by
    rw [get_ext_old H L id (Nat.lt_of_not_le hs)] at hb
    exact hb

theorem FinV.drop (hG : GOk G) (hc : Clo H) {L : List Blk} {K : ARes → AHeap → Prop} {v v' : AVal} (hv : Fz (fun id => H.next ≤ id) (ext H L) H.next v v') (hk : K (.ret v') H) : FinV P G H K v (ext H L) :=
  ⟨v', H, .freeze hG (fzH_ext hc L) hv, Nat.le_refl _, hk⟩

theorem ACall.clo {f : FuncId} {args : List AVal} {K : ARes → AHeap → Prop} (hf : ∃ fn, P.funcs[f]? = some fn ∧ fn.body.isNone = false ∧ (fn.name == "runtime.NumGoroutine") = false) (h : Clo H → ACall P G f args H K) : ACall P G f args H K :=
  ⟨hf, fun Γ w cargs R hr => (h R.clo).2 Γ w cargs R hr⟩

end Go.Hx
namespace Go.Hx
variable {P : Program} {G : Nat → Option (List AVal)} {Γ Γ' : Gam} {H H' : AHeap} {w w' : World}

theorem loop_set (R : RelH P G Γ H w) {id : Nat} {st : LoopState} {pend : Option Code} {n : Nat} {env : Env} {ps : Array Tmp} {asg body : Code} (hg : H.get id = some (.loop st pend n env ps asg body)) :
    ∃ b r, Γ id = some (b, 0, 0) ∧ w.heap[b]? = some (.loop r) ∧ r.state = st ∧ r.pending = pend ∧ r.params = ps ∧ r.assign = asg ∧ r.body = body ∧ r.tmps.size = n ∧ (∀ t (h : t < r.tmps.size), RelV P Γ H w (env t) r.tmps[t]) ∧
      ∀ st' pend', RelH P G Γ (H.upd id (.loop st' pend' n env ps asg body)) (setBlk w b (.loop { r with state := st', pending := pend' })) ∧
        Evo Γ H w Γ (H.upd id (.loop st' pend' n env ps asg body)) (setBlk w b (.loop { r with state := st', pending := pend' })) := by
  obtain ⟨b, r, hΓ, hb, h1, h2, h3, h4, h5, h6, h7⟩ := R.loop id st pend n env ps asg body hg
  refine ⟨b, r, hΓ, hb, h1, h2, h3, h4, h5, h6, h7, fun st' pend' => ?_⟩
  have hlt := R.lt id b 0 0 hΓ
  have E : Evo Γ H w Γ (H.upd id (.loop st' pend' n env ps asg body)) (setBlk w b (.loop { r with state := st', pending := pend' })) :=
    { os := rfl, tape := rfl, output := rfl
      size := by rw [size_setBlk]; exact Nat.le_refl _
      keep := fun c hc ho => ⟨by
        rw [heap_setBlk, if_neg]
        rintro ⟨rfl, _⟩
        exact ho ⟨id, 0, 0, hΓ⟩, ho⟩
      live := fun i hi _ x' hx => by
        rw [upd_get] at hx
        split at hx
        · rename_i hii
          subst hii
          simp only [Option.some.injEq] at hx
          subst hx
          exact ⟨_, hg, rfl, rfl, rfl, rfl, rfl, rfl⟩
        · exact ⟨x', hx, Blk.le_refl _ _ _⟩
      frz := fun a _ => frozen_setBlk hb (fun _ _ _ h => by cases h) (fun _ _ _ h => by cases h) a }
  refine ⟨?_, E⟩
  have hne : ∀ i b' base n', Γ i = some (b', base, n') → i ≠ id → b' ≠ b := fun i b' base n' hi hii hbb => by
    subst hbb
    exact hii (R.inj _ _ _ _ _ _ _ hi hΓ)
  exact
    { arr := fun i g e cells hgi => by
        rw [upd_get] at hgi
        split at hgi
        · simp at hgi
        · rename_i hii
          have h := R.arr i g e cells hgi
          cases hi : Γ i with
          | none => rw [hi] at h; exact h
          | some y =>
            obtain ⟨b', base, n'⟩ := y
            rw [hi] at h
            obtain ⟨c, a1, a2, a3, a4⟩ := h
            refine ⟨c, ?_, a2, a3, fun j hj => let ⟨cv, b1, b2⟩ := a4 j hj; ⟨cv, b1, b2.evo E (Nat.le_refl _)⟩⟩
            rw [heap_setBlk, if_neg]
            · exact a1
            · rintro ⟨h, _⟩
              exact hne i b' base n' hi hii h
      loop := fun i st2 pend2 n2 env2 ps2 asg2 body2 hgi => by
        rw [upd_get] at hgi
        split at hgi
        · rename_i hii
          subst hii
          simp only [Option.some.injEq, Blk.loop.injEq] at hgi
          obtain ⟨rfl, rfl, rfl, rfl, rfl, rfl, rfl⟩ := hgi
          refine ⟨b, { r with state := st', pending := pend' }, hΓ, by rw [heap_setBlk, if_pos ⟨rfl, hlt⟩], rfl, rfl, h3, h4, h5, h6, fun t ht => (h7 t ht).evo E (Nat.le_refl _)⟩
        · rename_i hii
          obtain ⟨b2, r2, a1, a2, a3, a4, a5, a6, a7, a8, a9⟩ := R.loop i _ _ _ _ _ _ _ hgi
          refine ⟨b2, r2, a1, ?_, a3, a4, a5, a6, a7, a8, fun t ht => (a9 t ht).evo E (Nat.le_refl _)⟩
          rw [heap_setBlk, if_neg]
          · exact a2
          · rintro ⟨h, _⟩
            exact hne i b2 0 0 a1 hii h
      mp := fun i es hgi => by
        rw [upd_get] at hgi
        split at hgi
        · simp at hgi
        · rename_i hii
          obtain ⟨b2, a1, a2⟩ := R.mp i _ hgi
          refine ⟨b2, a1, ?_⟩
          rw [heap_setBlk, if_neg]
          · exact a2
          · rintro ⟨h, _⟩
            exact hne i b2 0 0 a1 hii h
      rsv := fun i hgi => by
        rw [upd_get] at hgi
        split at hgi
        · simp at hgi
        · exact R.rsv i hgi
      inj := R.inj
      dom := fun i x hi => by
        obtain ⟨y, hy⟩ := R.dom i x hi
        rw [upd_get]
        split
        · exact ⟨_, rfl⟩
        · exact ⟨y, hy⟩
      lt := fun i b' base n' hi => by rw [size_setBlk]; exact R.lt i b' base n' hi
      next := fun i y hy => by
        rw [upd_get] at hy
        split at hy
        · rename_i hii
          subst hii
          exact R.next _ _ hg
        · exact R.next i y hy
      glob := fun g cells h => (R.glob g cells h).evo E (Nat.le_refl _)
      gsz := R.gszEvo E }

theorem run_getLoop {b : Nat} {r : Loop} (h : w.heap[b]? = some (.loop r)) : (Instr.getLoop b).run P w = .ok r w := by
  have hg : (getObj b).run P w = .ok (.loop r) w := by simp [getObj, Sem.run, h]
  unfold Instr.getLoop
  rw [run_bind_ok hg]
  rfl

theorem run_setObj {b : Nat} {r : Loop} {o' : Obj} (h : w.heap[b]? = some (.loop r)) : (setObj b o').run P w = .ok () (setBlk w b o') := by
  simp [setObj, Sem.run, h, setBlk]

theorem run_beginRound {b : Nat} {r : Loop} (h : w.heap[b]? = some (.loop r)) (hs : r.state = .ready) : (Instr.beginRound b).run P w = .ok () (setBlk w b (.loop { r with state := .busy, pending := r.pending })) := by
  unfold Instr.beginRound
  rw [run_bind_ok (run_getLoop h), run_bind_ok (run_setObj h)]
  simp only [hs]
  rfl

theorem run_endRound {b : Nat} {r : Loop} (h : w.heap[b]? = some (.loop r)) (j : Option Code) :
    (Instr.endRound b j).run P w = .ok (.bool j.isNone) (setBlk w b (.loop { r with state := if j.isNone then .ready else .done, pending := j })) := by
  unfold Instr.endRound
  rw [run_bind_ok (run_getLoop h), run_bind_ok (run_setObj h)]
  rfl

theorem run_endLoop {b : Nat} {r : Loop} (h : w.heap[b]? = some (.loop r)) (hs : (r.state == .busy) = false) : (Instr.endLoop b).run P w = .ok r.pending (setBlk w b (.loop { r with state := .exhausted, pending := r.pending })) := by
  unfold Instr.endLoop
  rw [run_bind_ok (run_getLoop h)]
  simp only [hs, Bool.false_eq_true, if_false]
  rw [run_bind_ok (run_setObj h)]
  rfl

def setPs (ρ : Env) (l : List (Tmp × AVal)) : Env := l.foldl (fun ρ p => putA ρ (some p.1) p.2) ρ
def envN (env : Env) (n : Nat) : Env := fun t => if t < n then env t else .lit undef

def setLoop (st : LoopState) (pend : Option Code) : Option Blk → Option Blk
  | some (.loop _ _ n env ps asg body) => some (.loop st pend n env ps asg body)
  | _ => none
def beginA : Option Blk → Option Blk
  | some (.loop .ready pend n env ps asg body) => some (.loop .busy pend n env ps asg body)
  | _ => none

def roundQ (id : Nat) (K : ARes → AHeap → Prop) : AX → St → Prop
  | .normal, s => wpo (setLoop .ready none (s.H.get id)) fun b => K (.ret (.lit (.bool true))) (s.H.upd id b)
  | .ret, s => wpo (setLoop .done (some .ret) (s.H.get id)) fun b => K (.ret (.lit (.bool false))) (s.H.upd id b)
  | .exit i, s => wpo (setLoop .done (some (.exit i)) (s.H.get id)) fun b => K (.ret (.lit (.bool false))) (s.H.upd id b)
  | .goto i, s => wpo (setLoop .done (some (.goto i)) (s.H.get id)) fun b => K (.ret (.lit (.bool false))) (s.H.upd id b)
  | .panic, _ => False

def asgQ (P : Program) (G : Nat → Option (List AVal)) (n id : Nat) (body : Code) (K : ARes → AHeap → Prop) : AX → St → Prop
  | .normal, s => wpo (beginA (s.H.get id)) fun b => W P G n (some id) body (roundQ id K) ⟨s.ρ, s.H.upd id b⟩
  | _, _ => False

theorem setPs_rel : ∀ (l : List (Tmp × AVal)) (cl : List (Tmp × Value)) (ρ : Env) (tmps : Array Value), l.length = cl.length → (∀ i (h : i < l.length) (h' : i < cl.length), l[i].1 = cl[i].1 ∧ l[i].1 < tmps.size ∧ RelV P Γ H w l[i].2 cl[i].2) →
    (∀ t, RelV P Γ H w (ρ t) (tmps.getD t undef)) →
    ((cl.foldl (fun tmps (p : Tmp × Value) => tmps.setIfInBounds p.1 p.2) tmps).size = tmps.size) ∧ ∀ t, RelV P Γ H w (setPs ρ l t) ((cl.foldl (fun tmps (p : Tmp × Value) => tmps.setIfInBounds p.1 p.2) tmps).getD t undef) := by
  intro l
  induction l with
  | nil =>
    intro cl ρ tmps hl _ he
    cases cl with
    | nil => exact ⟨rfl, he⟩
    | cons => simp at hl
  | cons x l ih =>
    intro cl ρ tmps hl h he
    cases cl with
    | nil => simp at hl
    | cons y cl =>
      obtain ⟨h1, h2, h3⟩ := h 0 (by simp) (by simp)
      simp only [List.getElem_cons_zero] at h1 h2 h3
      have := ih cl (putA ρ (some x.1) x.2) (tmps.setIfInBounds y.1 y.2) (by simpa using hl) (fun i a b => by
        have := h (i + 1) (by simpa using a) (by simpa using b)
        simp only [List.getElem_cons_succ] at this
        simpa using this) (fun t => by
          by_cases ht : t = x.1
          · subst ht
            have e1 : putA ρ (some x.1) x.2 x.1 = x.2 := by simp [putA]
            have e2 : (tmps.setIfInBounds y.1 y.2).getD x.1 undef = y.2 := by rw [← h1]; simp [h2]
            rw [e1, e2]
            exact h3
          · have e1 : putA ρ (some x.1) x.2 t = ρ t := by simp [putA, ht]
            have e2 : (tmps.setIfInBounds y.1 y.2).getD t undef = tmps.getD t undef := by
              simp only [Array.getD_eq_getD_getElem?]
              rw [Array.getElem?_setIfInBounds, if_neg (by rw [← h1]; exact fun h => ht h.symm)]
            rw [e1, e2]
            exact he t)
      refine ⟨?_, this.2⟩
      have h4 := this.1
      simp only [Array.size_setIfInBounds] at h4
      exact h4

theorem setLoop_some {st : LoopState} {pend : Option Code} {x : Option Blk} {b : Blk} (h : setLoop st pend x = some b) : ∃ st0 p0 n env ps asg body, x = some (.loop st0 p0 n env ps asg body) ∧ b = .loop st pend n env ps asg body := by
  unfold setLoop at h
  split at h
  · cases h; exact ⟨_, _, _, _, _, _, _, rfl, rfl⟩
  · cases h

theorem AApply.yld {id : Nat} {args : List AVal} {K : ARes → AHeap → Prop} {pend : Option Code} {n : Nat} {env : Env} {ps : Array Tmp} {asg body : Code} (hg : H.get id = some (.loop .ready pend n env ps asg body)) (hl : args.length = ps.size)
    (hps : ps.toList.all (fun t => decide (t < n)) = true) (h : W P G n (some id) asg (asgQ P G n id body K) ⟨setPs (envN env n) (ps.toList.zip args), H⟩) : AApply P G (.yld id) args H K := by
  intro Γ w cfv cargs R hv hr
  cases hv with
  | yld hy =>
    obtain ⟨b, hΓ, rfl⟩ := hy.2.2.2.1 _ _ _ _ _ _ _ hg
    obtain ⟨b', r, hΓ', hb, h1, h2, h3, h4, h5, h6, h7, _⟩ := loop_set R hg
    rw [hΓ] at hΓ'
    simp only [Option.some.injEq, Prod.mk.injEq] at hΓ'
    obtain ⟨rfl, _⟩ := hΓ'
    have hsz : cargs.size = r.params.size := by rw [hr.1, hl, h3]
    refine ⟨{ target := .fn (.yield b) #[], args := #[] ++ cargs }, rfl, .inr (.inl ⟨b, r.fn, (r.params.zip (#[] ++ cargs)).foldl (fun tmps (t, a) => tmps.setIfInBounds t a) r.tmps, r.assign, r.body, ?_, ?_⟩)⟩
    · show (Instr.yield b (#[] ++ cargs)).run P w = _
      unfold Instr.yield
      rw [run_bind_ok (run_getLoop hb)]
      have : ¬ ((#[] ++ cargs).size ≠ r.params.size) := by simp [hsz]
      rw [if_neg this]
      rfl
    · refine roundIn_of_wpIn (F := Fence.wide) trivial ?_
      have hfold : (r.params.zip (#[] ++ cargs)).foldl (fun tmps (t, a) => tmps.setIfInBounds t a) r.tmps = (r.params.toList.zip cargs.toList).foldl (fun tmps (p : Tmp × Value) => tmps.setIfInBounds p.1 p.2) r.tmps := by
        rw [← Array.foldl_toList]
        simp
      rw [hfold, h4, h5]
      have hset := setPs_rel (P := P) (Γ := Γ) (H := H) (w := w) (ps.toList.zip args) (r.params.toList.zip cargs.toList) (envN env n) r.tmps (by simp [hr.1, h3]) (fun i a c => by
          simp only [List.length_zip, Array.length_toList] at a c
          simp only [List.getElem_zip, Array.getElem_toList]
          refine ⟨by simp only [h3], ?_, hr.2 i (by omega) (by omega)⟩
          rw [h6]
          have := List.all_eq_true.1 hps (ps[i]'(by omega)) (by simp)
          simpa using this) (fun t => by
          unfold envN
          by_cases ht : t < n
          · rw [if_pos ht]
            have : r.tmps.getD t undef = r.tmps[t]'(by omega) := by simp [h6, ht]
            rw [this]
            exact h7 t (by omega)
          · rw [if_neg ht]
            have : r.tmps.getD t undef = undef := by simp [h6, ht]
            rw [this]
            exact .lit _)
      have hs : RelS P G n ⟨0, []⟩ Γ ⟨setPs (envN env n) (ps.toList.zip args), H⟩ { tmps := (r.params.toList.zip cargs.toList).foldl (fun tmps (p : Tmp × Value) => tmps.setIfInBounds p.1 p.2) r.tmps, defers := [] } w :=
        ⟨by rw [hset.1, h6], hset.2, R, ⟨[], rfl, Marks.nil⟩, Nat.zero_le _⟩
      refine wpIn_mono (h ⟨0, []⟩ Γ _ w (some b) hs ⟨b, _, _, _, _, _, _, _, rfl, hΓ, hg⟩) ?_
      rintro e a₁ w₁ ⟨x, s₁, Γ₁, hx, hq, hs₁, E₁, hn₁, hr₁, _⟩
      cases x with
      | normal =>
        cases e with
        | normal =>
          obtain ⟨blk, hbg, hW⟩ := hq
          obtain ⟨b1, st1, p1, n1, env1, ps1, asg1, body1, hb1, hΓ₁, hg₁⟩ := hr₁
          simp only [Option.some.injEq] at hb1
          subst hb1
          rw [hg₁] at hbg
          have hst : st1 = .ready ∧ blk = .loop .busy p1 n1 env1 ps1 asg1 body1 := by
            cases st1 <;> simp [beginA] at hbg
            exact ⟨rfl, hbg.symm⟩
          obtain ⟨rfl, rfl⟩ := hst
          obtain ⟨b2, r1, hΓ₂, hb2, k1, k2, k3, k4, k5, k6, k7, kset⟩ := loop_set hs₁.heap hg₁
          rw [hΓ₁] at hΓ₂
          simp only [Option.some.injEq, Prod.mk.injEq] at hΓ₂
          obtain ⟨rfl, _⟩ := hΓ₂
          obtain ⟨R2, E2⟩ := kset .busy r1.pending
          rw [k2] at R2 E2
          have hb3 : Γ₁ id = some (b, 0, 0) := hΓ₁
          refine ⟨_, run_beginRound hb2 k1, ?_⟩
          rw [k2]
          refine wpIn_mono (hW ⟨0, []⟩ Γ₁ a₁ _ (some b) (hs₁.move E2 (Nat.le_refl _) R2) ⟨b, _, _, _, _, _, _, _, rfl, hΓ₁, by rw [upd_get, if_pos rfl]⟩) ?_
          rintro e a₂ w₂ ⟨x, s₂, Γ₂, hx, hq, hs₂, E3, hn₂, hr₂, _⟩
          obtain ⟨b4, st4, p4, n4, env4, ps4, asg4, body4, hb4, hΓ₄, hg₄⟩ := hr₂
          simp only [Option.some.injEq] at hb4
          subst hb4
          obtain ⟨b5, r5, hΓ₅, hb5, l1, l2, l3, l4, l5, l6, l7, lset⟩ := loop_set hs₂.heap hg₄
          rw [hΓ₄] at hΓ₅
          simp only [Option.some.injEq, Prod.mk.injEq] at hΓ₅
          obtain ⟨rfl, _⟩ := hΓ₅
          have E4 : Evo Γ H w Γ₂ s₂.H w₂ := (E₁.trans hn₁ E2).trans hn₁ E3
          have hn4 : H.next ≤ s₂.H.next := Nat.le_trans hn₁ hn₂
          have fin : ∀ (j : Option Code) (v : Bool), v = j.isNone → wpo (setLoop (if j.isNone then .ready else .done) j (s₂.H.get id)) (fun bl => K (.ret (.lit (.bool v))) (s₂.H.upd id bl)) →
              ∃ cv w', (Instr.endRound b j).run P w₂ = .ok cv w' ∧ CPost P G Γ H w K (.returned cv) w' := by
            rintro j v rfl ⟨bl, hbl, hk⟩
            obtain ⟨R6, E6⟩ := lset (if j.isNone then .ready else .done) j
            rw [hg₄] at hbl
            obtain ⟨_, _, _, _, _, _, _, heq, rfl⟩ := setLoop_some hbl
            simp only [Option.some.injEq, Blk.loop.injEq] at heq
            obtain ⟨rfl, rfl, rfl, rfl, rfl, rfl, rfl⟩ := heq
            exact ⟨_, _, run_endRound hb5 j, .ret (.lit (.bool j.isNone)), _, Γ₂, RelV.lit _, hk, R6, E4.trans hn4 E6, hn4⟩
          cases e with
          | normal => cases x with
            | normal => exact fin none true rfl hq
            | _ => exact hx.elim
          | ret => cases x with
            | ret => exact fin (some .ret) false rfl hq
            | _ => exact hx.elim
          | exit i => cases x with
            | exit i' =>
              obtain rfl : i = i' := hx
              exact fin (some (.exit i)) false rfl hq
            | _ => exact hx.elim
          | goto i => cases x with
            | goto i' =>
              obtain rfl : i = i' := hx
              exact fin (some (.goto i)) false rfl hq
            | _ => exact hx.elim
          | panic c => cases x with
            | panic => exact hq.elim
            | _ => exact hx.elim
          | outgrown => cases x <;> exact hx.elim
        | _ => exact hx.elim
      | _ => exact hq.elim

theorem grow_evo (hos : w'.os = w.os) (ht : w'.tape = w.tape) (ho : w'.output = w.output) (hs : w.heap.size ≤ w'.heap.size) (hk : ∀ b, b < w.heap.size → w'.heap[b]? = w.heap[b]?) (hz : ∀ a, a.block < w.heap.size → w'.frozen? a = w.frozen? a) (R : RelH P G Γ H w) : Evo Γ H w Γ H w' ∧ RelH P G Γ H w' := by
  have E : Evo Γ H w Γ H w' := ⟨hos, ht, ho, hs, fun b hb h => ⟨hk b hb, h⟩, fun _ _ _ x' hx => ⟨x', hx, Blk.le_refl _ _ _⟩, hz⟩
  refine ⟨E, ?_⟩
  exact
    { arr := fun id g e cells hg => by
        have h1 := R.arr id g e cells hg
        cases hΓ : Γ id with
        | none => rw [hΓ] at h1; exact h1
        | some y =>
          obtain ⟨b, base, n⟩ := y
          rw [hΓ] at h1
          obtain ⟨c, a1, a2, a3, a4⟩ := h1
          exact ⟨c, by rw [hk b (R.lt _ _ _ _ hΓ)]; exact a1, a2, a3, fun i hi => let ⟨cv, b1, b2⟩ := a4 i hi; ⟨cv, b1, b2.evo E (Nat.le_refl _)⟩⟩
      loop := fun id st pend n env ps asg body hg => by
        obtain ⟨b, rr, a1, a2, a3, a4, a5, a6, a7, a8, a9⟩ := R.loop id st pend n env ps asg body hg
        exact ⟨b, rr, a1, by rw [hk b (R.lt _ _ _ _ a1)]; exact a2, a3, a4, a5, a6, a7, a8, fun t ht => (a9 t ht).evo E (Nat.le_refl _)⟩
      mp := fun id es hg => by
        obtain ⟨b, a1, a2⟩ := R.mp id es hg
        exact ⟨b, a1, by rw [hk b (R.lt _ _ _ _ a1)]; exact a2⟩
      rsv := R.rsv
      inj := R.inj
      dom := R.dom
      lt := fun id b base n h => Nat.lt_of_lt_of_le (R.lt id b base n h) hs
      next := R.next
      glob := fun g cells h => (R.glob g cells h).evo E (Nat.le_refl _)
      gsz := R.gszEvo E }

def endA : Option Blk → Option (Option Code × Blk)
  | some (.loop .busy ..) => none
  | some (.loop _ pend n env ps asg body) => some (pend, .loop .exhausted pend n env ps asg body)
  | _ => none

def jumpQ (Q : AX → St → Prop) (s : St) : Option Code → Prop
  | none => Q .normal s
  | some .ret => Q .ret s
  | some (.exit i) => Q (.exit i) s
  | some (.goto i) => Q (.goto i) s
  | _ => False

def rangeQ (rd : Option Nat) (Q : AX → St → Prop) (ρ : Env) (id : Nat) : ARes → AHeap → Prop
  | .ret _, H' => RdIn H' rd ∧ wpo (endA (H'.get id)) fun pb => jumpQ Q ⟨ρ, H'.upd id pb.2⟩ pb.1
  | .panic, H' => RdIn H' rd ∧ Q .panic ⟨ρ, H'⟩

theorem endA_some {x : Option Blk} {pb : Option Code × Blk} (h : endA x = some pb) : ∃ st pend n env ps asg body, x = some (.loop st pend n env ps asg body) ∧ (st == .busy) = false ∧ pb = (pend, .loop .exhausted pend n env ps asg body) := by
  unfold endA at h
  split at h
  · cases h
  · rename_i st pend n env ps asg body hne
    cases h
    refine ⟨_, _, _, _, _, _, _, rfl, ?_, rfl⟩
    cases st with
    | busy => exact absurd rfl (by first | exact hne | exact fun h => hne _ _ _ _ _ _ h)
    | _ => rfl
  · cases h

section
variable {n : Nat} {rd : Option Nat} {Q : AX → St → Prop}

theorem W.rangeFunc {g : Operand} {ps : Array Tmp} {asg body : Code} {s : St} {f : FuncId} {first cap : List AVal} (hg : evA G s.ρ g = .clo f first cap)
    (h : wpo (s.H.lay s.H.next (.loop .ready none n s.ρ ps asg body)) fun H1 => ACall P G f (first ++ [.yld s.H.next] ++ cap) H1 (rangeQ rd Q s.ρ s.H.next)) : W P G n rd (.rangeFunc g ps asg body) Q s := by
  intro wb Γ a w rb hs hr
  obtain ⟨H1, hlay, hcall⟩ := h
  have hlay2 : H1 = ⟨fun j => if j = s.H.next then some (.loop .ready none n s.ρ ps asg body) else s.H.get j, s.H.next + 1⟩ := by
    unfold AHeap.lay at hlay
    rw [if_pos rfl] at hlay
    exact (Option.some.inj hlay).symm
  subst hlay2
  refine wpIn_rangeFunc fun fn _ => ?_
  have he := eval_rel hs g
  rw [hg] at he
  -- the world with the record
  have key : ∀ (w0 : World) (mark : List Deferred) (dblk : Nat), Evo Γ s.H w Γ s.H w0 → RelH P G Γ s.H w0 →
      MarksOn wb Γ w0 (mark ++ a.defers) →
      ∀ w1, w1 = { w0 with heap := w0.heap.push (.loop { state := .ready, pending := none, fn := fn, tmps := a.tmps, params := ps, assign := asg, body := body, defers := dblk }) } →
      (Instr.enterLoop fn a.tmps ps asg body (fenceOf rb).round).run P w = .ok (w0.heap.size, mark) w1 →
      ∃ (l : Nat) (mark : List Deferred) (w₁ : World) (d : Deferred) (w₁' : World) (f : FuncId) (args : Array Value) (w₂ : World),
      (Instr.enterLoop fn a.tmps ps asg body (fenceOf rb).round).run P w = .ok (l, mark) w₁ ∧
      (resolve a.eval (rangeCall g l) 0).run P w₁ = .ok d w₁' ∧
      (∀ f', Target.leads P w₁' d.target d.args = some f' → (fenceOf rb).fn f') ∧
      (invoke d.target d.args).run P w₁' = .ok (.enter f args) w₂ ∧
      ((fenceOf rb).depth.isSome = true → 1 ≤ 0) ∧
      CallsIn (fenceOf rb) (0 - 1) P f args w₂ (rangePost (fenceOf rb) 0 P l (WPost P G n wb rd rb (wr (.rangeFunc g ps asg body)) Γ s.H a w Q) { a with defers := mark ++ a.defers }) := by
    intro w0 mark dblk E0 R0 hdef w1 hw1 hent
    let rec' : Loop := { state := .ready, pending := none, fn := fn, tmps := a.tmps, params := ps, assign := asg, body := body, defers := dblk }
    have hheap : w1.heap = w0.heap.push (.loop rec') := by rw [hw1]
    have hsz1 : w1.heap.size = w0.heap.size + 1 := by rw [hheap]; simp
    have hk1 : ∀ b, b < w0.heap.size → w1.heap[b]? = w0.heap[b]? := fun b hb => by
      rw [hheap, Array.getElem?_push]
      rw [if_neg (by omega)]
    have hget1 : w1.heap[w0.heap.size]? = some (.loop rec') := by rw [hheap]; simp
    obtain ⟨E1, R1⟩ := grow_evo (w' := w1) (by rw [hw1]) (by rw [hw1]) (by rw [hw1]) (by omega) hk1 (fun a _ => frozen_push hheap (fun _ _ _ h => by cases h) a) R0
    let Γ1 : Gam := fun i => if i = s.H.next then some (w0.heap.size, 0, 0) else Γ i
    let H1 : AHeap := ⟨fun j => if j = s.H.next then some (.loop .ready none n s.ρ ps asg body) else s.H.get j, s.H.next + 1⟩
    have hfresh : ∀ i y, s.H.get i = some y → i ≠ s.H.next := fun i y hy h => by have := R0.next i y hy; omega
    have hΓfresh : ∀ i x, Γ i = some x → i ≠ s.H.next := fun i x hx => let ⟨y, hy⟩ := R0.dom i x hx; hfresh i y hy
    have hΓ1 : ∀ i, i ≠ s.H.next → Γ1 i = Γ i := fun i hi => by simp only [Γ1]; rw [if_neg hi]
    have hH1 : ∀ i, i ≠ s.H.next → H1.get i = s.H.get i := fun i hi => by simp only [H1]; rw [if_neg hi]
    have E2 : Evo Γ s.H w0 Γ1 H1 w1 :=
      { os := by rw [hw1], tape := by rw [hw1], output := by rw [hw1], size := by omega
        keep := fun b hb ho => ⟨hk1 b hb, by
          rintro ⟨i, base, m, hi⟩
          simp only [Γ1] at hi
          split at hi
          · simp only [Option.some.injEq, Prod.mk.injEq] at hi
            omega
          · exact ho ⟨i, base, m, hi⟩⟩
        live := fun i hi _ x' hx => by
          rw [hH1 i (by omega)] at hx
          refine ⟨x', hx, ?_⟩
          have hΓi : Γ1 i = Γ i := hΓ1 i (by omega)
          cases x' with
          | arr => exact ⟨Nat.le_refl _, fun _ => ⟨hΓi, rfl, rfl⟩⟩
          | loop => exact ⟨hΓi, rfl, rfl, rfl, rfl, rfl⟩
          | mp => exact hΓi
          | rsv => trivial
        frz := fun a _ => frozen_push hheap (fun _ _ _ h => by cases h) a }
    have hn1 : s.H.next ≤ H1.next := Nat.le_succ _
    have tr : ∀ v cv, RelV P Γ s.H w0 v cv → RelV P Γ1 H1 w1 v cv := fun v cv h => h.evo E2 hn1
    have R2 : RelH P G Γ1 H1 w1 :=
      { arr := fun i g e cells hi => by
          by_cases hii : i = s.H.next
          · simp only [H1] at hi; rw [if_pos hii] at hi; simp at hi
          · rw [hH1 i hii] at hi
            have h := R0.arr i g e cells hi
            rw [hΓ1 i hii]
            cases hΓ : Γ i with
            | none => rw [hΓ] at h; exact h
            | some y =>
              obtain ⟨b, base, m⟩ := y
              rw [hΓ] at h
              obtain ⟨c, a1, a2, a3, a4⟩ := h
              exact ⟨c, by rw [hk1 b (R0.lt _ _ _ _ hΓ)]; exact a1, a2, a3, fun j hj => let ⟨cv, b1, b2⟩ := a4 j hj; ⟨cv, b1, tr _ _ b2⟩⟩
        loop := fun i st2 pend2 n2 env2 ps2 asg2 body2 hi => by
          by_cases hii : i = s.H.next
          · simp only [H1] at hi
            rw [if_pos hii] at hi
            simp only [Option.some.injEq, Blk.loop.injEq] at hi
            obtain ⟨rfl, rfl, rfl, rfl, rfl, rfl, rfl⟩ := hi
            refine ⟨w0.heap.size, rec', by simp only [Γ1]; rw [if_pos hii], hget1, rfl, rfl, rfl, rfl, rfl, hs.size, fun t ht => ?_⟩
            have := ((hs.env t).evo E0 (Nat.le_refl _)).evo E2 hn1
            have e1 : a.tmps.getD t undef = a.tmps[t]'ht := by
              have : t < a.tmps.size := ht
              simp [this]
            rw [e1] at this
            exact this
          · rw [hH1 i hii] at hi
            obtain ⟨b2, r2, a1, a2, a3, a4, a5, a6, a7, a8, a9⟩ := R0.loop i _ _ _ _ _ _ _ hi
            exact ⟨b2, r2, by rw [hΓ1 i hii]; exact a1, by rw [hk1 b2 (R0.lt _ _ _ _ a1)]; exact a2, a3, a4, a5, a6, a7, a8, fun t ht => tr _ _ (a9 t ht)⟩
        mp := fun i es hi => by
          by_cases hii : i = s.H.next
          · simp only [H1] at hi; rw [if_pos hii] at hi; simp at hi
          · rw [hH1 i hii] at hi
            obtain ⟨b2, a1, a2⟩ := R0.mp i _ hi
            exact ⟨b2, by rw [hΓ1 i hii]; exact a1, by rw [hk1 b2 (R0.lt _ _ _ _ a1)]; exact a2⟩
        rsv := fun i hi => by
          by_cases hii : i = s.H.next
          · simp only [H1] at hi; rw [if_pos hii] at hi; simp at hi
          · rw [hH1 i hii] at hi
            rw [hΓ1 i hii]; exact R0.rsv i hi
        inj := fun i i' b base m base' m' h h' => by
          by_cases h1 : i = s.H.next
          · by_cases h2 : i' = s.H.next
            · rw [h1, h2]
            · rw [hΓ1 i' h2] at h'
              simp only [Γ1] at h
              rw [if_pos h1] at h
              simp only [Option.some.injEq, Prod.mk.injEq] at h
              have := R0.lt _ _ _ _ h'
              omega
          · by_cases h2 : i' = s.H.next
            · rw [hΓ1 i h1] at h
              simp only [Γ1] at h'
              rw [if_pos h2] at h'
              simp only [Option.some.injEq, Prod.mk.injEq] at h'
              have := R0.lt _ _ _ _ h
              omega
            · rw [hΓ1 i h1] at h
              rw [hΓ1 i' h2] at h'
              exact R0.inj _ _ _ _ _ _ _ h h'
        dom := fun i x hi => by
          by_cases hii : i = s.H.next
          · simp only [H1]; rw [if_pos hii]; exact ⟨_, rfl⟩
          · rw [hΓ1 i hii] at hi
            rw [hH1 i hii]; exact R0.dom i x hi
        lt := fun i b base m hi => by
          by_cases hii : i = s.H.next
          · simp only [Γ1] at hi
            rw [if_pos hii] at hi
            simp only [Option.some.injEq, Prod.mk.injEq] at hi
            omega
          · rw [hΓ1 i hii] at hi
            have := R0.lt _ _ _ _ hi
            omega
        next := fun i y hi => by
          by_cases hii : i = s.H.next
          · show i < s.H.next + 1; omega
          · rw [hH1 i hii] at hi
            have := R0.next i y hi
            show i < s.H.next + 1; omega
        glob := fun g cells h => tr _ _ (R0.glob g cells h)
        gsz := R0.gszEvo E2 }
    have E3 : Evo Γ s.H w Γ1 H1 w1 := E0.trans (Nat.le_refl _) E2
    generalize hcg : a.eval g = cg at he
    cases he with
    | @clo _ _ _ fs cs hfs hcs hf hc =>
      obtain ⟨⟨fn', hfn', hb', hname'⟩, hcall⟩ := hcall
      have hyld : RelV P Γ1 H1 w1 (.yld s.H.next) (.func (.yield w0.heap.size) #[] #[]) :=
        .yld ⟨Nat.lt_succ_self _, rfl, by simp [H1], fun st pend n env ps asg body hgi => ⟨w0.heap.size, by simp [Γ1], rfl⟩, fun es hgi => by simp [H1] at hgi⟩
      have hargs : RelL P Γ1 H1 w1 (first ++ [.yld s.H.next] ++ cap) (fs.toArray ++ #[.func (.yield w0.heap.size) #[] #[]] ++ cs.toArray) := by
        refine relL_append (relL_append ⟨by simpa using hfs, fun i h1 h2 => ?_⟩ ⟨rfl, fun i h1 h2 => ?_⟩) ⟨by simpa using hcs, fun i h1 h2 => ?_⟩
        · exact (by simpa using hf i h1 (by simpa using h2) : RelV P Γ s.H w first[i] (fs.toArray[i])).evo E3 hn1
        · have : i = 0 := by simp at h1; omega
          subst this
          exact hyld
        · exact (by simpa using hc i h1 (by simpa using h2) : RelV P Γ s.H w cap[i] (cs.toArray[i])).evo E3 hn1
      refine ⟨w0.heap.size, mark, w1, { target := .fn (.func f) cs.toArray, args := fs.toArray ++ #[.func (.yield w0.heap.size) #[] #[]] }, w1, f, fs.toArray ++ #[.func (.yield w0.heap.size) #[] #[]] ++ cs.toArray, w1, hent, ?_, fun _ _ => trivial, ?_, fun hc => by simp [Fence.wide] at hc, ?_⟩
      · have hm : Array.map a.eval #[Operand.const (.func (.yield w0.heap.size) #[] #[])] = #[.func (.yield w0.heap.size) #[] #[]] := by simp [Act.eval]
        unfold resolve
        simp only [hcg, hm]
        rfl
      · show (callFunc f (fs.toArray ++ #[.func (.yield w0.heap.size) #[] #[]] ++ cs.toArray)).run P w1 = _
        unfold callFunc
        rw [run_bind_ok (run_program P w1)]
        simp only [hfn']
        rw [hname', hb']
        rfl
      · have h4 : CallsIn (fenceOf rb) 0 P f (fs.toArray ++ #[.func (.yield w0.heap.size) #[] #[]] ++ cs.toArray) w1 _ := hcall Γ1 w1 _ R2 hargs
        refine h4.mono ?_
        rintro e w3 ⟨r, H', Γ', hend, hk, R', E', hn'⟩
        have E5 : Evo Γ s.H w Γ' H' w3 := E3.trans hn1 E'
        have hn5 : s.H.next ≤ H'.next := Nat.le_trans hn1 hn'
        have mkS : ∀ (H'' : AHeap) (w4 : World), RelH P G Γ' H'' w4 → Evo Γ s.H w Γ' H'' w4 → Evo Γ s.H w0 Γ' H'' w4 → s.H.next ≤ H''.next → RelS P G n wb Γ' ⟨s.ρ, H''⟩ { a with defers := mark ++ a.defers } w4 :=
          fun H'' w4 R'' E'' E0'' hn'' => ⟨hs.size, fun t => (hs.env t).evo E'' hn'', R'', hdef.evo E0'', Nat.le_trans hs.low E''.size⟩
        cases e with
        | returned cv =>
          cases r with
          | panic => exact hend.elim
          | ret v =>
            obtain ⟨hri, pb, hpb, hj⟩ := hk
            obtain ⟨st, pend, n2, env2, ps2, asg2, body2, hgl, hbusy, rfl⟩ := endA_some hpb
            obtain ⟨b, r2, hΓb, hb, l1, l2, l3, l4, l5, l6, l7, lset⟩ := loop_set R' hgl
            obtain ⟨R6, E6⟩ := lset .exhausted r2.pending
            have hbl : b = w0.heap.size := by
              obtain ⟨x, hx, hle⟩ := E'.live s.H.next (Nat.lt_succ_self _) (Nat.lt_of_lt_of_le (Nat.lt_succ_self _) hn') _ hgl
              have hx' : H1.get s.H.next = some (.loop .ready none n s.ρ ps asg body) := by simp [H1]
              rw [hx'] at hx
              cases hx
              have h1 := hle.1
              rw [hΓb] at h1
              simp only [Γ1, if_true, Option.some.injEq, Prod.mk.injEq] at h1
              exact h1.1
            subst hbl
            have hend' := run_endLoop (P := P) hb (by rw [l1]; exact hbusy)
            rw [l2] at R6 E6 hend'
            refine ⟨pend, _, hend', ?_⟩
            have E7 := E5.trans hn5 E6
            have hS := mkS _ _ R6 E7 ((E2.trans hn1 E').trans hn5 E6) hn5
            have hri' : RdIn (H'.upd s.H.next (.loop .exhausted pend n2 env2 ps2 asg2 body2)) rd := by
              cases rd with
              | none => trivial
              | some i =>
                obtain ⟨st3, pend3, n3, env3, ps3, asg3, body3, h3⟩ := hri
                by_cases hii : i = s.H.next
                · exact ⟨_, _, _, _, _, _, _, by rw [upd_get, if_pos hii]⟩
                · exact ⟨_, _, _, _, _, _, _, by rw [upd_get, if_neg hii]; exact h3⟩
            have hR := hr.evo E7 hn5 hs.heap hri'
            have post : ∀ (e : Exit) (x : AX), ExitRel e x → Q x ⟨s.ρ, H'.upd s.H.next (.loop .exhausted pend n2 env2 ps2 asg2 body2)⟩ → WPost P G n wb rd rb (wr (.rangeFunc g ps asg body)) Γ s.H a w Q e { a with defers := mark ++ a.defers } _ :=
              fun e x hx hq => ⟨x, _, Γ', hx, hq, hS, E7, hn5, hR, fun t _ => rfl⟩
            simp only at hj
            cases pend with
            | none => exact post .normal .normal trivial hj
            | some c =>
              cases c with
              | ret => exact wpIn_ret (post .ret .ret trivial hj)
              | exit i => exact wpIn_exit (post (.exit i) (.exit i) rfl hj)
              | goto i => exact wpIn_goto (post (.goto i) (.goto i) rfl hj)
              | _ => exact hj.elim
        | panicked chain =>
          cases r with
          | ret v => exact hend.elim
          | panic =>
            exact ⟨.panic, _, Γ', hend, hk.2, mkS _ _ R' E5 (E2.trans hn1 E') hn5, E5, hn5, hr.evo E5 hn5 hs.heap hk.1, fun t _ => rfl⟩
        | outgrown => cases r <;> exact hend.elim
  cases rb with
  | none =>
    let w0 : World := { w with heap := w.heap.push (.deferred (some [])) }
    have hk0 : ∀ b, b < w.heap.size → w0.heap[b]? = w.heap[b]? := fun b hb => by
      show (w.heap.push _)[b]? = _
      rw [Array.getElem?_push, if_neg (by omega)]
    obtain ⟨E0, R0⟩ := grow_evo (w := w) (w' := w0) rfl rfl rfl (by simp [w0]) hk0 (fun a _ => frozen_push (o := .deferred (some [])) rfl (fun _ _ _ h => by cases h) a) hs.heap
    refine key w0 [{ target := .collected w.heap.size, args := #[] }] w.heap.size E0 R0 ?_ _ rfl rfl
    obtain ⟨m, hm, hmk⟩ := hs.defers
    refine ⟨{ target := .collected w.heap.size, args := #[] } :: m, by rw [hm]; rfl, fun d hd => ?_, ?_⟩
    · simp only [List.mem_cons] at hd
      rcases hd with rfl | hd
      · refine ⟨w.heap.size, rfl, hs.low, ?_, by simp [w0]⟩
        rintro ⟨i, base, m, hi⟩
        have := hs.heap.lt _ _ _ _ hi
        omega
      · obtain ⟨r, h1, h2, h3⟩ := hmk.1 d hd
        exact ⟨r, h1, h2, h3.evo E0⟩
    · refine List.pairwise_cons.2 ⟨fun d hd => ?_, hmk.2⟩
      obtain ⟨r, h1, h2, h3⟩ := hmk.1 d hd
      rw [h1]
      intro he
      simp only [Target.collected.injEq] at he
      have h4 := h3.2
      rw [← he, Array.getElem?_eq_none (Nat.le_refl _)] at h4
      cases h4
  | some b0 =>
    have hlr : ∃ r, w.heap[b0]? = some (.loop r) := by
      cases rd with
      | none => cases hr
      | some id =>
        obtain ⟨b, st, pend, n', env, ps', asg', body', h1, h2, h3⟩ := hr
        obtain ⟨b', r, h4, h5, _⟩ := hs.heap.loop _ _ _ _ _ _ _ _ h3
        rw [h2] at h4
        simp only [Option.some.injEq, Prod.mk.injEq] at h4 h1
        rw [h1, h4.1]
        exact ⟨r, h5⟩
    obtain ⟨r, hlr⟩ := hlr
    refine key w [] r.defers (Evo.refl _ _ _) hs.heap (by simpa using hs.defers) _ rfl ?_
    show (Instr.enterLoop fn a.tmps ps asg body (some b0)).run P w = _
    unfold Instr.enterLoop
    simp only [bind_assoc, pure_bind]
    rw [run_bind_ok (run_getLoop hlr)]
    rfl
end

end Go.Hx
namespace Go.Hx
variable {P : Program} {G : Nat → Option (List AVal)} {Γ Γ' : Gam} {H H' : AHeap} {w w' : World}

def noH : AHeap := ⟨fun _ => none, 0⟩

inductive Fresh (H : AHeap) : AVal → AVal → Prop
  | lit (v : Value) : Fresh H (.lit v) (.lit v)
  | nil : Fresh H (.lit (.slice none 0 0)) (.vec 0 [])
  | vec0 : Fresh H (.vec 0 []) (.vec 0 [])
  | agg {c c' : List AVal} (hl : c'.length = c.length) (h : ∀ i (h : i < c.length) (h' : i < c'.length), Fresh H c[i] c'[i]) : Fresh H (.agg c) (.agg c')
  | tup {c c' : List AVal} (hl : c'.length = c.length) (h : ∀ i (h : i < c.length) (h' : i < c'.length), Fresh H c[i] c'[i]) : Fresh H (.tup c) (.tup c')
  | own {id g o l z : Nat} {e : TypeId} {cells c' : List AVal} (hg : H.get id = some (.arr g e cells)) (hl : c'.length = l * z)
      (h : ∀ i (h : i < l * z) (h2 : o + i < cells.length) (h' : i < c'.length), Fresh H cells[o + i] c'[i]) : Fresh H (.own id g o l z) (.vec l c')

theorem Fresh.sound (R : RelH P G Γ' H' w) {N : Nat} (h1 : ∀ b, Γ'.owns b → N ≤ b) (h2 : ∀ b, Γ.owns b → b < N) {v v' : AVal} (hf : Fresh H' v v') : ∀ {cv : Value}, RelV P Γ' H' w v cv → RelV P Γ H w v' cv := by
  induction hf with
  | lit v => intro cv h; cases h; exact .lit _
  | nil => intro cv h; cases h; exact .vec0 none 0
  | vec0 =>
    intro cv h
    cases h with
    | vec0 a cap => exact .vec0 a cap
    | vec hb hlt hlen hcs hcell hrel => exact .vec0 _ _
  | agg hl hc ih =>
    intro cv h
    cases h with
    | agg hcs hrel => exact .agg (by omega) fun i a b => ih i (by omega) a (hrel i (by omega) b)
  | tup hl hc ih =>
    intro cv h
    cases h with
    | tup hcs hrel => exact .tup (by omega) fun i a b => ih i (by omega) a (hrel i (by omega) b)
  | @own id g o l z e cells c' hg hl hc ih =>
    intro cv h
    cases h with
    | own h =>
      obtain ⟨_, _, h0, h3⟩ := h
      have h4 := (h3 _ _ _ hg).2 rfl
      have harr := R.arr id g e cells hg
      cases hΓ : Γ' id with
      | none =>
        rw [hΓ] at h4
        obtain ⟨rfl, rfl, rfl⟩ := h4
        have : c' = [] := List.eq_nil_of_length_eq_zero (by simpa using hl)
        subst this
        exact .vec0 _ _
      | some y =>
        obtain ⟨b, base, n⟩ := y
        rw [hΓ] at h4 harr
        obtain ⟨a, cap, rfl, hcap, hoff, hor⟩ := h4
        obtain ⟨c, a1, a2, a3, a4⟩ := harr
        rcases hor with ⟨rfl, hn⟩ | ⟨rfl, rfl⟩
        · have hcell : ∀ i, i < l * z → ∃ cv, c[base + (o + i)]? = some cv ∧ ∀ (h : o + i < cells.length), RelV P Γ' H' w cells[o + i] cv := fun i hi => by
            obtain ⟨cv, b1, b2⟩ := a4 (o + i) (by omega)
            exact ⟨cv, b1, fun _ => b2⟩
          let cs : List Value := (List.range (l * z)).map fun i => (c[base + (o + i)]?).getD undef
          have hcs : cs.length = c'.length := by simp [cs, hl]
          refine .vec (cs := cs) (fun ho => ?_) (R.lt _ _ _ _ hΓ) hcap hcs (fun i hi => ?_) fun i hi hi' => ?_
          · have := h2 b ho
            have := h1 b ⟨id, base, n, hΓ⟩
            omega
          · have hi2 : i < l * z := by rw [hcs, hl] at hi; exact hi
            obtain ⟨cv, b1, _⟩ := hcell i hi2
            have : cs[i] = cv := by simp [cs, b1]
            rw [this]
            have he : base + o + i = base + (o + i) := by omega
            simp only [World.cell?, a1, he]
            exact b1
          · have hi2 : i < l * z := by rw [hl] at hi; exact hi
            obtain ⟨cv, b1, b2⟩ := hcell i hi2
            have : cs[i] = cv := by simp [cs, b1]
            rw [this]
            exact ih i hi2 (by omega) hi (b2 (by omega))
        · have : c' = [] := List.eq_nil_of_length_eq_zero (by simpa using hl)
          subst this
          exact .vec0 _ _

theorem fzH_all (H : AHeap) : FzH (fun _ => True) H noH := ⟨fun _ _ => rfl, fun _ _ h => absurd trivial h, fun _ h => absurd trivial h⟩

theorem gam_all (b : Nat) : ¬ (gamF (fun _ => True) Γ).owns b := by
  rintro ⟨id, base, n, h⟩
  exact (gamF_some h).1 trivial

def GRes (o : Option AVal) (r : ARes) (H' : AHeap) : Prop := match o with
  | some v' => ∃ v, r = .ret v ∧ Fresh H' v v'
  | none => r = .panic
def outR : Option AVal → ARes
  | some v => .ret v
  | none => .panic

theorem ACall.frameR {f : FuncId} {args args' : List AVal} {o : Option AVal} (hG : GOk G) (hl : args'.length = args.length) (hv : ∀ i (h : i < args.length) (h' : i < args'.length), Fz (fun _ => True) H 0 args[i] args'[i])
    (h : ACall P G f args' noH (GRes o)) : ACall P G f args H fun r H' => r = outR o ∧ H' = H := by
  refine ⟨h.1, fun Γ w cargs R hr => ?_⟩
  have F := fzH_all H
  have R0 : RelH P G (gamF (fun _ => True) Γ) noH w := F.rel hG R
  have hr0 : RelL P (gamF (fun _ => True) Γ) noH w args' cargs := ⟨by have := hr.1; omega, fun i h1 h2 => (hv i (by omega) h1).sound R F (hr.2 i (by omega) h2)⟩
  refine (h.2 _ w cargs R0 hr0).mono ?_
  rintro e w' ⟨r, H', Γ', hend, hg, R', E, hn⟩
  have hown : ∀ b, Γ'.owns b → w.heap.size ≤ b := fun b hb => Nat.le_of_not_lt fun hlt => (E.keep b hlt (gam_all b)).2 hb
  have hown2 : ∀ b, Γ.owns b → b < w.heap.size := fun b ⟨id, base, n, hb⟩ => R.lt _ _ _ _ hb
  obtain ⟨E2, R2⟩ := grow_evo E.os E.tape E.output E.size (fun b hb => (E.keep b hb (gam_all b)).1) E.frz R
  refine ⟨outR o, H, Γ, ?_, ⟨rfl, rfl⟩, R2, E2, Nat.le_refl _⟩
  cases o with
  | some v' =>
    obtain ⟨v, rfl, hf⟩ := hg
    cases e with
    | returned cv => exact hf.sound R' hown hown2 hend
    | _ => exact hend.elim
  | none =>
    have hg' : r = .panic := hg
    subst hg'
    cases e with
    | panicked chain => exact hend
    | _ => exact hend.elim

theorem ACall.frame {f : FuncId} {args args' : List AVal} {v' : AVal} (hG : GOk G) (hl : args'.length = args.length) (hv : ∀ i (h : i < args.length) (h' : i < args'.length), Fz (fun _ => True) H 0 args[i] args'[i])
    (h : ACall P G f args' noH fun r H' => ∃ v, r = .ret v ∧ Fresh H' v v') : ACall P G f args H fun r H' => r = .ret v' ∧ H' = H := ACall.frameR (o := some v') hG hl hv h
end Go.Hx
namespace Go.Hx.Ev
open Go.Hx
variable {P : Program} {G : Nat → Option (List AVal)} {Γ Γ' : Gam} {H H' : AHeap} {w w' : World}

def effE (e g : Nat → Option Blk) : Nat → Option Blk := fun j => match e j with
  | some b => some b
  | none => g j
def oneE (e : Option (Nat × Blk)) : Nat → Option Blk := fun j => match e with
  | some (k, b) => if j = k then some b else none
  | none => none
theorem effE_one (e : Option (Nat × Blk)) (g : Nat → Option Blk) : effE (oneE e) g = effGet e g := by
  funext j
  cases e with
  | none => rfl
  | some kb =>
    obtain ⟨k, b⟩ := kb
    simp only [effE, oneE, effGet]
    by_cases h : j = k
    · rw [if_pos h, if_pos h]
    · rw [if_neg h, if_neg h]

def ECall (P : Program) (G : Nat → Option (List AVal)) (fv : AVal) (args : List AVal) (H : AHeap) (v : AVal) (e : Nat → Option Blk) (k : Nat) (f : FP) : Prop :=
  (∀ r, r ∈ f.rs → r < H.next) ∧ (∀ r, (e r).isSome = true → r ∈ f.eff ∧ ((r ∈ f.rs ∧ ∃ g t c, H.get r = some (.arr g t c)) ∨ (H.next ≤ r ∧ r < H.next + k))) ∧ (∀ c, c < k → (e (H.next + c)).isSome = true) ∧
  ∀ H2 : AHeap, (∀ r, r ∈ f.rs → H2.get r = H.get r) → (∀ c, c < k → H2.get (H.next + c) = some .rsv) → H.next + k ≤ H2.next → AApply P G fv args H2 fun r H3 => r = .ret v ∧ H3 = ⟨effE e H2.get, H2.next⟩

def opD (P : Program) (G : Nat → Option (List AVal)) (o : Oper) (K : FP → St → Prop) (s : St) : Prop :=
  match o.op with
  | .call { callee := .value fv, args, .. } => ∃ v e k f, ECall P G (evA G s.ρ fv) (args.toList.map (evA G s.ρ)) s.H v e k f ∧ K f ⟨putA s.ρ o.dst v, ⟨effE e s.H.get, s.H.next + k⟩⟩
  | op => wpo (opA P G s.ρ s.H s.H.next op) fun vH => K (fpO P G s.ρ s.H.next op) ⟨putA s.ρ o.dst vH.1, vH.2⟩

def opsD (P : Program) (G : Nat → Option (List AVal)) (all : Array Oper) (tail : St → Prop) : List Nat → Nat → List (Nat × FP) → List Oper → St → Prop
  | b :: bs, i, acc, o :: rest, s => wpo (wantA all s.ρ o) fun t => if t = true then opD P G o (fun f s' => ApartA b f acc ∧ opsD P G all tail bs (i + 1) (addF i f acc) rest s') s
      else opsD P G all tail bs (i + 1) acc rest ⟨putA s.ρ o.dst (.lit undef), s.H⟩
  | _, _, _, [], s => tail s
  | [], _, _, _ :: _, _ => False

structure Dt where
  v : AVal
  e : Nat → Option Blk
  al : Nat
  f : FP

def envAt (all : Array Oper) (d : Nat → Dt) (ρ0 : Env) : Nat → (Nat → Bool) → Env
  | 0, _ => ρ0
  | n + 1, D => if D n then putA (envAt all d ρ0 n D) (dstAt all n) (d n).v else envAt all d ρ0 n D

def getAt (d : Nat → Dt) (g0 : Nat → Option Blk) : Nat → (Nat → Bool) → Nat → Option Blk
  | 0, _ => g0
  | n + 1, D => if D n then effE (d n).e (getAt d g0 n D) else getAt d g0 n D

def nal (d : Nat → Dt) : Nat → Nat
  | 0 => 0
  | n + 1 => nal d n + (d n).al

def tgt (x : Dt) (r : Nat) : Prop := (x.e r).isSome = true

theorem effE_ne {e g : Nat → Option Blk} {r : Nat} (h : ¬ (e r).isSome = true) : effE e g r = g r := by
  unfold effE
  cases he : e r with
  | none => rfl
  | some b => rw [he] at h; exact absurd rfl h
theorem effE_hit {e g g' : Nat → Option Blk} {r : Nat} (h : (e r).isSome = true) : effE e g r = effE e g' r := by
  unfold effE
  cases he : e r with
  | none => rw [he] at h; cases h
  | some b => rfl
theorem effE_congr {e g g' : Nat → Option Blk} {r : Nat} (h : g r = g' r) : effE e g r = effE e g' r := by
  unfold effE; rw [h]
theorem effE_comm {e e' : Nat → Option Blk} {g : Nat → Option Blk} (h : ∀ r, (e r).isSome = true → ¬ (e' r).isSome = true) : effE e' (effE e g) = effE e (effE e' g) := by
  funext r
  by_cases hx : (e r).isSome = true
  · rw [effE_ne (h r hx)]
    exact effE_hit hx
  · rw [effE_ne (g := effE e' g) hx]
    exact effE_congr (effE_ne hx)

section
variable {all : Array Oper} {d d' : Nat → Dt} {ρ0 : Env} {g0 g0' : Nat → Option Blk} {D D' : Nat → Bool}

theorem envAt_agree {t : Tmp} : ∀ {n : Nat}, (∀ j, j < n → dstAt all j = some t → D j = D' j) → envAt all d ρ0 n D t = envAt all d ρ0 n D' t := by
  intro n
  induction n with
  | zero => intro _; rfl
  | succ n ih =>
    intro h
    have h0 := ih fun j hj => h j (by omega)
    simp only [envAt]
    by_cases hd : dstAt all n = some t
    · rw [h n (by omega) hd]
      split
      · exact putA_congr h0
      · exact h0
    · have : ∀ (b : Bool) (ρ : Env), (if b = true then putA ρ (dstAt all n) (d n).v else ρ) t = ρ t := by
        intro b ρ
        split
        · exact putA_ne hd
        · rfl
      rw [this, this]
      exact h0

theorem envAt_cut {m : Nat} : ∀ {n : Nat}, m ≤ n → envAt all d ρ0 n (fun j => decide (j < m)) = envAt all d ρ0 m fun _ => true := by
  have low : ∀ k, k ≤ m → envAt all d ρ0 k (fun j => decide (j < m)) = envAt all d ρ0 k fun _ => true := by
    intro k
    induction k with
    | zero => intro _; rfl
    | succ k ih =>
      intro hk
      simp only [envAt]
      rw [ih (by omega), if_pos (by simp; omega)]
      simp
  intro n
  induction n with
  | zero =>
    intro hm
    obtain rfl : m = 0 := by omega
    exact low 0 (by omega)
  | succ n ih =>
    intro hm
    by_cases h : m = n + 1
    · subst h; exact low (n + 1) (by omega)
    · simp only [envAt]
      rw [if_neg (by simp; omega)]
      exact ih (by omega)

theorem getAt_agree {r : Nat} : ∀ {n : Nat}, (∀ j, j < n → tgt (d j) r → D j = D' j) → getAt d g0 n D r = getAt d g0 n D' r := by
  intro n
  induction n with
  | zero => intro _; rfl
  | succ n ih =>
    intro h
    have h0 := ih fun j hj => h j (by omega)
    simp only [getAt]
    by_cases hd : tgt (d n) r
    · rw [h n (by omega) hd]
      split
      · exact effE_congr h0
      · exact h0
    · have : ∀ (b : Bool) (g : Nat → Option Blk), (if b = true then effE (d n).e g else g) r = g r := by
        intro b g
        split
        · exact effE_ne hd
        · rfl
      rw [this, this]
      exact h0

theorem getAt_cut {m : Nat} : ∀ {n : Nat}, m ≤ n → getAt d g0 n (fun j => decide (j < m)) = getAt d g0 m fun _ => true := by
  have low : ∀ k, k ≤ m → getAt d g0 k (fun j => decide (j < m)) = getAt d g0 k fun _ => true := by
    intro k
    induction k with
    | zero => intro _; rfl
    | succ k ih =>
      intro hk
      simp only [getAt]
      rw [ih (by omega), if_pos (by simp; omega)]
      simp
  intro n
  induction n with
  | zero =>
    intro hm
    obtain rfl : m = 0 := by omega
    exact low 0 (by omega)
  | succ n ih =>
    intro hm
    by_cases h : m = n + 1
    · subst h; exact low (n + 1) (by omega)
    · simp only [getAt]
      rw [if_neg (by simp; omega)]
      exact ih (by omega)

theorem getAt_base {r : Nat} : ∀ {n : Nat}, (g0 r = g0' r ∨ ∃ j, j < n ∧ D j = true ∧ tgt (d j) r) → getAt d g0 n D r = getAt d g0' n D r := by
  intro n
  induction n with
  | zero =>
    rintro (h | ⟨j, hj, _⟩)
    · exact h
    · omega
  | succ n ih =>
    intro h
    simp only [getAt]
    by_cases hD : D n = true
    · rw [if_pos hD, if_pos hD]
      by_cases ht : tgt (d n) r
      · exact effE_hit ht
      · refine effE_congr (ih ?_)
        rcases h with h | ⟨j, hj, h1, h2⟩
        · exact .inl h
        · by_cases hjn : j = n
          · subst hjn; exact absurd h2 ht
          · exact .inr ⟨j, by omega, h1, h2⟩
    · rw [if_neg hD, if_neg hD]
      refine ih ?_
      rcases h with h | ⟨j, hj, h1, h2⟩
      · exact .inl h
      · by_cases hjn : j = n
        · subst hjn; exact absurd h1 hD
        · exact .inr ⟨j, by omega, h1, h2⟩

theorem getAt_none {r : Nat} : ∀ {n : Nat}, (∀ j, j < n → D j = true → ¬ tgt (d j) r) → getAt d g0 n D r = g0 r := by
  intro n
  induction n with
  | zero => intro _; rfl
  | succ n ih =>
    intro h
    simp only [getAt]
    split
    · rename_i hD
      rw [effE_ne (h n (by omega) hD)]
      exact ih fun j hj => h j (by omega)
    · exact ih fun j hj => h j (by omega)

def withI (D : Nat → Bool) (i : Nat) : Nat → Bool := fun j => if j = i then true else D j

theorem envAt_with {i : Nat} (hD : D i = false) : ∀ {n : Nat}, i < n → (∀ j, i < j → j < n → D j = true → ∀ t, dstAt all i = some t → dstAt all j ≠ some t) →
    envAt all d ρ0 n (withI D i) = putA (envAt all d ρ0 n D) (dstAt all i) (d i).v := by
  intro n
  induction n with
  | zero => intro h; omega
  | succ n ih =>
    intro hi h
    by_cases hin : i = n
    · subst hin
      have h0 : envAt all d ρ0 i (withI D i) = envAt all d ρ0 i D := funext fun t => envAt_agree fun j hj _ => by simp [withI, Nat.ne_of_lt hj]
      simp only [envAt]
      rw [if_pos (by simp [withI]), if_neg (by simp [hD]), h0]
    · have hw : withI D i n = D n := by simp [withI, Ne.symm hin]
      have h0 := ih (by omega) fun j h1 h2 => h j h1 (by omega)
      simp only [envAt, hw]
      split
      · rename_i hDn
        rw [h0]
        exact putA_comm (h n (by omega) (by omega) hDn)
      · exact h0

theorem getAt_with {i : Nat} (hD : D i = false) : ∀ {n : Nat}, i < n → (∀ j, i < j → j < n → D j = true → ∀ t, tgt (d i) t → ¬ tgt (d j) t) →
    getAt d g0 n (withI D i) = effE (d i).e (getAt d g0 n D) := by
  intro n
  induction n with
  | zero => intro h; omega
  | succ n ih =>
    intro hi h
    by_cases hin : i = n
    · subst hin
      have h0 : getAt d g0 i (withI D i) = getAt d g0 i D := funext fun t => getAt_agree fun j hj _ => by simp [withI, Nat.ne_of_lt hj]
      simp only [getAt]
      rw [if_pos (by simp [withI]), if_neg (by simp [hD]), h0]
    · have hw : withI D i n = D n := by simp [withI, Ne.symm hin]
      have h0 := ih (by omega) fun j h1 h2 => h j h1 (by omega)
      simp only [getAt, hw]
      split
      · rename_i hDn
        rw [h0]
        exact effE_comm (h n (by omega) (by omega) hDn)
      · exact h0

theorem nal_mono {m n : Nat} (h : m ≤ n) : nal d m ≤ nal d n := by
  induction n with
  | zero =>
    have : m = 0 := by omega
    subst this; exact Nat.le_refl _
  | succ n ih =>
    by_cases hm : m = n + 1
    · subst hm; exact Nat.le_refl _
    · exact Nat.le_trans (ih (by omega)) (by simp [nal])

theorem nal_hit {n c : Nat} (h : c < nal d n) : ∃ j, j < n ∧ nal d j ≤ c ∧ c < nal d j + (d j).al := by
  induction n with
  | zero => simp [nal] at h
  | succ n ih =>
    by_cases hc : c < nal d n
    · obtain ⟨j, h1, h2⟩ := ih hc
      exact ⟨j, by omega, h2⟩
    · simp only [nal] at h
      exact ⟨n, by omega, by omega, by omega⟩

theorem nal_lt {i n : Nat} (h : i < n) : nal d i + (d i).al ≤ nal d n := by
  have := nal_mono (d := d) (m := i + 1) (n := n) h
  simpa only [nal] using this

theorem envAt_below {n : Nat} (h : ∀ j, j < n → d j = d' j) : envAt all d ρ0 n D = envAt all d' ρ0 n D := by
  induction n with
  | zero => rfl
  | succ n ih => simp only [envAt]; rw [ih fun j hj => h j (by omega), h n (by omega)]
theorem getAt_below {n : Nat} (h : ∀ j, j < n → d j = d' j) : getAt d g0 n D = getAt d' g0 n D := by
  induction n with
  | zero => rfl
  | succ n ih => simp only [getAt]; rw [ih fun j hj => h j (by omega), h n (by omega)]
theorem nal_below {n : Nat} (h : ∀ j, j < n → d j = d' j) : nal d n = nal d' n := by
  induction n with
  | zero => rfl
  | succ n ih => simp only [nal]; rw [ih fun j hj => h j (by omega), h n (by omega)]

end



def ExecOk (P : Program) (G : Nat → Option (List AVal)) (all : Array Oper) (o : Oper) (id : Nat) (s s' : St) : Prop :=
  (wantA all s.ρ o = some false ∧ s' = ⟨putA s.ρ o.dst (.lit undef), s.H⟩) ∨
  (wantA all s.ρ o = some true ∧ ∃ v, s'.ρ = putA s.ρ o.dst v ∧
    (opA P G s.ρ s.H id o.op = some (v, s'.H) ∨
     ∃ fv args ats, o.op = .call ⟨.value fv, args, ats⟩ ∧ (∀ id st pend m env ps asg body, s.H.get id = some (.loop st pend m env ps asg body) → s'.H.get id = s.H.get id) ∧ AApply P G (evA G s.ρ fv) (args.toList.map (evA G s.ρ)) s.H fun r H3 => r = .ret v ∧ H3 = s'.H))

theorem execOk_sound {n : Nat} {wb : Base} {rd rb : Option Nat} {all : Array Oper} {o : Oper} {id i : Nat} {s s' : St} {a : Act} {next : Act → World → Prop} {Q' : Exit → Act → World → Prop} (ho : all[i]? = some o) (hd : dstOk n o = true)
    (hs : RelS P G n wb Γ s a w) (hr : RdOk Γ s.H rd rb) (h : ExecOk P G all o id s s')
    (hnext : ∀ Γ' a' w', RelS P G n wb Γ' s' a' w' → Evo Γ s.H w Γ' s'.H w' → s.H.next ≤ s'.H.next → RdOk Γ' s'.H rd rb → (∃ cv, a' = a.put o.dst cv) → next a' w') :
    wpOpIn (fenceOf rb) 0 P all Q' i next a w := by
  have hdst : ∀ d, o.dst = some d → d < n := by
    intro d hd'
    unfold dstOk at hd
    rw [hd'] at hd
    simpa using hd
  unfold wpOpIn
  rw [ho]
  simp only
  rcases h with ⟨hw, rfl⟩ | ⟨hw, v, hρ, h⟩
  · rw [want_sound hs hw]
    simp only [Bool.false_eq_true, if_false]
    refine ⟨fun _ _ => trivial, ?_⟩
    have hs' := put_rel (v := .lit undef) (cv := undef) hs hdst (Evo.refl Γ s.H w) (Nat.le_refl _) hs.heap (.lit _)
    exact hnext Γ _ w hs' (Evo.refl _ _ _) (Nat.le_refl _) hr ⟨_, rfl⟩
  · rw [want_sound hs hw]
    simp only [if_true]
    obtain ⟨ρ', H'⟩ := s'
    simp only at hρ
    subst hρ
    refine ⟨fun _ _ => trivial, ?_⟩
    rcases h with hop | ⟨fv, args, ats, hop, hH, hap⟩
    · simp only at hop
      rw [Oper.semAt_eq _ _ _ (fun c hc => by rw [hc] at hop; simp [opA] at hop)]
      obtain ⟨nx, cv, Γ', w', hrun, hnx, E, hn, R, hv⟩ := opA_sound hs.heap (eval_rel hs) hop
      rw [hrun]
      have hri := rdIn_of_live hr (opA_loops hs.heap hop)
      have hs' := put_rel hs hdst E hn R hv
      have hr' := hr.evo E hn hs.heap hri
      rcases hnx with rfl | ⟨rfl, rfl⟩
      · exact hnext Γ' _ w' hs' E hn hr' ⟨_, rfl⟩
      · exact hnext Γ' _ w' hs' E hn hr' ⟨_, rfl⟩
    · rw [Oper.semAt_eq _ _ _ (fun c hc => by rw [hc] at hop; cases hop)]
      obtain ⟨d, h1, h2⟩ := hap Γ w (a.eval fv) (args.map a.eval) hs.heap (eval_rel hs fv) ⟨by simp, fun i h1 h2 => by simp only [List.getElem_map, Array.getElem_map, Array.getElem_toList]; exact eval_rel hs _⟩
      have hex : (execOp a.eval o).run P w = (invoke d.target d.args).run P w := by
        unfold execOp
        simp only [hop]
        unfold resolve
        simp only
        rw [run_bind_ok h1]
      have hri : RdIn H' rd := by
        cases rd with
        | none => trivial
        | some id =>
          obtain ⟨b, st, pend, n, env, ps, asg, body, _, _, h3⟩ := hr
          exact ⟨_, _, _, _, _, _, _, (hH _ _ _ _ _ _ _ _ h3).trans h3⟩
      have cont : ∀ e w', CPost P G Γ s.H w (fun r H3 => r = .ret v ∧ H3 = H') e w' → (match e with
          | .returned v => next (a.put o.dst v) w'
          | .panicked chain => Q' (.panic chain) a w'
          | .outgrown => LetsOut Q') := by
        rintro e w' ⟨r, H4, Γ', hend, ⟨rfl, rfl⟩, R, E, hn⟩
        have hr' := hr.evo E hn hs.heap hri
        cases e with
        | returned cv => exact hnext Γ' _ w' (put_rel hs hdst E hn R hend) E hn hr' ⟨_, rfl⟩
        | panicked chain => exact hend.elim
        | outgrown => exact hend.elim
      rw [hex]
      rcases h2 with ⟨f, as, h3, h4⟩ | ⟨l, f, tm, asg, body, h3, h4⟩ | ⟨cv, w', h3, h4⟩
      · rw [h3]
        refine ⟨fun hc => by simp [Fence.wide] at hc, ?_⟩
        have h4' : CallsIn (fenceOf rb) 0 P f as w _ := h4
        refine h4'.mono ?_
        intro e w' hp
        have := cont e w' hp
        cases e <;> exact this
      · rw [h3]
        refine ⟨fun hc => by simp [Fence.wide] at hc, ?_⟩
        have h4' : RoundIn (fenceOf rb) 0 P l f tm asg body w _ := h4
        refine h4'.mono ?_
        intro e w' hp
        have := cont e w' hp
        cases e <;> exact this
      · rw [h3]
        exact cont (.returned cv) w' h4

def canonH (d : Nat → Dt) (H0 : AHeap) (m : Nat) : AHeap := ⟨getAt d H0.get m fun _ => true, H0.next + nal d m⟩
def canon (all : Array Oper) (d : Nat → Dt) (s0 : St) (m : Nat) : St := ⟨envAt all d s0.ρ m fun _ => true, canonH d s0.H m⟩

structure GoodAt (P : Program) (G : Nat → Option (List AVal)) (all : Array Oper) (bs : List Nat) (s0 : St) (d : Nat → Dt) (i : Nat) : Prop where
  step : ∀ o, all[i]? = some o → ∀ ρ2 H2, (∀ t, t ∈ o.looksAt all → ρ2 t = (canon all d s0 i).ρ t) → (∀ r, r ∈ (d i).f.rs → H2.get r = (canon all d s0 i).H.get r) →
    (∀ c, c < (d i).al → H2.get (s0.H.next + nal d i + c) = some .rsv) → s0.H.next + nal d i + (d i).al ≤ H2.next →
    ExecOk P G all o (s0.H.next + nal d i) ⟨ρ2, H2⟩ ⟨putA ρ2 o.dst (d i).v, ⟨effE (d i).e H2.get, H2.next⟩⟩
  eff : ∀ r, tgt (d i) r → r ∈ (d i).f.eff ∧ (r ∈ (d i).f.rs ∨ (s0.H.next + nal d i ≤ r ∧ r < s0.H.next + nal d i + (d i).al))
  al : ∀ c, c < (d i).al → tgt (d i) (s0.H.next + nal d i + c)
  lt : ∀ r, r ∈ (d i).f.rs → r < s0.H.next + nal d i
  apart : ∀ j, j < i → (bitAt bs i).testBit j = false → (∀ r, r ∈ (d i).f.eff → r ∉ (d j).f.rs) ∧ (∀ r, r ∈ (d j).f.eff → r ∉ (d i).f.rs)

def upD (d : Nat → Dt) (m : Nat) (x : Dt) : Nat → Dt := fun j => if j = m then x else d j

theorem upD_lt {d : Nat → Dt} {m : Nat} {x : Dt} {i : Nat} (h : i < m) : d i = upD d m x i := by simp [upD, Nat.ne_of_lt h]
theorem upD_self {d : Nat → Dt} {m : Nat} {x : Dt} : upD d m x m = x := by simp [upD]

theorem canon_below {all : Array Oper} {d d' : Nat → Dt} {s0 : St} {m : Nat} (h : ∀ j, j < m → d j = d' j) : canon all d s0 m = canon all d' s0 m := by
  unfold canon canonH
  rw [envAt_below h, getAt_below h, nal_below h]

theorem GoodAt.below {all : Array Oper} {bs : List Nat} {s0 : St} {d d' : Nat → Dt} {i : Nat} (g : GoodAt P G all bs s0 d i) (h : ∀ j, j ≤ i → d j = d' j) : GoodAt P G all bs s0 d' i := by
  have hi := h i (Nat.le_refl _)
  have hn : nal d i = nal d' i := nal_below fun j hj => h j (by omega)
  have hc : canon all d s0 i = canon all d' s0 i := canon_below fun j hj => h j (by omega)
  obtain ⟨a, b, c, e, f⟩ := g
  refine ⟨?_, ?_, ?_, ?_, ?_⟩
  · rw [← hi, ← hn, ← hc]; exact a
  · rw [← hi, ← hn]; exact b
  · rw [← hi, ← hn]; exact c
  · rw [← hi, ← hn]; exact e
  · intro j hj hb
    rw [← hi, ← h j (by omega)]
    exact f j hj hb

def Covers (d : Nat → Dt) (m : Nat) (acc : List (Nat × FP)) : Prop := ∀ j, j < m → (d j).f = ⟨[], []⟩ ∨ (j, (d j).f) ∈ acc

theorem Covers.add {d : Nat → Dt} {m : Nat} {acc : List (Nat × FP)} (h : Covers d m acc) (x : Dt) : Covers (upD d m x) (m + 1) (addF m x.f acc) := by
  intro j hj
  have key : ∀ p, p ∈ acc → p ∈ addF m x.f acc := by
    intro p hp
    unfold addF
    split
    · exact hp
    · exact List.mem_cons_of_mem _ hp
  by_cases hjm : j = m
  · subst hjm
    rw [upD_self]
    by_cases hf : x.f = ⟨[], []⟩
    · exact .inl hf
    · refine .inr ?_
      unfold addF
      split
      · rename_i h0; exact absurd h0 hf
      · exact List.mem_cons_self
  · rw [← upD_lt (x := x) (by omega)]
    exact (h j (by omega)).imp id (key _)

theorem apart_of {d : Nat → Dt} {m : Nat} {acc : List (Nat × FP)} {b : Nat} {f : FP} (hc : Covers d m acc) (h : ApartA b f acc) : ∀ j, j < m → b.testBit j = false → (∀ r, r ∈ f.eff → r ∉ (d j).f.rs) ∧ (∀ r, r ∈ (d j).f.eff → r ∉ f.rs) := by
  intro j hj hb
  rcases hc j hj with h0 | h1
  · rw [h0]
    exact ⟨fun r _ h => (by cases h), fun r h => (by cases h)⟩
  · exact h _ h1 hb

theorem canon_succ {all : Array Oper} {d : Nat → Dt} {s0 : St} {m : Nat} {x : Dt} {o : Oper} (ho : all[m]? = some o) :
    canon all (upD d m x) s0 (m + 1) = ⟨putA (canon all d s0 m).ρ o.dst x.v, ⟨effE x.e (canon all d s0 m).H.get, (canon all d s0 m).H.next + x.al⟩⟩ := by
  have hb : ∀ j, j < m → d j = upD d m x j := fun j hj => upD_lt hj
  unfold canon canonH
  simp only [envAt, getAt, nal, if_true, upD_self]
  rw [← envAt_below hb, ← getAt_below hb, ← nal_below hb]
  simp only [dstAt, ho, Option.bind_some, Nat.add_assoc]


theorem trace_add {all : Array Oper} {bs : List Nat} {s0 : St} {d : Nat → Dt} {m : Nat} {x : Dt} (hg : ∀ i, i < m → GoodAt P G all bs s0 d i) (hx : GoodAt P G all bs s0 (upD d m x) m) :
    ∀ i, i < m + 1 → GoodAt P G all bs s0 (upD d m x) i := by
  intro i hi
  by_cases him : i = m
  · subst him; exact hx
  · exact (hg i (by omega)).below fun j hj => upD_lt (by omega)

theorem trace {all : Array Oper} {bs : List Nat} {s0 : St} {tail : St → Prop} {K : Nat} (hbs : bs.length = K) (hK : K ≤ all.size) : ∀ (k m : Nat) (d : Nat → Dt) (acc : List (Nat × FP)), k + m = K →
    (∀ i, i < m → GoodAt P G all bs s0 d i) → Covers d m acc → WFH (canon all d s0 m).H → opsD P G all tail (bs.drop m) m acc ((all.toList.take K).drop m) (canon all d s0 m) →
    ∃ d', (∀ i, i < K → GoodAt P G all bs s0 d' i) ∧ tail (canon all d' s0 K) := by
  intro k
  induction k with
  | zero =>
    intro m d acc hm hg hc wf h
    obtain rfl : m = K := by omega
    refine ⟨d, hg, ?_⟩
    have : (all.toList.take m).drop m = [] := by
      apply List.drop_eq_nil_of_le
      simp only [List.length_take]
      omega
    rw [this] at h
    cases hb : bs.drop m with
    | nil => rw [hb] at h; simpa only [opsD] using h
    | cons b bs' => rw [hb] at h; simpa only [opsD] using h
  | succ k ih =>
    intro m d acc hm hg hc wf h
    have hmK : m < K := by omega
    have hms : m < all.size := by omega
    have ho : all[m]? = some all[m] := Array.getElem?_eq_getElem hms
    have hbm : bs.drop m = bitAt bs m :: bs.drop (m + 1) := by
      rw [List.drop_eq_getElem_cons (by omega)]
      congr 1
      simp [bitAt, List.getElem?_eq_getElem (show m < bs.length by omega)]
    have hom : (all.toList.take K).drop m = all[m] :: (all.toList.take K).drop (m + 1) := by
      rw [List.drop_eq_getElem_cons (by simp only [List.length_take, Array.length_toList]; omega)]
      congr 1
      simp
    rw [hbm, hom] at h
    simp only [opsD] at h
    obtain ⟨t, ht, h⟩ := h
    have hnext : (canon all d s0 m).H.next = s0.H.next + nal d m := rfl
    cases t with
    | false =>
      simp only [Bool.false_eq_true, if_false] at h
      let x : Dt := ⟨.lit undef, fun _ => none, 0, ⟨[], []⟩⟩
      have hb : ∀ j, j < m → d j = upD d m x j := fun j hj => upD_lt hj
      have hcan : canon all (upD d m x) s0 (m + 1) = ⟨putA (canon all d s0 m).ρ all[m].dst (.lit undef), (canon all d s0 m).H⟩ := canon_succ ho
      have hgx : GoodAt P G all bs s0 (upD d m x) m := by
        refine ⟨?_, ?_, ?_, ?_, ?_⟩
        · rw [upD_self, ← canon_below hb]
          intro o ho' ρ2 H2 h1 h2 h3 _
          rw [ho] at ho'
          cases ho'
          refine .inl ⟨?_, rfl⟩
          simp only
          rw [wantA_env h1, ht]
        · rw [upD_self]; intro k he; cases he
        · rw [upD_self]; intro c he; exact absurd he (Nat.not_lt_zero _)
        · rw [upD_self]; intro r hr; cases hr
        · rw [upD_self]
          intro j hj hbit
          exact ⟨fun r hr => (by cases hr), fun r hr hr' => (by cases hr')⟩
      refine ih (m + 1) (upD d m x) acc (by omega) (trace_add hg hgx) (hc.add x) ?_ ?_
      · rw [hcan]; exact wf
      · rw [hcan]; exact h
    | true =>
      simp only [if_true] at h
      unfold opD at h
      split at h
      · rename_i fv args ats hop
        obtain ⟨v, e, k, f, ⟨hlt, heff, hnew, hcall⟩, hap, h⟩ := h
        let x : Dt := ⟨v, e, k, f⟩
        have hb : ∀ j, j < m → d j = upD d m x j := fun j hj => upD_lt hj
        have hcan : canon all (upD d m x) s0 (m + 1) = ⟨putA (canon all d s0 m).ρ all[m].dst v, ⟨effE e (canon all d s0 m).H.get, (canon all d s0 m).H.next + k⟩⟩ := canon_succ ho
        have hgx : GoodAt P G all bs s0 (upD d m x) m := by
          refine ⟨?_, ?_, ?_, ?_, ?_⟩
          · rw [upD_self, ← canon_below hb, ← nal_below hb]
            intro o ho' ρ2 H2 h1 h2 h3 h4
            rw [ho] at ho'
            cases ho'
            refine .inr ⟨?_, v, rfl, .inr ⟨fv, args, ats, hop, ?_, ?_⟩⟩
            · simp only
              rw [wantA_env h1, ht]
            · intro id st pend q env ps asg body hid
              refine effE_ne fun hs => ?_
              rcases (heff id hs).2 with ⟨hrs, g, t, c, hg⟩ | ⟨g1, g2⟩
              · have e9 := h2 id hrs
                simp only at hid
                rw [hid, hg] at e9
                cases e9
              · obtain ⟨c, rfl⟩ : ∃ c, id = (canon all d s0 m).H.next + c := ⟨id - (canon all d s0 m).H.next, by omega⟩
                have e9 : H2.get ((canon all d s0 m).H.next + c) = some .rsv := h3 c (show c < k by omega)
                simp only at hid
                rw [hid] at e9
                cases e9
            · have hev := evA_env (G := G) h1
              have e1 : evA G ρ2 fv = evA G (canon all d s0 m).ρ fv := hev fv (by simp [hop, Op.operands, Call.operands])
              have e2 : args.toList.map (evA G ρ2) = args.toList.map (evA G (canon all d s0 m).ρ) :=
                List.map_congr_left fun y hy => hev y (by simp only [hop, Op.operands, Call.operands]; simp; exact .inr (by simpa using hy))
              simp only
              rw [e1, e2]
              exact hcall H2 h2 h3 h4
          · rw [upD_self, ← nal_below hb]
            intro r hr
            exact ⟨(heff r hr).1, (heff r hr).2.imp (fun h => h.1) id⟩
          · rw [upD_self, ← nal_below hb]; exact hnew
          · rw [upD_self, ← nal_below hb]; exact hlt
          · rw [upD_self]
            intro j hj hbit
            rw [← upD_lt hj]
            exact apart_of hc hap j hj hbit
        refine ih (m + 1) (upD d m x) _ (by omega) (trace_add hg hgx) (hc.add x) ?_ ?_
        · rw [hcan]
          intro id b hid
          show id < (canon all d s0 m).H.next + k
          simp only at hid
          by_cases hs : (e id).isSome = true
          · rcases (heff id hs).2 with ⟨hrs, _⟩ | ⟨_, g2⟩
            · have := hlt id hrs; omega
            · exact g2
          · rw [effE_ne hs] at hid
            have := wf id b hid
            omega
        · rw [hcan]; exact h
      · obtain ⟨⟨v, H'⟩, hop, hap, h⟩ := h
        obtain ⟨e, al, hget, hnx, heff, hal, hlt, hloc⟩ := opA_local wf hop
        let x : Dt := ⟨v, oneE e, (if al = true then 1 else 0), fpO P G (canon all d s0 m).ρ (canon all d s0 m).H.next all[m].op⟩
        have hb : ∀ j, j < m → d j = upD d m x j := fun j hj => upD_lt hj
        have hcan : canon all (upD d m x) s0 (m + 1) = ⟨putA (canon all d s0 m).ρ all[m].dst v, H'⟩ := by
          rw [canon_succ ho]
          congr 1
          cases H'
          simp only at hget hnx
          simp only [AHeap.mk.injEq]
          refine ⟨(effE_one _ _).trans hget.symm, ?_⟩
          rw [hnx]
          simp only [x]
          cases al <;> simp
        have hgx : GoodAt P G all bs s0 (upD d m x) m := by
          refine ⟨?_, ?_, ?_, ?_, ?_⟩
          · rw [upD_self, ← canon_below hb, ← nal_below hb]
            intro o ho' ρ2 H2 h1 h2 h3 h4
            rw [ho] at ho'
            cases ho'
            refine .inr ⟨?_, v, rfl, .inl ?_⟩
            · simp only
              rw [wantA_env h1, ht]
            · simp only
              rw [opA_env (ρ' := (canon all d s0 m).ρ) (evA_env h1), effE_one]
              refine hloc H2 h2 fun ha => ?_
              subst ha
              have h5 := h3 0 (by simp [x])
              simp only [x, if_true] at h4
              refine ⟨h5, ?_⟩
              rw [hnext]; omega
          · rw [upD_self, ← nal_below hb]
            intro r hr
            unfold tgt at hr
            simp only [x, oneE] at hr
            cases he : e with
            | none => rw [he] at hr; cases hr
            | some kb =>
              obtain ⟨k0, b0⟩ := kb
              rw [he] at hr
              simp only at hr
              by_cases hrk : r = k0
              · subst hrk
                obtain ⟨h1, h2⟩ := heff r b0 he
                refine ⟨h1, ?_⟩
                cases hal2 : al with
                | false => exact .inl (h2 hal2)
                | true =>
                  obtain ⟨b1, hb1⟩ := hal hal2
                  rw [he] at hb1
                  simp only [Option.some.injEq, Prod.mk.injEq] at hb1
                  refine .inr ?_
                  simp only [x, hal2, if_true]
                  rw [hnext] at hb1
                  omega
              · rw [if_neg hrk] at hr; cases hr
          · rw [upD_self, ← nal_below hb]
            intro c hc2
            cases hal2 : al with
            | false => simp [x, hal2] at hc2
            | true =>
              simp only [x, hal2, if_true] at hc2
              obtain ⟨b1, hb1⟩ := hal hal2
              obtain rfl : c = 0 := by omega
              unfold tgt
              simp only [x, oneE, hb1, Nat.add_zero]
              rw [hnext]
              simp
          · rw [upD_self, ← nal_below hb]; exact hlt
          · rw [upD_self]
            intro j hj hbit
            rw [← upD_lt hj]
            exact apart_of hc hap j hj hbit
        have wf' : WFH H' := by
          intro id b hid
          rw [hget] at hid
          rw [hnx]
          cases e with
          | none =>
            have := wf id b hid
            split <;> omega
          | some kb =>
            obtain ⟨k0, b0⟩ := kb
            simp only [effGet] at hid
            split at hid
            · rename_i hk
              subst hk
              cases al with
              | true =>
                obtain ⟨b1, hb1⟩ := hal rfl
                simp only [Option.some.injEq, Prod.mk.injEq] at hb1
                simp only [if_true]
                omega
              | false =>
                have := hlt _ ((heff id b0 rfl).2 rfl)
                simpa using this
            · have := wf id b hid
              split <;> omega
        refine ih (m + 1) (upD d m x) _ (by omega) (trace_add hg hgx) (hc.add x) ?_ ?_
        · rw [hcan]; exact wf'
        · rw [hcan]; exact h

end Go.Hx.Ev
namespace Go.Hx.Ev
open Go.Hx
variable {P : Program} {G : Nat → Option (List AVal)} {Γ Γ' : Gam} {H H' : AHeap} {w w' : World}

def stD (all : Array Oper) (d : Nat → Dt) (s0 : St) (K : Nat) (D : Nat → Bool) : St :=
  ⟨envAt all d s0.ρ K D, ⟨getAt d (resv s0.H (nal d K)).get K D, s0.H.next + nal d K⟩⟩


theorem step_D {all : Array Oper} {bs : List Nat} {K : Nat} (S : Static all bs K) {d : Nat → Dt} {s0 : St} (hg : ∀ i, i < K → GoodAt P G all bs s0 d i) {D : Nat → Bool} {i : Nat} {o : Oper} (hi : i < K) (ho : all[i]? = some o) (hDi : D i = false)
    (hdown : ∀ j, j < i → (bitAt bs i).testBit j = true → D j = true) (hup : ∀ j, i < j → j < K → D j = true → (bitAt bs j).testBit i = false) :
    ExecOk P G all o (s0.H.next + nal d i) (stD all d s0 K D) (stD all d s0 K (withI D i)) := by
  have hget : ∀ j, j < K → ∃ oj, all[j]? = some oj := fun j hj => ⟨_, Array.getElem?_eq_getElem (Nat.lt_of_lt_of_le hj S.le)⟩
  have hgi := hg i hi
  have tgtE : ∀ j r, j < K → tgt (d j) r → r ∈ (d j).f.eff ∧ (r ∈ (d j).f.rs ∨ (s0.H.next + nal d j ≤ r ∧ r < s0.H.next + nal d j + (d j).al)) := fun j r hj ht => (hg j hj).eff r ht
  have rangeK : ∀ r, r < s0.H.next + nal d i → ((resv s0.H (nal d K)).get r = s0.H.get r ∨ ∃ j, j < i ∧ (fun _ : Nat => true) j = true ∧ tgt (d j) r) := by
    intro r hr
    by_cases h : s0.H.next ≤ r
    · obtain ⟨j, h1, h2, h3⟩ := nal_hit (d := d) (n := i) (c := r - s0.H.next) (by omega)
      have := (hg j (by omega)).al (r - s0.H.next - nal d j) (by omega)
      rw [show s0.H.next + nal d j + (r - s0.H.next - nal d j) = r by omega] at this
      exact .inr ⟨j, h1, rfl, this⟩
    · left
      simp only [resv]
      rw [if_neg (by omega)]
  have henv : ∀ t, t ∈ o.looksAt all → envAt all d s0.ρ K D t = (canon all d s0 i).ρ t := by
    intro t ht
    show _ = envAt all d s0.ρ i (fun _ => true) t
    rw [← envAt_cut (all := all) (d := d) (ρ0 := s0.ρ) (m := i) (n := K) (by omega)]
    refine envAt_agree fun j hj hdj => ?_
    obtain ⟨oj, hoj⟩ := hget j hj
    rw [dst_of hoj] at hdj
    rcases Nat.lt_trichotomy j i with h | rfl | h
    · cases hb : (bitAt bs i).testBit j with
      | true => rw [hdown j h hb]; simp [h]
      | false => exact absurd ht ((apartO_spec (S.apart i j o oj hi h ho hoj hb)).1 t hdj)
    · rw [hDi]; simp
    · cases hD : D j with
      | false => symm; simp; omega
      | true => exact absurd ht ((apartO_spec (S.apart j i oj o hj h hoj ho (hup j h hj hD))).2.1 t hdj)
  have hheap : ∀ r, r ∈ (d i).f.rs → getAt d (resv s0.H (nal d K)).get K D r = (canon all d s0 i).H.get r := by
    intro r hr
    show _ = getAt d s0.H.get i (fun _ => true) r
    rw [← getAt_base (g0 := (resv s0.H (nal d K)).get) (rangeK r (hgi.lt r hr)), ← getAt_cut (m := i) (n := K) (by omega)]
    refine getAt_agree fun j hj ht => ?_
    obtain ⟨he, _⟩ := tgtE j r hj ht
    rcases Nat.lt_trichotomy j i with h | rfl | h
    · cases hb : (bitAt bs i).testBit j with
      | true => rw [hdown j h hb]; simp [h]
      | false => exact absurd hr ((hgi.apart j h hb).2 r he)
    · rw [hDi]; simp
    · cases hD : D j with
      | false => symm; simp; omega
      | true => exact absurd hr (((hg j hj).apart i h (hup j h hj hD)).1 r he)
  have hal : ∀ c, c < (d i).al → getAt d (resv s0.H (nal d K)).get K D (s0.H.next + nal d i + c) = some .rsv := by
    intro c hc
    have hlt := nal_lt (d := d) hi
    have heff := (hgi.eff _ (hgi.al c hc)).1
    rw [getAt_none]
    · simp only [resv]
      rw [if_pos (by omega)]
    · intro j hj hD ht
      obtain ⟨h1, h2⟩ := tgtE j _ hj ht
      rcases Nat.lt_trichotomy j i with h | rfl | h
      · rcases h2 with h3 | ⟨h2, h3⟩
        · have := (hg j hj).lt _ h3
          have := nal_mono (d := d) (Nat.le_of_lt h)
          omega
        · have := nal_lt (d := d) h; omega
      · rw [hDi] at hD; cases hD
      · rcases h2 with h3 | ⟨h2, h3⟩
        · exact absurd h3 (((hg j hj).apart i h (hup j h hj hD)).2 _ heff)
        · have := nal_lt (d := d) h; omega
  have := hgi.step o ho (envAt all d s0.ρ K D) ⟨getAt d (resv s0.H (nal d K)).get K D, s0.H.next + nal d K⟩ henv hheap hal (by have := nal_lt (d := d) hi; simp only; omega)
  have e1 : envAt all d s0.ρ K (withI D i) = putA (envAt all d s0.ρ K D) o.dst (d i).v := by
    rw [envAt_with hDi hi, dst_of ho]
    intro j h hj hD t hti
    obtain ⟨oj, hoj⟩ := hget j hj
    rw [dst_of ho] at hti
    rw [dst_of hoj]
    exact (apartO_spec (S.apart j i oj o hj h hoj ho (hup j h hj hD))).2.2 t hti
  have e2 : getAt d (resv s0.H (nal d K)).get K (withI D i) = effE (d i).e (getAt d (resv s0.H (nal d K)).get K D) := by
    refine getAt_with hDi hi fun j h hj hD r hti htj => ?_
    obtain ⟨a1, a2⟩ := tgtE i r hi hti
    obtain ⟨b1, b2⟩ := tgtE j r hj htj
    obtain ⟨c1, c2⟩ := (hg j hj).apart i h (hup j h hj hD)
    rcases b2 with b3 | ⟨b2, b3⟩
    · exact c2 r a1 b3
    · rcases a2 with a3 | ⟨a2, a3⟩
      · exact c1 r b1 a3
      · have := nal_lt (d := d) h; omega
  unfold stD
  rw [e1, e2]
  exact this

theorem stD_all {all : Array Oper} {bs : List Nat} {K : Nat} {d : Nat → Dt} {s0 : St} (hg : ∀ i, i < K → GoodAt P G all bs s0 d i) {D : Nat → Bool} (hD : ∀ j, j < K → D j = true) : stD all d s0 K D = canon all d s0 K := by
  unfold stD canon canonH
  have e1 : envAt all d s0.ρ K D = envAt all d s0.ρ K fun _ => true := funext fun t => envAt_agree fun j hj _ => hD j hj
  have e2 : getAt d (resv s0.H (nal d K)).get K D = getAt d s0.H.get K fun _ => true := by
    funext r
    rw [getAt_agree (D' := fun _ => true) fun j hj _ => hD j hj]
    refine getAt_base ?_
    by_cases h : s0.H.next ≤ r ∧ r < s0.H.next + nal d K
    · obtain ⟨j, h1, h2, h3⟩ := nal_hit (d := d) (n := K) (c := r - s0.H.next) (by omega)
      have := (hg j h1).al (r - s0.H.next - nal d j) (by omega)
      rw [show s0.H.next + nal d j + (r - s0.H.next - nal d j) = r by omega] at this
      exact .inr ⟨j, h1, rfl, this⟩
    · left
      simp only [resv]
      rw [if_neg h]
  rw [e1, e2]

theorem stD_none {all : Array Oper} {K : Nat} {d : Nat → Dt} {s0 : St} {D : Nat → Bool} (hD : ∀ j, j < K → D j = false) : stD all d s0 K D = ⟨s0.ρ, resv s0.H (nal d K)⟩ := by
  unfold stD
  have e1 : ∀ n, n ≤ K → envAt all d s0.ρ n D = s0.ρ := by
    intro n
    induction n with
    | zero => intro _; rfl
    | succ n ih => intro h; simp only [envAt]; rw [if_neg (by simp [hD n h])]; exact ih (by omega)
  have e2 : ∀ n, n ≤ K → getAt d (resv s0.H (nal d K)).get n D = (resv s0.H (nal d K)).get := by
    intro n
    induction n with
    | zero => intro _; rfl
    | succ n ih => intro h; simp only [getAt]; rw [if_neg (by simp [hD n h])]; exact ih (by omega)
  rw [e1 K (Nat.le_refl _), e2 K (Nat.le_refl _)]
  rfl


variable {n : Nat} {wb : Base} {rd rb : Option Nat} {Q : AX → St → Prop} {all : Array Oper} {bs : List Nat} {K : Nat} {id : Nat} {dr : Bool}
theorem draw_go (S : Static all bs K) (hfit : ∀ o, o ∈ all.toList → dstOk n o = true) {d : Nat → Dt} {s0 : St} (hg : ∀ i, i < K → GoodAt P G all bs s0 d i) (htail : opsV P G rd Q all (all.toList.drop K) (canon all d s0 K)) :
    ∀ (r : Nat) (listed : Array Bool) (D : Nat → Bool) (Γ : Gam) (a : Act) (w : World), listed.size = all.size → cnt listed all.size = r → (∀ j, j < all.size → listed.getD j true = D j) → (∀ j, D j = true → j < K) → ClosedB all D →
    RelS P G n wb Γ (stD all d s0 K D) a w → RdOk Γ (stD all d s0 K D).H rd rb →
    ∀ (Q' : Exit → Act → World → Prop), (∀ e a' w', WPost P G n wb rd rb (wr (.region id all dr)) Γ (stD all d s0 K D).H a w Q e a' w' → Q' e a' w') → wpAnyIn (fenceOf rb) 0 P .any all Q' r listed a w := by
  intro r
  induction r with
  | zero =>
    intro listed D Γ a w hsz hc hl hlow hL hs hr Q' hq
    have hall : ∀ j, j < K → D j = true := fun j hj => by rw [← hl j (Nat.lt_of_lt_of_le hj S.le)]; exact cnt_zero hc j (Nat.lt_of_lt_of_le hj S.le)
    have hKs : K = all.size := by
      rcases Nat.lt_or_ge K all.size with h | h
      · have h1 := cnt_zero hc K h
        rw [hl K h] at h1
        have := hlow K h1
        omega
      · have := S.le; omega
    rw [stD_all hg hall] at hs hr hq
    exact tail_go S hfit 0 K listed _ Γ a w (by omega) (Nat.le_refl _) hsz hc (fun j hj => by rw [hl j hj]; exact ⟨hlow j, hall j⟩) htail hs hr Q' hq
  | succ r ih =>
    intro listed D Γ a w hsz hc hl hlow hL hs hr Q' hq
    by_cases hall : ∀ j, j < K → D j = true
    · rw [stD_all hg hall] at hs hr hq
      have hcount : ∀ m, m ≤ all.size → cnt listed m = m - K := by
        intro m
        induction m with
        | zero => intro _; simp [cnt]
        | succ m ihm =>
          intro hm
          simp only [cnt]
          rw [ihm (by omega), hl m (by omega)]
          by_cases hmK : m < K
          · rw [hall m hmK]; simp; omega
          · have : D m = false := by
              cases hD : D m with
              | false => rfl
              | true => exact absurd (hlow m hD) hmK
            rw [this]
            simp
            omega
      have h1 := hcount all.size (Nat.le_refl _)
      exact tail_go S hfit (r + 1) K listed _ Γ a w (by have := S.le; omega) (Nat.le_refl _) hsz hc (fun j hj => by rw [hl j hj]; exact ⟨hlow j, hall j⟩) htail hs hr Q' hq
    · have hex : ∃ j, j < K ∧ D j = false := by
        by_cases h : ∃ j, j < K ∧ D j = false
        · exact h
        · refine absurd (fun j hj => ?_) hall
          cases hD : D j with
          | true => rfl
          | false => exact absurd ⟨j, hj, hD⟩ h
      have least : ∀ k, (∃ j, j < k ∧ j < K ∧ D j = false) → ∃ j, j < K ∧ D j = false ∧ ∀ i, i < j → D i = true := by
        intro k
        induction k with
        | zero => rintro ⟨j, hj, _⟩; omega
        | succ k ihk =>
          rintro ⟨j, h1, h2, h3⟩
          by_cases h : ∃ j, j < k ∧ j < K ∧ D j = false
          · exact ihk h
          · refine ⟨j, h2, h3, fun i hi => ?_⟩
            cases hD : D i with
            | true => rfl
            | false => exact absurd ⟨i, by omega, by omega, hD⟩ h
      obtain ⟨j0, hj0K, hj0, hbelow⟩ := least K (let ⟨j, h1, h2⟩ := hex; ⟨j, h1, h1, h2⟩)
      have hj0s : j0 < all.size := Nat.lt_of_lt_of_le hj0K S.le
      have hr0 : j0 ∈ Region.ready .any all listed := by
        refine mem_ready.2 ⟨by rw [hl j0 hj0s]; exact hj0, _, Array.getElem?_eq_getElem hj0s, fun e he hb => ?_⟩
        have hlt := S.down j0 _ (Array.getElem?_eq_getElem hj0s) e he hb
        rw [getD_in (by omega) false true, hl e.on (by omega)]
        exact hbelow _ hlt
      refine ⟨fun h0 => (by rw [h0] at hr0; cases hr0), fun i hi => ?_⟩
      obtain ⟨hiun, oi, hoi, hdir⟩ := mem_ready.1 hi
      have his := (Array.getElem?_eq_some_iff.1 hoi).1
      have hdirD : ∀ e, e ∈ oi.after → Region.binds .any e = true → D e.on = true := fun e he hb => by
        have := S.down i oi hoi e he hb
        rw [← hl e.on (by omega), ← getD_in (by omega) false true]
        exact hdir e he hb
      have hahead := S.ahead hL i oi
      have hiK : i < K := by
        rcases Nat.lt_or_ge i K with h | h
        · exact h
        · have := hahead j0 hoi hdirD (by rw [if_neg (by omega)]; omega)
          rw [hj0] at this; cases this
      have hDi : D i = false := by rw [← hl i his]; exact hiun
      have hex := step_D (P := P) (G := G) S hg hiK hoi hDi (fun j hj hb => hahead j hoi hdirD (by rw [if_pos hiK]; exact hb)) (fun j h1 h2 hD => by
        cases hb : (bitAt bs j).testBit i with
        | false => rfl
        | true =>
          have hjs : j < all.size := Nat.lt_of_lt_of_le h2 S.le
          have := S.ahead hL j _ i (Array.getElem?_eq_getElem hjs) (fun e he hbe => hL j _ hD (Array.getElem?_eq_getElem hjs) e he hbe) (by rw [if_pos h2]; exact hb)
          rw [hDi] at this; cases this)
      have hoi' : oi = all[i] := by
        rw [Array.getElem?_eq_getElem his] at hoi
        exact (Option.some.inj hoi).symm
      refine execOk_sound hoi (hfit oi (by rw [hoi']; simp)) hs hr hex ?_
      rintro Γ' a' w' hs' E hn hr' ⟨cv, rfl⟩
      have hc' : cnt (listed.setIfInBounds i true) all.size = r := by
        have := cnt_set hiun all.size
        rw [if_pos his] at this
        omega
      refine ih (listed.setIfInBounds i true) (withI D i) Γ' _ w' (by simpa using hsz) hc' ?_ ?_ ?_ hs' hr' Q' fun e a'' w'' hp => hq _ _ _ (hp.step E hn (by rw [hoi']; exact put_fr his cv) fun _ h => h)
      · intro j hj
        by_cases hji : j = i
        · subst hji; simp [withI]
        · rw [getD_set_ne true (Ne.symm hji), hl j hj]; simp [withI, hji]
      · intro j hj
        by_cases hji : j = i
        · subst hji; exact hiK
        · simp only [withI, if_neg hji] at hj; exact hlow j hj
      · intro k ok hk hok e he hb
        by_cases hki : k = i
        · subst hki
          rw [hoi] at hok
          cases hok
          have := hdirD e he hb
          simp only [withI]
          split
          · rfl
          · exact this
        · simp only [withI, if_neg hki] at hk
          have := hL k ok hk hok e he hb
          simp only [withI]
          split
          · rfl
          · exact this

theorem W.drawE {s : St} (K : Nat) (bs : List Nat) (hm : P.follows .mixedOrders = true) (hfit : all.toList.all (dstOk n) = true) (hst : drawOk all bs K = true)
    (h : opsD P G all (opsV P G rd Q all (all.toList.drop K)) bs 0 [] (all.toList.take K) s) : W P G n rd (.region id all true) Q s := by
  intro wb Γ a w rb hs hr
  have S := drawOk_spec hst
  have hfit' : ∀ o, o ∈ all.toList → dstOk n o = true := fun o ho => List.all_eq_true.1 hfit o ho
  have wf : WFH s.H := fun id b hb => hs.heap.next id b hb
  have hcan0 : canon all (fun _ => ⟨.lit undef, fun _ => none, 0, ⟨[], []⟩⟩) s 0 = s := rfl
  obtain ⟨d, hg, htail⟩ := trace (P := P) (G := G) (all := all) (bs := bs) (s0 := s) (tail := opsV P G rd Q all (all.toList.drop K)) S.len S.le K 0 (fun _ => ⟨.lit undef, fun _ => none, 0, ⟨[], []⟩⟩) [] (by omega)
    (fun i hi => by omega) (fun j hj => by omega) (by rw [hcan0]; exact wf) (by rw [hcan0]; exact h)
  refine wpIn_region_any hm ?_
  let w1 : World := { w with drawn := w.drawn + 1 }
  have R1 : RelH P G Γ s.H w1 := hs.heap.move rfl (drawn_evo w) (Nat.le_refl _) (fun id b hb => .inl hb) fun id b hb => hb
  have hs1 : RelS P G n wb Γ s a w1 := hs.move (drawn_evo w) (Nat.le_refl _) R1
  have hs2 : RelS P G n wb Γ ⟨s.ρ, resv s.H (nal d K)⟩ a w1 := hs1.move (resv_evo _ _) (by simp [resv]) (resv_rel R1 _)
  have hr2 : RdOk Γ (resv s.H (nal d K)) rd rb := hr.move fun id b hb => by
    simp only [resv]
    rw [if_neg]
    · exact hb
    · have := hs.heap.next id b hb; omega
  have e0 : stD all d s K (fun _ => false) = ⟨s.ρ, resv s.H (nal d K)⟩ := stD_none fun _ _ => rfl
  refine draw_go (wb := wb) (id := id) (dr := true) S hfit' hg htail all.size _ (fun _ => false) Γ a w1 (by simp) (cnt_full _ (Nat.le_refl _)) ?_ ?_ ?_ ?_ ?_ _ ?_
  · intro j hj
    rw [Array.getD_eq_getD_getElem?, Array.getElem?_replicate, if_pos hj]
    rfl
  · intro j hj; cases hj
  · intro i o hi; cases hi
  · rw [e0]; exact hs2
  · rw [e0]; exact hr2
  · rw [e0]
    intro e a' w' hp
    refine hp.step ?_ (by simp [resv]) (.refl _ _) fun _ h => h
    exact Evo.trans (drawn_evo w) (Nat.le_refl _) (resv_evo _ _)


end Go.Hx.Ev
namespace Go.Hx.Ev
open Go.Hx
variable {P : Program} {G : Nat → Option (List AVal)} {Γ Γ' : Gam} {H H' : AHeap} {w w' : World}

inductive Cln (K : Nat → Prop) : AVal → Prop
  | lit (v : Value) : Cln K (.lit v)
  | nil : Cln K (.vec 0 [])
  | agg {c : List AVal} (h : ∀ i (h : i < c.length), Cln K c[i]) : Cln K (.agg c)
  | tup {c : List AVal} (h : ∀ i (h : i < c.length), Cln K c[i]) : Cln K (.tup c)
  | clo {f : FuncId} {a b : List AVal} (h1 : ∀ i (h : i < a.length), Cln K a[i]) (h2 : ∀ i (h : i < b.length), Cln K b[i]) : Cln K (.clo f a b)
  | own {id g o l z : Nat} (h : K id) : Cln K (.own id g o l z)
  | ptr {id g o : Nat} (h : K id) : Cln K (.ptr id g o)

theorem Cln.mono {K K' : Nat → Prop} {v : AVal} (h : Cln K v) (hk : ∀ id, K id → K' id) : Cln K' v := by
  induction h with
  | lit v => exact .lit v
  | nil => exact .nil
  | agg _ ih => exact .agg ih
  | tup _ ih => exact .tup ih
  | clo _ _ ih1 ih2 => exact .clo ih1 ih2
  | own h => exact .own (hk _ h)
  | ptr h => exact .ptr (hk _ h)

theorem Cln.fz {S : Nat → Prop} {nx : Nat} {v : AVal} (h : Cln (fun id => ¬ S id ∧ id < nx) v) : Fz S H nx v v := by
  induction h with
  | lit v => exact .lit v
  | nil => exact .vec rfl fun i h => absurd h (Nat.not_lt_zero _)
  | agg _ ih => exact .agg rfl fun i h _ => ih i h
  | tup _ ih => exact .tup rfl fun i h _ => ih i h
  | clo _ _ ih1 ih2 => exact .clo rfl rfl (fun i h _ => ih1 i h) fun i h _ => ih2 i h
  | own h => exact .own h.2 h.1
  | ptr h => exact .ptr h.2 h.1

theorem Cln.sound {K : Nat → Prop} {Γ₁ Γ₂ : Gam} {H₁ H₂ : AHeap} (hK : ∀ id, K id → H₂.get id = H₁.get id ∧ Γ₂ id = Γ₁ id) (hn : H₁.next ≤ H₂.next) {v : AVal} (h : Cln K v) :
    ∀ {cv : Value}, RelV P Γ₁ H₁ w v cv → RelV P Γ₂ H₂ w v cv := by
  induction h with
  | lit v => intro cv h; cases h; exact .lit _
  | nil =>
    intro cv h
    cases h with
    | vec0 a cap => exact .vec0 a cap
    | vec hb hlt hlen hcs hcell hrel => exact .vec0 _ _
  | agg _ ih => intro cv h; cases h with | agg hcs hrel => exact .agg hcs fun i h1 h2 => ih i h1 (hrel i h1 h2)
  | tup _ ih => intro cv h; cases h with | tup hcs hrel => exact .tup hcs fun i h1 h2 => ih i h1 (hrel i h1 h2)
  | clo _ _ ih1 ih2 => intro cv h; cases h with | clo hfs hcs hf hc => exact .clo hfs hcs (fun i h1 h2 => ih1 i h1 (hf i h1 h2)) fun i h1 h2 => ih2 i h1 (hc i h1 h2)
  | own h =>
    intro cv hv
    cases hv with
    | own hv =>
      obtain ⟨a, b, c, d⟩ := hv
      obtain ⟨e1, e2⟩ := hK _ h
      refine .own ⟨by omega, b, by rw [e1]; exact c, fun g e cells hg => ?_⟩
      rw [e1] at hg
      rw [e2]
      exact d g e cells hg
  | ptr h =>
    intro cv hv
    cases hv with
    | ptr hv =>
      obtain ⟨a, b, c, d⟩ := hv
      obtain ⟨e1, e2⟩ := hK _ h
      refine .ptr ⟨by omega, b, by rw [e1]; exact c, fun g e cells hg => ?_⟩
      rw [e1] at hg
      rw [e2]
      exact d g e cells hg

def newE (lo hi : Nat) (lv : Nat → Bool) (g : Nat → Option Blk) : Nat → Option Blk := fun id => if lo ≤ id ∧ id < hi then (if lv id = true then g id else some (.arr 0 0 [])) else none

def newL (lo hi : Nat) : List Nat := (List.range (hi - lo)).map (· + lo)
theorem mem_newL {lo hi r : Nat} (h1 : lo ≤ r) (h2 : r < hi) : r ∈ newL lo hi := by
  unfold newL
  rw [List.mem_map]
  exact ⟨r - lo, by rw [List.mem_range]; omega, by omega⟩

open Classical in
theorem ECall.mk {f : FuncId} {first cap args args' : List AVal} {v : AVal} (Hs Hs' : AHeap) (kp : Nat → Prop) (lv : Nat → Bool) (rs : List Nat) (hG : GOk G)
    (hrs : ∀ r, r ∈ rs → r < H.next) (hnx : Hs.next = H.next) (hle : Hs.next ≤ Hs'.next)
    (hkp : ∀ id, kp id → id ∈ rs ∧ Hs.get id = H.get id ∧ Hs'.get id = H.get id ∧ ∃ g e c, H.get id = some (.arr g e c) ∧ ∀ i (h : i < c.length), Cln kp c[i])
    (hgone : ∀ id, ¬ kp id → Hs.get id = none)
    (hl : args'.length = (first ++ args ++ cap).length)
    (hargs : ∀ H2 : AHeap, (∀ r, r ∈ rs → H2.get r = H.get r) → ∀ i (h : i < (first ++ args ++ cap).length) (h' : i < args'.length), Fz (fun id => ¬ kp id) H2 H.next (first ++ args ++ cap)[i] args'[i])
    (hcall : ACall P G f args' Hs fun r H' => r = .ret v ∧ H' = Hs')
    (hv : Cln (fun id => kp id ∨ (H.next ≤ id ∧ id < Hs'.next ∧ lv id = true)) v)
    (hnew : ∀ id, H.next ≤ id → id < Hs'.next → lv id = true → ∃ g e c, Hs'.get id = some (.arr g e c) ∧ ∀ i (h : i < c.length), Cln (fun id => kp id ∨ (H.next ≤ id ∧ id < Hs'.next ∧ lv id = true)) c[i]) :
    ECall P G (.clo f first cap) args H v (newE H.next Hs'.next lv Hs'.get) (Hs'.next - H.next) ⟨newL H.next Hs'.next, rs⟩ := by
  have hsome : ∀ id, H.next ≤ id → id < Hs'.next → (newE H.next Hs'.next lv Hs'.get id).isSome = true := by
    intro id h1 h2
    unfold newE
    rw [if_pos ⟨h1, h2⟩]
    split
    · rename_i h3
      obtain ⟨g, e, c, h4, _⟩ := hnew id h1 h2 h3
      rw [h4]; rfl
    · rfl
  have hout : ∀ id, (newE H.next Hs'.next lv Hs'.get id).isSome = true → H.next ≤ id ∧ id < Hs'.next := by
    intro id h
    unfold newE at h
    split at h
    · assumption
    · cases h
  refine ⟨hrs, fun r hr => ?_, fun c hc => hsome _ (by omega) (by omega), ?_⟩
  · obtain ⟨h1, h2⟩ := hout r hr
    exact ⟨mem_newL h1 h2, .inr ⟨h1, by omega⟩⟩
  intro H2 hag hres hn2
  refine AApply.clo ⟨hcall.1, fun Γ w cargs R hr => ?_⟩
  let S : Nat → Prop := fun id => ¬ kp id
  have kpO : ∀ id, ¬ S id → kp id := fun id h => Classical.byContradiction h
  have hkH2 : ∀ id, kp id → H2.get id = H.get id := fun id h => hag id (hkp id h).1
  have hlow : ∀ id, kp id → id < H.next := fun id h => hrs id (hkp id h).1
  have F : FzH S H2 Hs := by
    refine ⟨fun id hs => hgone id hs, fun id b hs hb => ?_, fun id hs hb => ?_⟩
    · have hk := kpO id hs
      obtain ⟨h1, h2, h3, g, e, c, h4, h5⟩ := hkp id hk
      rw [hkH2 id hk, h4] at hb
      cases hb
      refine ⟨by rw [hnx]; exact hlow id hk, .arr g e c, by rw [h2, h4], rfl, rfl, rfl, fun i hi _ => ?_⟩
      exact ((h5 i hi).mono fun id hk => ⟨fun hs => hs hk, by rw [hnx]; exact hlow id hk⟩).fz
    · have hk := kpO id hs
      obtain ⟨h1, h2, h3, g, e, c, h4, h5⟩ := hkp id hk
      rw [hkH2 id hk, h4] at hb
      cases hb
  have R0 : RelH P G (gamF S Γ) Hs w := F.rel hG R
  have hr0 : RelL P (gamF S Γ) Hs w args' cargs := ⟨by have := hr.1; omega, fun i h1 h2 => (by
    have := hargs H2 hag i (by omega) h1
    rw [← hnx] at this
    exact this.sound R F (hr.2 i (by omega) h2))⟩
  refine (hcall.2 _ w cargs R0 hr0).mono ?_
  rintro e w' ⟨r, H', Γ', hend, ⟨rfl, rfl⟩, R', E, hn⟩
  let nw : Nat → Prop := fun id => H.next ≤ id ∧ id < H'.next
  let lw : Nat → Prop := fun id => H.next ≤ id ∧ id < H'.next ∧ lv id = true
  let Γ3 : Gam := fun id => if lw id then Γ' id else Γ id
  let H3 : AHeap := ⟨effE (newE H.next H'.next lv H'.get) H2.get, H2.next⟩
  have hnle : H'.next ≤ H2.next := by omega
  have g3l : ∀ id, lw id → Γ3 id = Γ' id := fun id h => if_pos h
  have g3o : ∀ id, ¬ lw id → Γ3 id = Γ id := fun id h => if_neg h
  have kold : ∀ id, kp id → ¬ nw id := fun id h hn => by have := hlow id h; have := hn.1; omega
  have koldl : ∀ id, kp id → ¬ lw id := fun id h hn => kold id h ⟨hn.1, hn.2.1⟩
  have gk : ∀ id, kp id → Γ' id = Γ id := by
    intro id hk
    obtain ⟨h1, h2, h3, g, e, c, h4, h5⟩ := hkp id hk
    have hlo := hlow id hk
    obtain ⟨x, hx, hle'⟩ := E.live id (by omega) (by omega) (.arr g e c) (by rw [h3, h4])
    rw [h2, h4] at hx
    cases hx
    rw [(hle'.2 rfl).1]
    exact gamF_out fun hs => hs hk
  have h3new : ∀ id, nw id → H3.get id = newE H.next H'.next lv H'.get id := by
    intro id h
    show effE _ _ id = _
    unfold effE
    have := hsome id h.1 h.2
    split
    · rename_i b hb; rw [hb]
    · rename_i hb; rw [hb] at this; cases this
  have h3live : ∀ id, lw id → H3.get id = H'.get id := by
    intro id h
    rw [h3new id ⟨h.1, h.2.1⟩]
    unfold newE
    rw [if_pos ⟨h.1, h.2.1⟩, if_pos h.2.2]
  have h3dead : ∀ id, nw id → ¬ lw id → H3.get id = some (.arr 0 0 []) := by
    intro id h hl
    rw [h3new id h]
    unfold newE
    rw [if_pos h, if_neg fun h2 => hl ⟨h.1, h.2, h2⟩]
  have h3old : ∀ id, ¬ nw id → H3.get id = H2.get id := by
    intro id h
    show effE _ _ id = _
    exact effE_ne fun h' => h (hout id h')
  have hrsv : ∀ id, nw id → H2.get id = some .rsv := by
    intro id h
    have := hres (id - H.next) (by have := h.1; have := h.2; omega)
    rwa [show H.next + (id - H.next) = id by have := h.1; omega] at this
  have hΓnew : ∀ id, nw id → Γ id = none := fun id h => R.rsv id (hrsv id h)
  have hfar : ∀ id b base n, lw id → Γ' id = some (b, base, n) → w.heap.size ≤ b := by
    intro id b base n hid hb
    refine Nat.le_of_not_lt fun hlt => ?_
    have hown : (gamF S Γ).owns b := Classical.byContradiction fun hno => (E.keep b hlt hno).2 ⟨id, base, n, hb⟩
    obtain ⟨id0, base0, n0, h0⟩ := hown
    obtain ⟨hs0, h0⟩ := gamF_some h0
    have hk0 := kpO id0 hs0
    rw [← gk id0 hk0] at h0
    have := R'.inj _ _ _ _ _ _ _ h0 hb
    subst this
    exact koldl _ hk0 hid
  have EE : Evo Γ H2 w Γ3 H3 w' := by
    refine ⟨E.os, E.tape, E.output, E.size, fun b hb ho => ⟨(E.keep b hb fun h => ho (gamF_owns h)).1, ?_⟩, fun id h1 h2 x' hx' => ?_, E.frz⟩
    · rintro ⟨id, base, n, h⟩
      by_cases hl : lw id
      · rw [g3l id hl] at h
        have := hfar id b base n hl h
        omega
      · rw [g3o id hl] at h
        exact ho ⟨id, base, n, h⟩
    · by_cases hnw : nw id
      · exact ⟨.rsv, hrsv id hnw, trivial⟩
      · rw [h3old id hnw] at hx'
        refine ⟨x', hx', ?_⟩
        have hg : Γ3 id = Γ id := g3o id fun h => hnw ⟨h.1, h.2.1⟩
        cases x' with
        | arr g e c => exact ⟨Nat.le_refl _, fun _ => ⟨hg, rfl, rfl⟩⟩
        | loop => exact ⟨hg, rfl, rfl, rfl, rfl, rfl⟩
        | rsv => trivial
        | mp => exact hg
  have hn3 : H2.next ≤ H3.next := Nat.le_refl _
  have hK : ∀ id, (kp id ∨ lw id) → H3.get id = H'.get id ∧ Γ3 id = Γ' id := by
    rintro id (h | h)
    · refine ⟨?_, ?_⟩
      · rw [h3old id (kold id h), hkH2 id h, (hkp id h).2.2.1]
      · rw [g3o id (koldl id h), gk id h]
    · exact ⟨h3live id h, g3l id h⟩
  have hle3 : H'.next ≤ H3.next := hnle
  have hidden : ∀ id b base n, ¬ kp id → Γ id = some (b, base, n) → w'.heap[b]? = w.heap[b]? := by
    intro id b base n hk h
    refine (E.keep b (R.lt _ _ _ _ h) ?_).1
    rintro ⟨id0, base0, n0, h0⟩
    obtain ⟨hs0, h0⟩ := gamF_some h0
    have := R.inj _ _ _ _ _ _ _ h h0
    subst this
    exact hs0 hk
  have R3 : RelH P G Γ3 H3 w' := by
    refine ⟨?_, ?_, ?_, ?_, ?_, ?_, ?_, ?_, ?_, ?_⟩
    · intro id g e cells hg
      have main : (kp id ∨ lw id) → (∀ i (h : i < cells.length), Cln (fun id => kp id ∨ lw id) cells[i]) → H'.get id = some (.arr g e cells) → _ := fun hid hc hg' => R'.arr id g e cells hg'
      have fin : (kp id ∨ lw id) → (∀ i (h : i < cells.length), Cln (fun id => kp id ∨ lw id) cells[i]) → H'.get id = some (.arr g e cells) → (match Γ3 id with
          | some (b, base, n) => ∃ c, w'.heap[b]? = some (.cells c e (0, 0)) ∧ c.size = n ∧ base + cells.length ≤ n ∧
            ∀ i (h : i < cells.length), ∃ cv, c[base + i]? = some cv ∧ RelV P Γ3 H3 w' cells[i] cv
          | none => cells = []) := by
        intro hid hc hg'
        have h1 := R'.arr id g e cells hg'
        rw [(hK id hid).2]
        cases hΓ : Γ' id with
        | none => rw [hΓ] at h1; exact h1
        | some y =>
          obtain ⟨b, base, n⟩ := y
          rw [hΓ] at h1
          obtain ⟨c, a1, a2, a3, a4⟩ := h1
          refine ⟨c, a1, a2, a3, fun i hi => ?_⟩
          obtain ⟨cv, b1, b2⟩ := a4 i hi
          exact ⟨cv, b1, (hc i hi).sound hK hle3 b2⟩
      by_cases hl : lw id
      · have hg' := hg
        rw [h3live id hl] at hg'
        obtain ⟨g0, e0, c0, h4, h5⟩ := hnew id hl.1 hl.2.1 hl.2.2
        rw [h4] at hg'
        cases hg'
        exact fin (.inr hl) h5 h4
      · by_cases hnw : nw id
        · rw [h3dead id hnw hl] at hg
          cases hg
          rw [g3o id hl, hΓnew id hnw]
        · rw [h3old id hnw] at hg
          by_cases hk : kp id
          · obtain ⟨h1, h2, h3, g0, e0, c0, h4, h5⟩ := hkp id hk
            rw [hkH2 id hk, h4] at hg
            cases hg
            exact fin (.inl hk) (fun i hi => (h5 i hi).mono fun _ h => .inl h) (by rw [h3, h4])
          · have h1 := R.arr id g e cells hg
            rw [g3o id hl]
            cases hΓ : Γ id with
            | none => rw [hΓ] at h1; exact h1
            | some y =>
              obtain ⟨b, base, n⟩ := y
              rw [hΓ] at h1
              obtain ⟨c, a1, a2, a3, a4⟩ := h1
              refine ⟨c, by rw [hidden id b base n hk hΓ]; exact a1, a2, a3, fun i hi => ?_⟩
              obtain ⟨cv, b1, b2⟩ := a4 i hi
              exact ⟨cv, b1, b2.evo EE hn3⟩
    · intro id st pend n env ps asg body hg
      by_cases hl : lw id
      · rw [h3live id hl] at hg
        obtain ⟨g0, e0, c0, h4, h5⟩ := hnew id hl.1 hl.2.1 hl.2.2
        rw [h4] at hg
        cases hg
      · by_cases hnw : nw id
        · rw [h3dead id hnw hl] at hg; cases hg
        · rw [h3old id hnw] at hg
          have hk : ¬ kp id := fun hk => by
            obtain ⟨h1, h2, h3, g0, e0, c0, h4, h5⟩ := hkp id hk
            rw [hkH2 id hk, h4] at hg
            cases hg
          obtain ⟨b, r, a1, a2, a3, a4, a5, a6, a7, a8, a9⟩ := R.loop id st pend n env ps asg body hg
          exact ⟨b, r, by rw [g3o id hl]; exact a1, by rw [hidden id b 0 0 hk a1]; exact a2, a3, a4, a5, a6, a7, a8, fun t ht => (a9 t ht).evo EE hn3⟩
    · intro id es hg
      by_cases hl : lw id
      · rw [h3live id hl] at hg
        obtain ⟨g0, e0, c0, h4, h5⟩ := hnew id hl.1 hl.2.1 hl.2.2
        rw [h4] at hg
        cases hg
      · by_cases hnw : nw id
        · rw [h3dead id hnw hl] at hg; cases hg
        · rw [h3old id hnw] at hg
          have hk : ¬ kp id := fun hk => by
            obtain ⟨h1, h2, h3, g0, e0, c0, h4, h5⟩ := hkp id hk
            rw [hkH2 id hk, h4] at hg
            cases hg
          obtain ⟨b, a1, a2⟩ := R.mp id es hg
          exact ⟨b, by rw [g3o id hl]; exact a1, by rw [hidden id b 0 0 hk a1]; exact a2⟩
    · intro id hg
      have hnw : ¬ nw id := fun hnw => by
        by_cases hl : lw id
        · rw [h3live id hl] at hg
          obtain ⟨g0, e0, c0, h4, h5⟩ := hnew id hl.1 hl.2.1 hl.2.2
          rw [h4] at hg
          cases hg
        · rw [h3dead id hnw hl] at hg; cases hg
      rw [h3old id hnw] at hg
      rw [g3o id fun h => hnw ⟨h.1, h.2.1⟩]
      exact R.rsv id hg
    · intro id id' b base n base' n' h h'
      by_cases hl : lw id <;> by_cases hl' : lw id'
      · rw [g3l id hl] at h; rw [g3l id' hl'] at h'; exact R'.inj _ _ _ _ _ _ _ h h'
      · rw [g3l id hl] at h; rw [g3o id' hl'] at h'
        have := hfar id b base n hl h
        have := R.lt _ _ _ _ h'
        omega
      · rw [g3o id hl] at h; rw [g3l id' hl'] at h'
        have := hfar id' b base' n' hl' h'
        have := R.lt _ _ _ _ h
        omega
      · rw [g3o id hl] at h; rw [g3o id' hl'] at h'; exact R.inj _ _ _ _ _ _ _ h h'
    · intro id x h
      by_cases hl : lw id
      · obtain ⟨g0, e0, c0, h4, h5⟩ := hnew id hl.1 hl.2.1 hl.2.2
        exact ⟨_, by rw [h3live id hl]; exact h4⟩
      · rw [g3o id hl] at h
        by_cases hnw : nw id
        · exact ⟨_, h3dead id hnw hl⟩
        · obtain ⟨y, hy⟩ := R.dom id x h
          exact ⟨y, by rw [h3old id hnw]; exact hy⟩
    · intro id b base n h
      by_cases hl : lw id
      · rw [g3l id hl] at h; exact R'.lt _ _ _ _ h
      · rw [g3o id hl] at h; exact Nat.lt_of_lt_of_le (R.lt _ _ _ _ h) E.size
    · intro id y h
      by_cases hnw : nw id
      · have := hnw.2
        exact Nat.lt_of_lt_of_le this hnle
      · rw [h3old id hnw] at h; exact R.next id y h
    · intro g cells h
      exact (R.glob g cells h).evo EE hn3
    · exact R.gszEvo EE
  refine ⟨.ret v, H3, Γ3, ?_, ⟨rfl, rfl⟩, R3, EE, hn3⟩
  cases e with
  | returned cv => exact hv.sound hK hle3 hend
  | panicked chain => exact hend.elim
  | outgrown => exact hend.elim

end Go.Hx.Ev
