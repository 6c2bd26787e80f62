/-
  Rewrite rules by which the formula is reckoned out. Own work: no program stands in this text.
-/
import Derived.Test.YtcccmbeolcjacaaHxO
namespace Go.Hx
variable {P : Program} {G : Nat → Option (List AVal)}

/-! ### options and branches -/
theorem wpo_some {α : Type} (a : α) (K : α → Prop) : wpo (some a) K = K a := by simp [wpo]
theorem wpo_none {α : Type} (K : α → Prop) : wpo none K = False := by simp [wpo]
theorem wpo_bind {α β : Type} (o : Option α) (f : α → Option β) (K : β → Prop) : wpo (o.bind f) K = wpo o fun a => wpo (f a) K := by
  cases o <;> simp [wpo]
theorem wpo_map {α β : Type} (o : Option α) (f : α → β) (K : β → Prop) : wpo (o.map f) K = wpo o fun a => K (f a) := by
  cases o <;> simp [wpo]
theorem wpo_ite {α : Type} (c : Prop) [Decidable c] (a : Option α) (K : α → Prop) : wpo (if c then a else none) K = (c ∧ wpo a K) := by
  by_cases h : c <;> simp [h, wpo]
theorem wpo_congr {α : Type} {o o' : Option α} {K : α → Prop} (h : o = o') : wpo o K = wpo o' K := by rw [h]

theorem Branch_true (p q : Prop) : Branch true p q = p := by simp [Branch]
theorem Branch_false (p q : Prop) : Branch false p q = q := by simp [Branch]
theorem Branch_congr {t t' : Bool} {p q : Prop} (h : t = t') : Branch t p q = Branch t' p q := by rw [h]
theorem Branch.mk {t : Bool} {p q : Prop} (h1 : t = true → p) (h2 : t = false → q) : Branch t p q := ⟨h1, h2⟩

theorem AApply_congr {fv fv' : AVal} {args args' : List AVal} {H H' : AHeap} {K : ARes → AHeap → Prop} (h1 : fv = fv') (h2 : args = args') (h3 : H = H') : AApply P G fv args H K = AApply P G fv' args' H' K := by
  rw [h1, h2, h3]
theorem ACall_congr {f : FuncId} {args args' : List AVal} {H H' : AHeap} {K : ARes → AHeap → Prop} (h2 : args = args') (h3 : H = H') : ACall P G f args H K = ACall P G f args' H' K := by
  rw [h2, h3]
theorem W_congr {n : Nat} {rd : Option Nat} {c : Code} {Q : AX → St → Prop} {s s' : St} (h : s = s') : W P G n rd c Q s = W P G n rd c Q s' := by rw [h]

attribute [congr] wpo_congr Branch_congr AApply_congr ACall_congr W_congr

theorem thenA_normal (K : St → Prop) (Q : AX → St → Prop) (s : St) : thenA K Q .normal s = K s := rfl
theorem thenA_exit (K : St → Prop) (Q : AX → St → Prop) (i : Nat) (s : St) : thenA K Q (.exit i) s = Q (.exit i) s := rfl
theorem thenA_goto (K : St → Prop) (Q : AX → St → Prop) (i : Nat) (s : St) : thenA K Q (.goto i) s = Q (.goto i) s := rfl
theorem thenA_ret (K : St → Prop) (Q : AX → St → Prop) (s : St) : thenA K Q .ret s = Q .ret s := rfl
theorem thenA_panic (K : St → Prop) (Q : AX → St → Prop) (s : St) : thenA K Q .panic s = Q .panic s := rfl
theorem blockA_normal (i : Nat) (Q : AX → St → Prop) (s : St) : blockA i Q .normal s = Q .normal s := rfl
theorem blockA_exit (i j : Nat) (Q : AX → St → Prop) (s : St) : blockA i Q (.exit j) s = if j = i then Q .normal s else Q (.exit j) s := rfl
theorem blockA_goto (i j : Nat) (Q : AX → St → Prop) (s : St) : blockA i Q (.goto j) s = Q (.goto j) s := rfl
theorem blockA_ret (i : Nat) (Q : AX → St → Prop) (s : St) : blockA i Q .ret s = Q .ret s := rfl
theorem blockA_panic (i : Nat) (Q : AX → St → Prop) (s : St) : blockA i Q .panic s = Q .panic s := rfl
theorem noGoto_normal (Q : AX → St → Prop) (s : St) : noGoto Q .normal s = Q .normal s := rfl
theorem noGoto_exit (i : Nat) (Q : AX → St → Prop) (s : St) : noGoto Q (.exit i) s = Q (.exit i) s := rfl
theorem noGoto_ret (Q : AX → St → Prop) (s : St) : noGoto Q .ret s = Q .ret s := rfl
theorem noGoto_panic (Q : AX → St → Prop) (s : St) : noGoto Q .panic s = Q .panic s := rfl

section code
variable {n : Nat} {rd : Option Nat} {Q : AX → St → Prop} {s : St}
theorem vc_skip : vc P G n rd .skip Q s = Q .normal s := rfl
theorem vc_label (l : Nat) : vc P G n rd (.label l) Q s = Q .normal s := rfl
theorem vc_region (id : Nat) (ops : Array Oper) : vc P G n rd (.region id ops false) Q s = opsV P G rd Q ops ops.toList s := rfl
theorem vc_draw (id : Nat) (ops : Array Oper) : vc P G n rd (.region id ops true) Q s = W P G n rd (.region id ops true) Q s := rfl
theorem vc_seq (a b : Code) : vc P G n rd (.seq a b) Q s = vc P G n rd a (thenA (vc P G n rd b Q) Q) s := rfl
theorem vc_block (id : Nat) (c : Code) : vc P G n rd (.block id c) Q s = vc P G n rd c (blockA id Q) s := rfl
theorem vc_loop (c : Code) : vc P G n rd (.loop c) Q s = W P G n rd (.loop c) Q s := rfl
theorem vc_rangeFunc (f : Operand) (ps : Array Tmp) (asg c : Code) : vc P G n rd (.rangeFunc f ps asg c) Q s = W P G n rd (.rangeFunc f ps asg c) Q s := rfl
theorem vc_exit (i : Nat) : vc P G n rd (.exit i) Q s = Q (.exit i) s := rfl
theorem vc_scope (c : Code) : vc P G n rd (.scope c) Q s = vc P G n rd c (noGoto Q) s := rfl
theorem vc_goto (i : Nat) : vc P G n rd (.goto i) Q s = Q (.goto i) s := rfl
theorem vc_ret : vc P G n rd .ret Q s = Q .ret s := rfl
def boolA : AVal → Option Bool
  | .lit (.bool t) => some t
  | _ => none
theorem boolA_lit (t : Bool) : boolA (.lit (.bool t)) = some t := rfl
theorem vc_cond (c : Operand) (a b : Code) : vc P G n rd (.cond c a b) Q s = wpo (boolA (evA G s.ρ c)) fun t => Branch t (vc P G n rd a Q s) (vc P G n rd b Q s) := by
  simp only [vc]
  congr 1
end code

theorem evA_tmp (ρ : Env) (t : Tmp) : evA G ρ (.tmp t) = ρ t := rfl
theorem evA_const (ρ : Env) (v : Value) : evA G ρ (.const v) = .lit v := rfl
theorem evA_func (ρ : Env) (f : FuncId) : evA G ρ (.func f) = .clo f [] [] := rfl
theorem evA_global (ρ : Env) (g : Nat) : evA G ρ (.global g) = match G g with | some cells => .vptr cells 0 | none => .lit (.pointer (some ⟨g, 0, none⟩)) := rfl
theorem putA_app (ρ : Env) (d : Tmp) (v : AVal) (t : Tmp) : putA ρ (some d) v t = if t = d then v else ρ t := rfl
theorem putA_none (ρ : Env) (v : AVal) : putA ρ none v = ρ := rfl
theorem mask_app (ws : Nat) (ρ ρ₀ : Env) (t : Nat) : mask ws ρ ρ₀ t = if ws / 2 ^ t % 2 = 1 then ρ t else ρ₀ t := rfl

def iv : AVal → Int
  | .lit (.int _ n) => n
  | _ => 0
theorem iv_int (k : IntKind) (n : Int) : iv (.lit (.int k n)) = n := rfl
theorem envOf_app (l : List AVal) (t : Nat) : envOf l t = (l[t]?).getD (.lit undef) := rfl

theorem bodyQ_ret (rs : List ResultVar) (H : AHeap) (K : ARes → AHeap → Prop) (s : St) : bodyQ P G rs H K .ret s = wpo (resA P s.H s.ρ rs) fun vs => FinV P G H K (resV vs) s.H := rfl
theorem bodyQ_normal (rs : List ResultVar) (H : AHeap) (K : ARes → AHeap → Prop) (s : St) : bodyQ P G rs H K .normal s = wpo (resA P s.H s.ρ rs) fun vs => FinV P G H K (resV vs) s.H := rfl
theorem resA_nil (H : AHeap) (ρ : Env) : resA P H ρ [] = some [] := rfl
theorem resA_tmp (H : AHeap) (ρ : Env) (t : Tmp) (r : List ResultVar) : resA P H ρ (.tmp t :: r) = (resA P H ρ r).map (ρ t :: ·) := rfl
theorem resA_cell (H : AHeap) (ρ : Env) (a : Tmp) (t : TypeId) (r : List ResultVar) : resA P H ρ (.cell a t :: r) = (loadA P H t (ρ a)).bind fun v => (resA P H ρ r).map (v :: ·) := rfl
theorem resV_one (v : AVal) : resV [v] = v := rfl
theorem resV_two (v u : AVal) (r : List AVal) : resV (v :: u :: r) = .tup (v :: u :: r) := rfl
theorem resV_nil : resV [] = .tup [] := rfl

/-! ### operations -/
section ops
variable {rd : Option Nat} {Q : AX → St → Prop} {K : St → Prop} {s : St} {d : Option Tmp} {ty : TypeId} {pos : String} {aft : Array Edge} {g : Option (Nat × Bool)}

theorem opsV_nil (all : Array Oper) : opsV P G rd Q all [] s = Q .normal s := rfl
theorem opsV_plain (all : Array Oper) (op : Op) (rest : List Oper) : opsV P G rd Q all (⟨d, op, ty, pos, aft, none⟩ :: rest) s = opV P G rd Q ⟨d, op, ty, pos, aft, none⟩ (opsV P G rd Q all rest) s := by
  simp [opsV, wantA, wpo_some]
theorem opsV_guard (all : Array Oper) (op : Op) (rest : List Oper) (j : Nat) (want : Bool) : opsV P G rd Q all (⟨d, op, ty, pos, aft, some (j, want)⟩ :: rest) s =
    wpo (wantA all s.ρ ⟨d, op, ty, pos, aft, some (j, want)⟩) fun t => if t = true then opV P G rd Q ⟨d, op, ty, pos, aft, some (j, want)⟩ (opsV P G rd Q all rest) s else opsV P G rd Q all rest ⟨putA s.ρ d (.lit undef), s.H⟩ := rfl

theorem opV_call (fv : Operand) (args : Array Operand) (ats : Array TypeId) : opV P G rd Q ⟨d, .call ⟨.value fv, args, ats⟩, ty, pos, aft, g⟩ K s =
    AApply P G (evA G s.ρ fv) (args.toList.map (evA G s.ρ)) s.H fun r H' => RdIn H' rd ∧ match r with
      | .ret v => K ⟨putA s.ρ d v, H'⟩
      | .panic => Q .panic ⟨s.ρ, H'⟩ := rfl
theorem opV_panic (x : Operand) : opV P G rd Q ⟨d, .panic x, ty, pos, aft, g⟩ K s = ((∃ t v, (evA G s.ρ x) = .lit (.iface t v)) ∧ Q .panic s) := rfl
theorem opV_move (x : Operand) : opV P G rd Q ⟨d, .move x, ty, pos, aft, g⟩ K s = K ⟨putA s.ρ d (evA G s.ρ x), s.H⟩ := by simp [opV, opA, wpo_some]
theorem opV_assign (x : Operand) : opV P G rd Q ⟨d, .assign x, ty, pos, aft, g⟩ K s = K ⟨putA s.ρ d (evA G s.ρ x), s.H⟩ := by simp [opV, opA, wpo_some]
theorem opV_pick (c a b : Operand) : opV P G rd Q ⟨d, .pick c a b, ty, pos, aft, g⟩ K s = wpo (match evA G s.ρ c with | .lit (.bool t) => some t | _ => none) fun t => K ⟨putA s.ρ d (if t then evA G s.ρ a else evA G s.ρ b), s.H⟩ := by
  simp only [opV, opA]
  split <;> simp_all [wpo_some, wpo_none]
theorem opV_alloc (e : TypeId) : opV P G rd Q ⟨d, .alloc e, ty, pos, aft, g⟩ K s = wpo (zeroA P e) fun z => wpo (s.H.lay s.H.next (.arr 0 e z)) fun H' => K ⟨putA s.ρ d (.ptr s.H.next 0 0), H'⟩ := by
  simp [opV, opA, wpo_bind, wpo_map]
theorem opV_box (e : TypeId) (x : Operand) : opV P G rd Q ⟨d, .box e x, ty, pos, aft, g⟩ K s = wpo (s.H.lay s.H.next (.arr 0 e (evA G s.ρ x).cells)) fun H' => K ⟨putA s.ρ d (.ptr s.H.next 0 0), H'⟩ := by
  simp [opV, opA, wpo_map]
theorem opV_build (t : TypeId) (parts : Array (Nat × Operand)) : opV P G rd Q ⟨d, .build t parts, ty, pos, aft, g⟩ K s = wpo (buildA P t (parts.toList.map fun p => (p.1, evA G s.ρ p.2))) fun v => K ⟨putA s.ρ d v, s.H⟩ := by
  simp [opV, opA, wpo_map]
theorem opV_buildSlice (t : TypeId) (len : Nat) (parts : Array (Nat × Operand)) : opV P G rd Q ⟨d, .buildSlice t len parts, ty, pos, aft, g⟩ K s =
    wpo (buildSliceA P s.H s.H.next t len (parts.toList.map fun p => (p.1, evA G s.ρ p.2))) fun vH => K ⟨putA s.ρ d vH.1, vH.2⟩ := by
  simp [opV, opA]
theorem opV_load (t : TypeId) (a : Operand) : opV P G rd Q ⟨d, .load t a, ty, pos, aft, g⟩ K s = wpo (loadA P s.H t (evA G s.ρ a)) fun v => K ⟨putA s.ρ d v, s.H⟩ := by
  simp [opV, opA, wpo_map]
theorem opV_store (t : TypeId) (a x : Operand) : opV P G rd Q ⟨d, .store t a x, ty, pos, aft, g⟩ K s = ((P.underlying t).isSome = true ∧ wpo (storeA P s.H t (evA G s.ρ a) (evA G s.ρ x)) fun H' => K ⟨putA s.ρ d (.lit undef), H'⟩) := by
  simp [opV, opA, wpo_ite, wpo_map]
theorem opV_nilCheck (x : Operand) : opV P G rd Q ⟨d, .nilCheck x, ty, pos, aft, g⟩ K s = wpo (nilCheckA s.H (evA G s.ρ x)) fun v => K ⟨putA s.ρ d v, s.H⟩ := by
  simp [opV, opA, wpo_map]
theorem opV_binOp (op : BinOp) (t : TypeId) (x y : Operand) (u : TypeId) : opV P G rd Q ⟨d, .binOp op t x y u, ty, pos, aft, g⟩ K s =
    nilK P op t (nilOf op (evA G s.ρ x) (evA G s.ρ y)) (fun v => K ⟨putA s.ρ d v, s.H⟩) (wpo (binA P op t x y (evA G s.ρ x) (evA G s.ρ y)) fun v => K ⟨putA s.ρ d v, s.H⟩) := by
  simp [opV, opA, wpo_map]
theorem nilK_none (op : BinOp) (t : TypeId) (Kb : AVal → Prop) (p : Prop) : nilK P op t none Kb p = p := rfl
theorem nilK_some (op : BinOp) (t : TypeId) (k : Bool) (Kb : AVal → Prop) (p : Prop) : nilK P op t (some k) Kb p = (sliceT (P.underlying t) = true ∧ ∀ b : Bool, (k = true → b = false) → Kb (.lit (.bool (if op == .neq then !b else b)))) := rfl
theorem sliceT_slice (e : TypeId) : sliceT (some (.slice e)) = true := rfl
theorem nilOf_lit (op : BinOp) (v : Value) (y : AVal) : nilOf op (.lit v) y = none := by
  unfold nilOf
  split <;> rfl
theorem nilOf_eql (n : Nat) (cells : List AVal) : nilOf .eql (.vec n cells) (.lit (.slice none 0 0)) = some (decide (0 < n)) := rfl
theorem nilOf_neq (n : Nat) (cells : List AVal) : nilOf .neq (.vec n cells) (.lit (.slice none 0 0)) = some (decide (0 < n)) := rfl
theorem eql_neq : (BinOp.eql == BinOp.neq) = false := rfl
theorem neq_neq : (BinOp.neq == BinOp.neq) = true := rfl
theorem opV_unOp (op : UnOp) (t : TypeId) (x : Operand) : opV P G rd Q ⟨d, .unOp op t x, ty, pos, aft, g⟩ K s = wpo (unA P op (evA G s.ρ x)) fun v => K ⟨putA s.ρ d v, s.H⟩ := by
  simp [opV, opA, wpo_map]
theorem opV_convert (a b : TypeId) (x : Operand) : opV P G rd Q ⟨d, .convert a b x, ty, pos, aft, g⟩ K s = wpo (convA P a b (evA G s.ρ x)) fun v => K ⟨putA s.ρ d v, s.H⟩ := by
  simp [opV, opA, wpo_map]
theorem opV_makeInterface (t : TypeId) (x : Operand) : opV P G rd Q ⟨d, .makeInterface t x, ty, pos, aft, g⟩ K s =
    wpo (match (evA G s.ρ x).toVal with | some v => (pureRun P (Instr.makeInterface t v)).map AVal.lit | none => none) fun v => K ⟨putA s.ρ d v, s.H⟩ := by
  simp only [opV, opA]
  split <;> simp_all [wpo_none, wpo_map]
theorem opV_makeFunc (f : FuncId) (first cap : Array Operand) : opV P G rd Q ⟨d, .makeFunc (.func f) first cap, ty, pos, aft, g⟩ K s = K ⟨putA s.ρ d (.clo f (first.toList.map (evA G s.ρ)) (cap.toList.map (evA G s.ρ))), s.H⟩ := by
  simp [opV, opA, wpo_some]
theorem opV_makeSlice (t : TypeId) (l c : Operand) : opV P G rd Q ⟨d, .makeSlice t l c, ty, pos, aft, g⟩ K s = wpo (makeSliceA P s.H s.H.next t (evA G s.ρ l) (evA G s.ρ c)) fun vH => K ⟨putA s.ρ d vH.1, vH.2⟩ := by
  simp [opV, opA]
theorem opV_slice (t : TypeId) (x : Operand) (lo hi : Option Operand) : opV P G rd Q ⟨d, .slice t x lo hi none, ty, pos, aft, g⟩ K s =
    wpo (sliceA P s.H t (evA G s.ρ x) (lo.map (evA G s.ρ)) (hi.map (evA G s.ρ))) fun v => K ⟨putA s.ρ d v, s.H⟩ := by
  simp [opV, opA, wpo_map]
def fieldAddrA (P : Program) (H : AHeap) (s : TypeId) (f : Nat) (x : AVal) : Option AVal :=
  (fieldA P s f).bind fun of => match x with
    | .ptr id gen off => (H.live id gen).map fun _ => .ptr id gen (off + of.1)
    | .vptr cells off => some (.vptr cells (off + of.1))
    | _ => none
theorem opV_fieldAddr (t : TypeId) (x : Operand) (f : Nat) : opV P G rd Q ⟨d, .fieldAddr t x f, ty, pos, aft, g⟩ K s = wpo (fieldAddrA P s.H t f (evA G s.ρ x)) fun v => K ⟨putA s.ρ d v, s.H⟩ := by
  simp only [opV, opA, fieldAddrA, wpo_bind]
  congr 1
  funext of
  split <;> simp_all [wpo_none, wpo_map, wpo_some]
def fieldVA (P : Program) (t : TypeId) (f : Nat) (x : AVal) : Option AVal :=
  (fieldA P t f).bind fun of => match x with
    | .agg cells => partA P of.2 cells of.1
    | .lit (.agg cs) => partA P of.2 (cs.toList.map .lit) of.1
    | _ => none
theorem opV_field (t : TypeId) (x : Operand) (f : Nat) : opV P G rd Q ⟨d, .field t x f, ty, pos, aft, g⟩ K s = wpo (fieldVA P t f (evA G s.ρ x)) fun v => K ⟨putA s.ρ d v, s.H⟩ := by
  simp only [opV, opA, fieldVA, wpo_bind]
  congr 1
  funext of
  split <;> simp_all [wpo_none, wpo_map]
def indexAddrV (P : Program) (H : AHeap) (t : TypeId) (x i : AVal) : Option AVal := match i with
  | .lit (.int _ i) => indexAddrA P H t x i
  | _ => none
theorem opV_indexAddr (t : TypeId) (x i : Operand) : opV P G rd Q ⟨d, .indexAddr t x i, ty, pos, aft, g⟩ K s = wpo (indexAddrV P s.H t (evA G s.ρ x) (evA G s.ρ i)) fun v => K ⟨putA s.ρ d v, s.H⟩ := by
  simp only [opV, opA, indexAddrV]
  split <;> simp_all [wpo_none, wpo_map]
theorem opV_index (t : TypeId) (x i : Operand) : opV P G rd Q ⟨d, .index t x i, ty, pos, aft, g⟩ K s = wpo (indexA P t (evA G s.ρ x) (evA G s.ρ i)) fun v => K ⟨putA s.ρ d v, s.H⟩ := by
  simp [opV, opA, wpo_map]
theorem opV_extract (t : Operand) (i : Nat) : opV P G rd Q ⟨d, .extract t i, ty, pos, aft, g⟩ K s = wpo (extractA (evA G s.ρ t) i) fun v => K ⟨putA s.ρ d v, s.H⟩ := by
  simp [opV, opA, wpo_map]
theorem opV_builtin (b : Builtin) (args : Array Operand) (ats : Array TypeId) : opV P G rd Q ⟨d, .call ⟨.builtin b, args, ats⟩, ty, pos, aft, g⟩ K s =
    wpo (builtinA P s.H s.H.next b ats.toList (args.toList.map (evA G s.ρ))) fun vH => K ⟨putA s.ρ d vH.1, vH.2⟩ := by
  simp [opV, opA]
end ops

/-! ### builtins -/
theorem builtin_len (H : AHeap) (id : Nat) (t : TypeId) (x : AVal) : builtinA P H id .len [t] [x] = (lenA P H t x).map fun v => (v, H) := rfl
theorem builtin_append (H : AHeap) (id : Nat) (t u : TypeId) (s x : AVal) : builtinA P H id .append [t, u] [s, x] = appendA P H id t u s x := rfl
theorem builtin_copy (H : AHeap) (id : Nat) (t u : TypeId) (s x : AVal) : builtinA P H id .copy [t, u] [s, x] = copyA P H t s x := rfl
theorem builtin_min (H : AHeap) (id : Nat) (ts : List TypeId) (k : IntKind) (a b : Int) : builtinA P H id .min ts [.lit (.int k a), .lit (.int k b)] = some (.lit (.int k (if b < a then b else a)), H) := by
  cases ts with
  | nil => rfl
  | cons t ts => rfl
theorem builtin_max (H : AHeap) (id : Nat) (ts : List TypeId) (k : IntKind) (a b : Int) : builtinA P H id .max ts [.lit (.int k a), .lit (.int k b)] = some (.lit (.int k (if b > a then b else a)), H) := by
  cases ts with
  | nil => rfl
  | cons t ts => rfl

/-! ### numbers -/
section nums
variable {t : TypeId} {x y : Operand} {k : IntKind} {a b : Int}
theorem bin_add : binA P .add t x y (.lit (.int k a)) (.lit (.int k b)) = some (.lit (.int k (k.wrap (a + b)))) := by
  simp [binA, AVal.toVal, eqGuard, binOp, Op.intArith, pureRun, bind, Sem.bind, pure]
theorem bin_sub : binA P .sub t x y (.lit (.int k a)) (.lit (.int k b)) = some (.lit (.int k (k.wrap (a - b)))) := by
  simp [binA, AVal.toVal, eqGuard, binOp, Op.intArith, pureRun, bind, Sem.bind, pure]
theorem bin_mul : binA P .mul t x y (.lit (.int k a)) (.lit (.int k b)) = some (.lit (.int k (k.wrap (a * b)))) := by
  simp [binA, AVal.toVal, eqGuard, binOp, Op.intArith, pureRun, bind, Sem.bind, pure]
theorem bin_quo : binA P .quo t x y (.lit (.int k a)) (.lit (.int k b)) = if b ≠ 0 then some (.lit (.int k (k.wrap (a.tdiv b)))) else none := by
  by_cases h : b = 0 <;> simp [h, binA, AVal.toVal, eqGuard, binOp, Op.intDiv, runtimePanic, program, goPanic, pureRun, bind, Sem.bind, pure]
theorem bin_rem : binA P .rem t x y (.lit (.int k a)) (.lit (.int k b)) = if b ≠ 0 then some (.lit (.int k (a.tmod b))) else none := by
  by_cases h : b = 0 <;> simp [h, binA, AVal.toVal, eqGuard, binOp, Op.intDiv, runtimePanic, program, goPanic, pureRun, bind, Sem.bind, pure]
theorem bin_lss : binA P .lss t x y (.lit (.int k a)) (.lit (.int k b)) = some (.lit (.bool (decide (a < b)))) := by
  simp [binA, AVal.toVal, eqGuard, binOp, Op.intCmp, pureRun, bind, Sem.bind, pure]
theorem bin_leq : binA P .leq t x y (.lit (.int k a)) (.lit (.int k b)) = some (.lit (.bool (decide (a ≤ b)))) := by
  simp [binA, AVal.toVal, eqGuard, binOp, Op.intCmp, pureRun, bind, Sem.bind, pure]
theorem bin_gtr : binA P .gtr t x y (.lit (.int k a)) (.lit (.int k b)) = some (.lit (.bool (decide (b < a)))) := by
  simp [binA, AVal.toVal, eqGuard, binOp, Op.intCmp, pureRun, bind, Sem.bind, pure]
theorem bin_geq : binA P .geq t x y (.lit (.int k a)) (.lit (.int k b)) = some (.lit (.bool (decide (b ≤ a)))) := by
  simp [binA, AVal.toVal, eqGuard, binOp, Op.intCmp, pureRun, bind, Sem.bind, pure]
theorem bin_eql : binA P .eql t x y (.lit (.int k a)) (.lit (.int k b)) = some (.lit (.bool (decide (a = b)))) := by
  simp [binA, AVal.toVal, eqGuard, binOp, Op.intCmp, pureRun, bind, Sem.bind, pure]
  rfl
theorem bin_neq : binA P .neq t x y (.lit (.int k a)) (.lit (.int k b)) = some (.lit (.bool (!decide (a = b)))) := by
  simp [binA, AVal.toVal, eqGuard, binOp, Op.intCmp, pureRun, bind, Sem.bind, pure]
  rfl
theorem un_neg {op : UnOp} (h : op = .neg) : unA P op (.lit (.int k a)) = some (.lit (.int k (k.wrap (0 - a)))) := by
  subst h; rfl
theorem un_not (v : Bool) : unA P .not (.lit (.bool v)) = some (.lit (.bool (!v))) := rfl
theorem conv_int {s d : TypeId} {k' : IntKind} (hs : (P.underlying s).isSome = true) (hd : P.underlying d = some (.int k')) : convA P s d (.lit (.int k a)) = some (.lit (.int k' (k'.wrap a))) := by
  obtain ⟨ds, hs⟩ := Option.isSome_iff_exists.1 hs
  simp only [convA, AVal.toVal]
  have : pureRun P (convert s d (.int k a)) = some (.int k' (k'.wrap a)) := by
    simp [convert, underlying, program, hs, hd, pureRun, bind, Sem.bind, pure, Conv.intToInt]
  rw [this]
  rfl
end nums

/-! ### the heap of a call: what was there, and blocks of its own -/
def ext (H : AHeap) (L : List Blk) : AHeap :=
  { get := fun j => if H.next ≤ j ∧ j < H.next + L.length then L[j - H.next]? else H.get j, next := H.next + L.length }

theorem ext_nil (H : AHeap) : ext H [] = H := by
  unfold ext
  have : (fun j => if H.next ≤ j ∧ j < H.next + ([] : List Blk).length then ([] : List Blk)[j - H.next]? else H.get j) = H.get := by
    funext j
    rw [if_neg]
    simp only [List.length_nil]
    omega
  rw [this]
  rfl
theorem ext_next (H : AHeap) (L : List Blk) : (ext H L).next = H.next + L.length := rfl
theorem lay_next (H : AHeap) (b : Blk) : H.lay H.next b = some (ext H [b]) := by
  unfold AHeap.lay ext
  rw [if_pos rfl]
  congr 2
  funext j
  by_cases h : j = H.next
  · subst h; simp
  · rw [if_neg h, if_neg]
    simp only [List.length_cons, List.length_nil]
    omega
theorem lay_ext (H : AHeap) (L : List Blk) (b : Blk) : (ext H L).lay (H.next + L.length) b = some (ext H (L ++ [b])) := by
  unfold AHeap.lay
  rw [if_pos (ext_next H L).symm]
  unfold ext
  congr 2
  · funext j
    simp only [List.length_append, List.length_cons, List.length_nil]
    by_cases h : j = H.next + L.length
    · subst h
      rw [if_pos rfl, if_pos (by omega), Nat.add_sub_cancel_left]
      simp
    · rw [if_neg h]
      by_cases h2 : H.next ≤ j ∧ j < H.next + L.length
      · rw [if_pos h2, if_pos (by omega), List.getElem?_append_left (by omega)]
      · rw [if_neg h2, if_neg (by omega)]
  · simp only [List.length_append, List.length_cons, List.length_nil]; omega
theorem get_ext (H : AHeap) (L : List Blk) (i : Nat) (h : i < L.length) : (ext H L).get (H.next + i) = L[i]? := by
  unfold ext
  simp only
  rw [if_pos (by omega), Nat.add_sub_cancel_left]
theorem get_ext_old (H : AHeap) (L : List Blk) (i : Nat) (h : i < H.next) : (ext H L).get i = H.get i := by
  unfold ext
  simp only
  rw [if_neg (by omega)]
theorem upd_ext (H : AHeap) (L : List Blk) (i : Nat) (b : Blk) (h : i < L.length) : (ext H L).upd (H.next + i) b = ext H (L.set i b) := by
  unfold ext AHeap.upd
  simp only [List.length_set]
  congr 1
  funext j
  by_cases hj : j = H.next + i
  · subst hj
    rw [if_pos rfl, if_pos (by omega), Nat.add_sub_cancel_left, List.getElem?_set_self h]
  · rw [if_neg hj]
    by_cases h2 : H.next ≤ j ∧ j < H.next + L.length
    · rw [if_pos h2, if_pos h2, List.getElem?_set_ne (by omega)]
    · rw [if_neg h2, if_neg h2]

def liveL (b : Option Blk) (gen : Nat) : Option (TypeId × List AVal) :=
  match b with
  | some (.arr g e cells) => if g = gen then some (e, cells) else none
  | _ => none
theorem liveL_some (g gen : Nat) (e : TypeId) (cells : List AVal) : liveL (some (.arr g e cells)) gen = if g = gen then some (e, cells) else none := rfl
theorem live_ext (H : AHeap) (L : List Blk) (i gen : Nat) (h : i < L.length) : (ext H L).live (H.next + i) gen = liveL L[i]? gen := by
  unfold AHeap.live liveL
  rw [get_ext H L i h]
  rfl
theorem live_ext0 (H : AHeap) (b : Blk) (L : List Blk) (gen : Nat) : (ext H (b :: L)).live H.next gen = liveL (some b) gen := live_ext H (b :: L) 0 gen (by simp)
theorem upd_ext0 (H : AHeap) (c : Blk) (L : List Blk) (b : Blk) : (ext H (c :: L)).upd H.next b = ext H (b :: L) := upd_ext H (c :: L) 0 b (by simp)

end Go.Hx
