/-
  An evaluator of code on abstract states, made for the kernel. Own work: no program stands in this text.
-/
import Derived.Test.YtcccmbeolcjacaaHxFr
namespace Go.Hx

/-! ### stores -/
inductive BT (α : Type) where
  | nil
  | node (v : Option α) (l r : BT α)

inductive EBlk where
  | arr (gen : Nat) (elem : TypeId) (cells : List AVal)
  | loop (st : LoopState) (pend : Option Code) (n : Nat) (env : BT AVal) (ps : Array Tmp) (asg body : Code)

structure EH where
  hp : BT EBlk
  nx : Nat

/-- What a piece of code, or a call, comes to. -/
inductive RR where
  | ev (x : AX) (env : BT AVal) (h : EH)
  | ret (v : AVal) (h : EH)
  | panic (h : EH)
abbrev R := Option RR

noncomputable def getA : BT AVal → Nat → Option AVal :=
  BT.rec (motive := fun _ => Nat → Option AVal) (fun _ => none) (fun v _ _ gl gr n =>
    Nat.rec (motive := fun _ => Option AVal) v (fun m _ => Nat.rec (motive := fun _ => Option AVal) (gl (Nat.div m 2)) (fun _ _ => gr (Nat.div m 2)) (Nat.mod m 2)) n)
noncomputable def getB : BT EBlk → Nat → Option EBlk :=
  BT.rec (motive := fun _ => Nat → Option EBlk) (fun _ => none) (fun v _ _ gl gr n =>
    Nat.rec (motive := fun _ => Option EBlk) v (fun m _ => Nat.rec (motive := fun _ => Option EBlk) (gl (Nat.div m 2)) (fun _ _ => gr (Nat.div m 2)) (Nat.mod m 2)) n)

noncomputable def setNilA : Nat → Nat → AVal → (BT AVal → R) → R :=
  Nat.rec (motive := fun _ => Nat → AVal → (BT AVal → R) → R) (fun _ _ _ => none) (fun _ ih n x k =>
    Nat.rec (motive := fun _ => R) (k (.node (some x) .nil .nil)) (fun m _ => Nat.rec (motive := fun _ => R) (ih (Nat.div m 2) x fun l => k (.node none l .nil)) (fun _ _ => ih (Nat.div m 2) x fun r => k (.node none .nil r)) (Nat.mod m 2)) n)
noncomputable def setA : BT AVal → Nat → AVal → (BT AVal → R) → R :=
  BT.rec (motive := fun _ => Nat → AVal → (BT AVal → R) → R) (setNilA 20) (fun v l r sl sr n x k =>
    Nat.rec (motive := fun _ => R) (k (.node (some x) l r)) (fun m _ => Nat.rec (motive := fun _ => R) (sl (Nat.div m 2) x fun l => k (.node v l r)) (fun _ _ => sr (Nat.div m 2) x fun r => k (.node v l r)) (Nat.mod m 2)) n)
noncomputable def setNilB : Nat → Nat → EBlk → (BT EBlk → R) → R :=
  Nat.rec (motive := fun _ => Nat → EBlk → (BT EBlk → R) → R) (fun _ _ _ => none) (fun _ ih n x k =>
    Nat.rec (motive := fun _ => R) (k (.node (some x) .nil .nil)) (fun m _ => Nat.rec (motive := fun _ => R) (ih (Nat.div m 2) x fun l => k (.node none l .nil)) (fun _ _ => ih (Nat.div m 2) x fun r => k (.node none .nil r)) (Nat.mod m 2)) n)
noncomputable def setB : BT EBlk → Nat → EBlk → (BT EBlk → R) → R :=
  BT.rec (motive := fun _ => Nat → EBlk → (BT EBlk → R) → R) (setNilB 20) (fun v l r sl sr n x k =>
    Nat.rec (motive := fun _ => R) (k (.node (some x) l r)) (fun m _ => Nat.rec (motive := fun _ => R) (sl (Nat.div m 2) x fun l => k (.node v l r)) (fun _ _ => sr (Nat.div m 2) x fun r => k (.node v l r)) (Nat.mod m 2)) n)

/-! ### forcing -/
noncomputable def fNat (n : Nat) (k : Nat → R) : R := Nat.rec (motive := fun _ => R) (k 0) (fun m _ => k (Nat.succ m)) n
noncomputable def fInt (i : Int) (k : Int → R) : R := Int.rec (motive := fun _ => R) (fun n => fNat n fun n => k (.ofNat n)) (fun n => fNat n fun n => k (.negSucc n)) i
noncomputable def fBool (b : Bool) (k : Bool → R) : R := Bool.rec (motive := fun _ => R) (k false) (k true) b
noncomputable def fList : List AVal → (List AVal → R) → R :=
  List.rec (motive := fun _ => (List AVal → R) → R) (fun k => k []) (fun x _ ih k => ih fun l => k (x :: l))
noncomputable def fVal (v : Value) (k : Value → R) : R := match v with
  | .int i n => fInt n fun n => k (.int i n)
  | .bool b => fBool b fun b => k (.bool b)
  | v => k v
noncomputable def fLit (v : Value) (k : AVal → R) : R := fVal v fun v => k (.lit v)
noncomputable def fVec (n : Nat) (cs : List AVal) (k : AVal → R) : R := fNat n fun n => fList cs fun cs => k (.vec n cs)
noncomputable def fOwn (a b c d e : Nat) (k : AVal → R) : R := fNat a fun a => fNat b fun b => fNat c fun c => fNat d fun d => fNat e fun e => k (.own a b c d e)
noncomputable def fPtr (a b c : Nat) (k : AVal → R) : R := fNat a fun a => fNat b fun b => fNat c fun c => k (.ptr a b c)
noncomputable def fVptr (cs : List AVal) (n : Nat) (k : AVal → R) : R := fNat n fun n => fList cs fun cs => k (.vptr cs n)
noncomputable def fAgg (cs : List AVal) (k : AVal → R) : R := fList cs fun cs => k (.agg cs)
noncomputable def fTup (cs : List AVal) (k : AVal → R) : R := fList cs fun cs => k (.tup cs)
noncomputable def fClo (f : FuncId) (a b : List AVal) (k : AVal → R) : R := fNat f fun f => fList a fun a => fList b fun b => k (.clo f a b)
noncomputable def fYld (n : Nat) (k : AVal → R) : R := fNat n fun n => k (.yld n)
noncomputable def fAV : AVal → (AVal → R) → R := fun v => AVal.casesOn (motive_1 := fun _ => (AVal → R) → R) v fLit fVec fOwn fPtr fVptr fAgg fTup fClo fYld

noncomputable def toE (env : BT AVal) : Env := fun t => Option.casesOn (motive := fun _ => AVal) (getA env t) (.lit undef) fun v => v
noncomputable def EBlk.toBlk : EBlk → Blk
  | .arr g e c => .arr g e c
  | .loop st p n env ps a b => .loop st p n (toE env) ps a b
noncomputable def toH (h : EH) : AHeap := ⟨fun j => (getB h.hp j).map EBlk.toBlk, h.nx⟩

noncomputable def putE (env : BT AVal) (d : Option Tmp) (v : AVal) (k : BT AVal → R) : R :=
  Option.casesOn (motive := fun _ => R) d (k env) fun d => setA env d v k

/-- An operand, read. -/
noncomputable def evG (G : Nat → Option (List AVal)) (g : Nat) (k : AVal → R) : R :=
  Option.casesOn (motive := fun _ => R) (G g) (k (.lit (.pointer (some ⟨g, 0, none⟩)))) fun cells => fList cells fun cells => k (.vptr cells 0)
noncomputable def evT (env : BT AVal) (t : Tmp) (k : AVal → R) : R := Option.casesOn (motive := fun _ => R) (getA env t) (k (.lit undef)) k
noncomputable def evO (G : Nat → Option (List AVal)) (env : BT AVal) (x : Operand) (k : AVal → R) : R :=
  Operand.casesOn (motive := fun _ => R) x (fun t => evT env t k) (fun v => k (.lit v)) (fun g => evG G g k) (fun f => k (.clo f [] []))
noncomputable def evOs (G : Nat → Option (List AVal)) (env : BT AVal) (l : List Operand) : (List AVal → R) → R :=
  List.rec (motive := fun _ => (List AVal → R) → R) (fun k => k []) (fun x _ ih k => evO G env x fun x => ih fun l => k (x :: l)) l

/-! ### operations -/
inductive OR where
  | fail
  | val (v : AVal)
  | eff (v : AVal) (r g : Nat) (e : TypeId) (cells : List AVal) (fresh : Bool)

noncomputable def OR.opt (o : Option AVal) : OR := Option.casesOn (motive := fun _ => OR) o .fail .val

noncomputable def wrapF (k : IntKind) (i : Int) : Int :=
  match k with
  | .i64 => Int.casesOn (motive := fun _ => Int) i
      (fun n => Bool.casesOn (motive := fun _ => Int) (Nat.ble n 9223372036854775807) (IntKind.i64.wrap (.ofNat n)) (.ofNat n))
      (fun n => Bool.casesOn (motive := fun _ => Int) (Nat.ble n 9223372036854775807) (IntKind.i64.wrap (.negSucc n)) (.negSucc n))
  | k => k.wrap i

noncomputable def ltF (a b : Int) : Bool :=
  Int.casesOn (motive := fun _ => Bool) a
    (fun m => Int.casesOn (motive := fun _ => Bool) b (fun n => Nat.ble (Nat.succ m) n) fun _ => false)
    (fun m => Int.casesOn (motive := fun _ => Bool) b (fun _ => true) fun n => Nat.ble (Nat.succ n) m)
noncomputable def eqF (a b : Int) : Bool :=
  Int.casesOn (motive := fun _ => Bool) a
    (fun m => Int.casesOn (motive := fun _ => Bool) b (fun n => Nat.beq m n) fun _ => false)
    (fun m => Int.casesOn (motive := fun _ => Bool) b (fun _ => false) fun n => Nat.beq m n)

noncomputable def loadF (P : Program) (h : EH) (t : TypeId) (a : AVal) : Option AVal :=
  match a with
  | .ptr id gen off => match getB h.hp id with
    | some (.arr g _ cells) => Bool.casesOn (motive := fun _ => Option AVal) (Nat.beq g gen) none (partA P t cells off)
    | _ => none
  | .vptr cells off => partA P t cells off
  | _ => none
noncomputable def storeF (P : Program) (h : EH) (t : TypeId) (a v : AVal) : OR :=
  match a with
  | .ptr id gen off => match getB h.hp id with
    | some (.arr g e cells) => Bool.casesOn (motive := fun _ => OR) (Nat.beq g gen) .fail
        (if v.cells.length = P.cellsOf t ∧ v.cells.all AVal.one = true ∧ off + v.cells.length ≤ cells.length then .eff (.lit undef) id g e (setAt cells off v.cells) false else .fail)
    | _ => .fail
  | _ => .fail
noncomputable def genF (h : EH) (f : FP) (r : Option (AVal × AHeap)) : OR :=
  match r with
  | none => .fail
  | some (v, H') => match f.eff with
    | [] => .val v
    | r :: _ => match H'.get r with
      | some (.arr g e c) => .eff v r g e c (Nat.beq r h.nx)
      | _ => .fail

noncomputable def applyOR (h : EH) (k : AVal → EH → R) (o : OR) : R :=
  OR.casesOn (motive := fun _ => R) o none (fun v => fAV v fun v => k v h)
   (fun v r g e c fresh => fNat r fun r => fNat g fun g => fList c fun c => setB h.hp r (EBlk.arr g e c) fun hp => fAV v fun v => k v ⟨hp, Bool.casesOn (motive := fun _ => Nat) fresh h.nx (Nat.succ h.nx)⟩)

structure EP where
  P : Program
  G : Nat → Option (List AVal)
  gd : FuncId → Option AVal
  /-- What is known already of a function's calls. -/
  known : FuncId → Option (List (List AVal × AVal))

/-! ### arguments read off, results read off -/
noncomputable def mapV (f : AVal → Option (AVal × List Nat)) (l : List AVal) : Option (List AVal × List Nat) :=
  List.rec (motive := fun _ => Option (List AVal × List Nat)) (some ([], [])) (fun x _ r => match f x, r with
    | some (y, a), some (l, b) => some (y :: l, a ++ b)
    | _, _ => none) l
noncomputable def viewV (h : EH) (fuel : Nat) : AVal → Option (AVal × List Nat) :=
  Nat.rec (motive := fun _ => AVal → Option (AVal × List Nat)) (fun _ => none) (fun _ ih v => match v with
    | .lit v => some (.lit v, [])
    | .vec n c => (mapV ih c).map fun p => (.vec n p.1, p.2)
    | .vptr c o => (mapV ih c).map fun p => (.vptr p.1 o, p.2)
    | .agg c => (mapV ih c).map fun p => (.agg p.1, p.2)
    | .tup c => (mapV ih c).map fun p => (.tup p.1, p.2)
    | .clo f a b => match mapV ih a, mapV ih b with
      | some p, some q => some (.clo f p.1 q.1, p.2 ++ q.2)
      | _, _ => none
    | .own id g o l z => match getB h.hp id with
      | some (.arr g' _ cells) => if g' = g ∧ o + l * z ≤ cells.length then (mapV ih ((cells.drop o).take (l * z))).map fun p => (.vec l p.1, id :: p.2) else none
      | _ => none
    | .ptr id g o => match getB h.hp id with
      | some (.arr g' _ (x :: cells)) => if g' = g then (mapV ih (x :: cells)).map fun p => (.vptr p.1 o, id :: p.2) else none
      | _ => none
    | .yld _ => none) fuel
noncomputable def mapR (f : AVal → Option AVal) (l : List AVal) : Option (List AVal) :=
  List.rec (motive := fun _ => Option (List AVal)) (some []) (fun x _ r => match f x, r with
    | some y, some l => some (y :: l)
    | _, _ => none) l
noncomputable def freshV (h : EH) (fuel : Nat) : AVal → Option AVal :=
  Nat.rec (motive := fun _ => AVal → Option AVal) (fun _ => none) (fun _ ih v => match v with
    | .lit v => some (.lit v)
    | .agg c => (mapR ih c).map .agg
    | .tup c => (mapR ih c).map .tup
    | .own id g o l z => match getB h.hp id with
      | some (.arr g' _ cells) => if g' = g ∧ o + l * z ≤ cells.length then (mapR ih ((cells.drop o).take (l * z))).map (.vec l) else none
      | _ => none
    | _ => none) fuel
noncomputable def eqL (f : AVal → AVal → Bool) (a : List AVal) : List AVal → Bool :=
  List.rec (motive := fun _ => List AVal → Bool) (fun b => match b with | [] => true | _ => false) (fun x _ ih b => match b with
    | [] => false
    | y :: b => match f x y with | true => ih b | false => false) a
noncomputable def eqStep (ih : AVal → AVal → Bool) (a b : AVal) : Bool := match a, b with
  | .lit (.int k x), .lit (.int k' y) => decide (k = k') && eqF x y
  | .lit (.bool x), .lit (.bool y) => x == y
  | .lit (.slice none 0 0), .lit (.slice none 0 0) => true
  | .vec n c, .vec m d => Nat.beq n m && eqL ih c d
  | .vptr c n, .vptr d m => Nat.beq n m && eqL ih c d
  | .agg c, .agg d => eqL ih c d
  | .tup c, .tup d => eqL ih c d
  | .clo f a b, .clo g c d => Nat.beq f g && (eqL ih a c && eqL ih b d)
  | _, _ => false
noncomputable def eqA (fuel : Nat) : AVal → AVal → Bool := Nat.rec (motive := fun _ => AVal → AVal → Bool) (fun _ _ => false) (fun _ ih => eqStep ih) fuel

noncomputable def listE (k : BT AVal → R) (l : List AVal) : Nat → BT AVal → R :=
  List.rec (motive := fun _ => Nat → BT AVal → R) (fun _ t => k t) (fun v _ ih i t => setA t i v fun t => fNat (Nat.succ i) fun i => ih i t) l

noncomputable def rdInE (h : EH) : Option Nat → Bool
  | none => true
  | some id => match getB h.hp id with | some (.loop ..) => true | _ => false

abbrev EvT := Option Nat → Nat → Code → BT AVal → EH → R

section step
variable (E : EP) (ih : EvT)

noncomputable def endRet (nx : Nat) (v : AVal) (h' : EH) : R := Bool.rec (motive := fun _ => R) none (fAV v fun v => some (.ret v h')) (Nat.ble nx h'.nx)
noncomputable def endCall (rs : List ResultVar) (nx : Nat) (r : R) : R := match r with
  | some (.ev .normal env h') => match resA E.P (toH h') (toE env) rs with
    | some vs => endRet nx (resV vs) h'
    | none => none
  | some (.ev .ret env h') => match resA E.P (toH h') (toE env) rs with
    | some vs => endRet nx (resV vs) h'
    | none => none
  | some (.ev .panic _ h') => Bool.rec (motive := fun _ => R) none (some (.panic h')) (Nat.ble nx h'.nx)
  | _ => none

def okFn (fn : Func) (c : Code) : Bool := fits fn.ntmps c && !(fn.name == "runtime.NumGoroutine")
noncomputable def evFn (fn : Func) (c : Code) (args : List AVal) (h : EH) : R :=
  Bool.rec (motive := fun _ => R) none (Bool.rec (motive := fun _ => R) none (listE (fun env => endCall E fn.results.toList h.nx (ih none fn.ntmps c env h)) args 0 .nil) (Nat.ble args.length fn.ntmps)) (okFn fn c)

noncomputable def evCall (f : FuncId) (args : List AVal) (h : EH) : R :=
  Option.rec (motive := fun _ => R) none (fun fn => Option.rec (motive := fun _ => R) none (fun c => evFn E ih fn c args h) fn.body) (E.P.funcs[f]?)

/-- A call over the empty heap: what it gives. -/
noncomputable def evAlone (f : FuncId) (args : List AVal) : Option AVal := match evCall E ih f args ⟨.nil, 0⟩ with
  | some (.ret v h') => freshV h' 40 v
  | _ => none

noncomputable def findK (args : List AVal) (l : List (List AVal × AVal)) : Option AVal :=
  List.rec (motive := fun _ => Option AVal) none (fun p _ ih => Bool.casesOn (motive := fun _ => Option AVal) (eqL (eqA 40) p.1 args) ih (some p.2)) l

noncomputable def endGuard (z : AVal) (r : R) : R := match r with
  | some (.ret v h') => some (.ret (.tup [v, .lit (.int .i64 0)]) h')
  | some (.panic h') => some (.ret (.tup [z, .lit (.int .i64 6)]) h')
  | _ => none

noncomputable def evGuard (z : AVal) (args : List AVal) (h : EH) : R := match args with
  | [.clo g [] cap] => endGuard z (evCall E ih g cap h)
  | _ => none

noncomputable def listP (k : BT AVal → R) : List Tmp → List AVal → BT AVal → R
  | p :: ps, v :: vs, e => setA e p v fun e => listP k ps vs e
  | [], [], e => k e
  | _, _, _ => none

noncomputable def roundEnd (id : Nat) (st : LoopState) (pend : Option Code) (b : Bool) (h2 : EH) : R := match getB h2.hp id with
  | some (.loop _ _ n env ps asg body) => setB h2.hp id (EBlk.loop st pend n env ps asg body) fun hp => some (.ret (.lit (.bool b)) ⟨hp, h2.nx⟩)
  | _ => none
noncomputable def endRound (id : Nat) (r : R) : R := match r with
  | some (.ev .normal _ h2) => roundEnd id .ready none true h2
  | some (.ev .ret _ h2) => roundEnd id .done (some .ret) false h2
  | some (.ev (.exit i) _ h2) => roundEnd id .done (some (.exit i)) false h2
  | _ => none

noncomputable def evBody (id n : Nat) (body : Code) (r : R) : R := match r with
  | some (.ev .normal e h1) => match getB h1.hp id with
    | some (.loop .ready pend n2 env2 ps2 asg2 body2) => setB h1.hp id (EBlk.loop .busy pend n2 env2 ps2 asg2 body2) fun hp1 => endRound id (ih (some id) n body e ⟨hp1, h1.nx⟩)
    | _ => none
  | _ => none

def okV (v : Option AVal) (b n : Nat) : Bool := match v with
  | none => true
  | some _ => Nat.blt b n
noncomputable def okB : BT AVal → Nat → Nat → Nat → Bool :=
  BT.rec (motive := fun _ => Nat → Nat → Nat → Bool) (fun _ _ _ => true) (fun v _ _ fl fr a b n => okV v b n && (fl (Nat.mul 2 a) (Nat.add a b) n && fr (Nat.mul 2 a) (Nat.add (Nat.mul 2 a) b) n))
noncomputable def okLoop (env : BT AVal) (n : Nat) (ps : Array Tmp) (asg body : Code) : Bool := okB env 1 0 n && (fits n asg && (fits n body && ps.toList.all fun p => decide (p < n)))
noncomputable def evYld (id : Nat) (args : List AVal) (h : EH) : R :=
  match getB h.hp id with
  | some (.loop .ready _ n env ps asg body) =>
    Bool.rec (motive := fun _ => R) none (listP (fun e => evBody ih id n body (ih (some id) n asg e h)) ps.toList args env) (okLoop env n ps asg body)
  | _ => none

noncomputable def evKnown (f : FuncId) (args : List AVal) (h : EH) (l : List (List AVal × AVal)) : R :=
  match mapV (viewV h 40) args with
  | none => none
  | some p => match findK p.1 l with
    | some v => some (.ret v h)
    | none => evCall E ih f args h

noncomputable def evClo (f : FuncId) (first cap args : List AVal) (h : EH) : R :=
  match E.gd f with
  | none => fList (first ++ args ++ cap) fun args => match E.known f with
    | none => evCall E ih f args h
    | some l => evKnown E ih f args h l
  | some z => fList (first ++ args ++ cap) fun args => evGuard E ih z args h

noncomputable def evApply (fv : AVal) (args : List AVal) (h : EH) : R :=
  match fv with
  | .clo f first cap => evClo E ih f first cap args h
  | .yld id => evYld ih id args h
  | _ => none

noncomputable def contCall (rd : Option Nat) (d : Option Tmp) (k : BT AVal → EH → R) (env : BT AVal) (r : R) : R := match r with
  | some (.ret v h') => Bool.casesOn (motive := fun _ => R) (rdInE h' rd) none (putE env d v fun env => k env h')
  | some (.panic h') => Bool.casesOn (motive := fun _ => R) (rdInE h' rd) none (some (.ev .panic env h'))
  | _ => none

noncomputable def putK (d : Option Tmp) (k : BT AVal → EH → R) (env : BT AVal) (o : OR) (h : EH) : R := applyOR h (fun v h => putE env d v fun env => k env h) o
noncomputable def putI (d : Option Tmp) (k : BT AVal → EH → R) (env : BT AVal) (h : EH) (kd : IntKind) (i : Int) : R := fInt i fun i => putE env d (.lit (.int kd i)) fun env => k env h
noncomputable def putB (d : Option Tmp) (k : BT AVal → EH → R) (env : BT AVal) (h : EH) (b : Bool) : R := fBool b fun b => putE env d (.lit (.bool b)) fun env => k env h

abbrev RunE := EP → EvT → Option Nat → Option Tmp → (BT AVal → EH → R) → BT AVal → EH → R
end step

noncomputable def rMove (x : Operand) : RunE := fun E _ _ d k env h => evO E.G env x fun v => putE env d v fun env => k env h
noncomputable def rBox (e : TypeId) (x : Operand) : RunE := fun E _ _ d k env h => evO E.G env x fun v => putK d k env (.eff (.ptr h.nx 0 0) h.nx 0 e v.cells true) h
noncomputable def rBuild (t : TypeId) (parts : Array (Nat × Operand)) : RunE := fun E _ _ d k env h =>
  evOs E.G env (parts.toList.map (·.2)) fun vs => putK d k env (.opt (buildA E.P t ((parts.toList.map (·.1)).zip vs))) h
noncomputable def rBuildSlice (t : TypeId) (len : Nat) (parts : Array (Nat × Operand)) : RunE := fun E _ _ d k env h =>
  evOs E.G env (parts.toList.map (·.2)) fun vs => putK d k env (genF h ⟨[h.nx], []⟩ (buildSliceA E.P (toH h) h.nx t len ((parts.toList.map (·.1)).zip vs))) h
noncomputable def rLoad (t : TypeId) (a : Operand) : RunE := fun E _ _ d k env h => evO E.G env a fun a => putK d k env (.opt (loadF E.P h t a)) h
noncomputable def rStore (t : TypeId) (a x : Operand) : RunE := fun E _ _ d k env h =>
  Bool.rec (motive := fun _ => R) none (evO E.G env a fun a => evO E.G env x fun v => putK d k env (storeF E.P h t a v) h) (E.P.underlying t).isSome

abbrev IntsT := IntKind → Int → Int → Option Tmp → (BT AVal → EH → R) → BT AVal → EH → R
noncomputable def iAdd : IntsT := fun kd a b d k env h => putI d k env h kd (wrapF kd (Int.add a b))
noncomputable def iSub : IntsT := fun kd a b d k env h => putI d k env h kd (wrapF kd (Int.sub a b))
noncomputable def iMul : IntsT := fun kd a b d k env h => putI d k env h kd (wrapF kd (Int.mul a b))
noncomputable def iLss : IntsT := fun _ a b d k env h => putB d k env h (ltF a b)
noncomputable def iGtr : IntsT := fun _ a b d k env h => putB d k env h (ltF b a)
noncomputable def iLeq : IntsT := fun _ a b d k env h => putB d k env h (ltF b a).not
noncomputable def iGeq : IntsT := fun _ a b d k env h => putB d k env h (ltF a b).not
noncomputable def iEql : IntsT := fun _ a b d k env h => putB d k env h (eqF a b)
noncomputable def iNeq : IntsT := fun _ a b d k env h => putB d k env h (eqF a b).not
noncomputable def intsR (op : BinOp) : Option IntsT := match op with
  | .add => some iAdd | .sub => some iSub | .mul => some iMul | .lss => some iLss | .gtr => some iGtr | .leq => some iLeq | .geq => some iGeq | .eql => some iEql | .neq => some iNeq
  | _ => none
def kindN : IntKind → Nat
  | .i8 => 0 | .i16 => 1 | .i32 => 2 | .i64 => 3 | .u8 => 4 | .u16 => 5 | .u32 => 6 | .u64 => 7
noncomputable def binG (E : EP) (op : BinOp) (t : TypeId) (x y : Operand) (a b : AVal) (d : Option Tmp) (k : BT AVal → EH → R) (env : BT AVal) (h : EH) : R := putK d k env (.opt (binA E.P op t x y a b)) h
noncomputable def binN (E : EP) (op : BinOp) (t : TypeId) (x y : Operand) (a b : AVal) (d : Option Tmp) (k : BT AVal → EH → R) (env : BT AVal) (h : EH) : R := match nilOf op a b with
  | none => binG E op t x y a b d k env h
  | some true => Bool.rec (motive := fun _ => R) none (putB d k env h (op == .neq)) (sliceT (E.P.underlying t))
  | some false => none
noncomputable def binK (E : EP) (op : BinOp) (t : TypeId) (x y : Operand) (a b : AVal) (d : Option Tmp) (k : BT AVal → EH → R) (env : BT AVal) (h : EH) : R :=
  match a, b with
  | .lit (.int kd a), .lit (.int kd' b) => Bool.rec (motive := fun _ => R) (binG E op t x y (.lit (.int kd a)) (.lit (.int kd' b)) d k env h) (Option.rec (motive := fun _ => R) (binG E op t x y (.lit (.int kd a)) (.lit (.int kd' b)) d k env h) (fun f => f kd a b d k env h) (intsR op)) (Nat.beq (kindN kd) (kindN kd'))
  | a, b => binN E op t x y a b d k env h
noncomputable def rBin (op : BinOp) (t : TypeId) (x y : Operand) (_ : TypeId) : RunE := fun E _ _ d k env h => evO E.G env x fun a => evO E.G env y fun b => binK E op t x y a b d k env h
noncomputable def rMake (fn : Fn) (first cap : Array Operand) : RunE := fun E _ _ d k env h =>
  match fn with
  | .func f => evOs E.G env first.toList fun a => evOs E.G env cap.toList fun b => putE env d (.clo f a b) fun env => k env h
  | _ => none
noncomputable def rIndexAddr (t : TypeId) (x i : Operand) : RunE := fun E _ _ d k env h => evO E.G env x fun x => evO E.G env i fun i => putK d k env (.opt (indexAddrV E.P (toH h) t x i)) h
noncomputable def genO (E : EP) (env : BT AVal) (h : EH) (o : Op) : OR := genF h (fpO E.P E.G (toE env) h.nx o) (opA E.P E.G (toE env) (toH h) h.nx o)
noncomputable def rGen (o : Op) : RunE := fun E _ _ d k env h => putK d k env (genO E env h o) h
noncomputable def rPanic (x : Operand) : RunE := fun E _ _ _ _ env h => match evA E.G (toE env) x with
  | .lit (.iface _ _) => some (.ev .panic env h)
  | _ => none
noncomputable def rValue (fv : Operand) (args : Array Operand) : RunE := fun E ih rd d k env h =>
  evOs E.G env args.toList fun args => evO E.G env fv fun fv => contCall rd d k env (evApply E ih fv args h)
noncomputable def rFail : RunE := fun _ _ _ _ _ _ _ => none
noncomputable def rFail1 {α : Type} (_ : α) : RunE := rFail
noncomputable def rFail2 {α β : Type} (_ : α) (_ : β) : RunE := rFail
noncomputable def rFail3 {α β γ : Type} (_ : α) (_ : β) (_ : γ) : RunE := rFail
noncomputable def rFail4 {α β γ δ : Type} (_ : α) (_ : β) (_ : γ) (_ : δ) : RunE := rFail
noncomputable def effH (v : AVal) (r : Nat) (fresh : Bool) (b : Option Blk) : OR := match b with
  | some (.arr g e c) => .eff v r g e c fresh
  | _ => .fail
noncomputable def optH (r : Nat) (fresh : Bool) (o : Option (AVal × AHeap)) : OR := match o with
  | some (v, H') => effH v r fresh (H'.get r)
  | none => .fail
noncomputable def rPick (c a b : Operand) : RunE := fun E _ _ d k env h => evO E.G env c fun c => match c with
  | .lit (.bool t) => Bool.rec (motive := fun _ => R) (evO E.G env b fun v => putE env d v fun env => k env h) (evO E.G env a fun v => putE env d v fun env => k env h) t
  | _ => none
noncomputable def rAlloc (e : TypeId) : RunE := fun E _ _ d k env h => match zeroA E.P e with
  | some z => putK d k env (.eff (.ptr h.nx 0 0) h.nx 0 e z true) h
  | none => none
noncomputable def rNilCheck (x : Operand) : RunE := fun E _ _ d k env h => evO E.G env x fun x => putK d k env (.opt (nilCheckA (toH h) x)) h
noncomputable def rUn (op : UnOp) (_ : TypeId) (x : Operand) : RunE := fun E _ _ d k env h => evO E.G env x fun x => putK d k env (.opt (unA E.P op x)) h
noncomputable def rConv (s t : TypeId) (x : Operand) : RunE := fun E _ _ d k env h => evO E.G env x fun x => putK d k env (.opt (convA E.P s t x)) h
noncomputable def rIface (t : TypeId) (x : Operand) : RunE := rGen (.makeInterface t x)
noncomputable def rMakeSlice (t : TypeId) (l c : Operand) : RunE := fun E _ _ d k env h => evO E.G env l fun l => evO E.G env c fun c => putK d k env (optH h.nx true (makeSliceA E.P (toH h) h.nx t l c)) h
noncomputable def evOo (G : Nat → Option (List AVal)) (env : BT AVal) (x : Option Operand) (k : Option AVal → R) : R := match x with
  | none => k none
  | some x => evO G env x fun v => k (some v)
noncomputable def rSlice (t : TypeId) (x : Operand) (l u m : Option Operand) : RunE := fun E _ _ d k env h => match m with
  | none => evO E.G env x fun x => evOo E.G env l fun l => evOo E.G env u fun u => putK d k env (.opt (sliceA E.P (toH h) t x l u)) h
  | some _ => none
noncomputable def rFieldAddr (t : TypeId) (x : Operand) (f : Nat) : RunE := fun E _ _ d k env h => evO E.G env x fun x => putK d k env (.opt (fieldAddrA E.P (toH h) t f x)) h
noncomputable def rField (t : TypeId) (x : Operand) (f : Nat) : RunE := fun E _ _ d k env h => evO E.G env x fun x => putK d k env (.opt (fieldVA E.P t f x)) h
noncomputable def rIndex (t : TypeId) (x i : Operand) : RunE := fun E _ _ d k env h => evO E.G env x fun x => evO E.G env i fun i => putK d k env (.opt (indexA E.P t x i)) h
noncomputable def rExtract (t : Operand) (i : Nat) : RunE := fun E _ _ d k env h => evO E.G env t fun t => putK d k env (.opt (extractA t i)) h
noncomputable def rLen (t : TypeId) (x : Operand) : RunE := fun E _ _ d k env h => evO E.G env x fun x => putK d k env (.opt (lenA E.P (toH h) t x)) h
noncomputable def appK (E : EP) (t u : TypeId) (s x : AVal) (d : Option Tmp) (k : BT AVal → EH → R) (env : BT AVal) (h : EH) : R := match s with
  | .own id g o l z => match appendA E.P (toH h) h.nx t u s x with
    | some (.own _ g' o' l' z', H') => Bool.rec (motive := fun _ => R) (putK d k env (effH (.own id g' o' l' z') id false (H'.get id)) h) (putK d k env (.val (.own id g o l z)) h) (Nat.beq g' g)
    | _ => none
  | s => match appendA E.P (toH h) h.nx t u s x with
    | some (.own id' g' o' l' z', H') => putK d k env (effH (.own id' g' o' l' z') h.nx true (H'.get h.nx)) h
    | some (.lit v, _) => putK d k env (.val (.lit v)) h
    | _ => none
noncomputable def rApp (t u : TypeId) (s x : Operand) : RunE := fun E _ _ d k env h => evO E.G env s fun s => evO E.G env x fun x => appK E t u s x d k env h
noncomputable def rBuiltin (c : Call) (b : Builtin) : RunE := match b, c.argTypes.toList, c.args.toList with
  | .len, [t], [x] => rLen t x
  | .append, [t, u], [s, x] => rApp t u s x
  | _, _, _ => rGen (.call c)
noncomputable def rCall (c : Call) : RunE := match c.callee with
  | .value fv => rValue fv c.args
  | .builtin b => rBuiltin c b
  | _ => rFail

noncomputable def runOp : Op → RunE :=
  Op.rec (motive := fun _ => RunE) rMove rMove rPick rAlloc rBox rBuild rBuildSlice rFail4 rLoad rStore rFail1 rFail1 rNilCheck rBin rUn rConv rFail2 rIface rMake
    rFail2 rFail2 rMakeSlice rSlice rFieldAddr rField rIndexAddr rIndex rFail4 rFail4 rFail3 rFail4 rFail2 rFail2 rFail1 rFail4 rExtract rCall rFail1 rFail1 rPanic rFail2 rFail3 rFail2

section step
variable (E : EP) (ih : EvT)
noncomputable def wantS (all : Array Oper) (ρ : Env) (yes no : R) (jw : Nat × Bool) : R :=
  match (all[jw.1]?).bind (·.dst) with
  | some d => match ρ d with
    | .lit (.bool b) => Bool.rec (motive := fun _ => R) no yes (b == jw.2)
    | .lit _ => no
    | _ => none
  | none => no
noncomputable def wantK (all : Array Oper) (ρ : Env) (g : Option (Nat × Bool)) (yes no : R) : R := Option.rec (motive := fun _ => R) yes (wantS all ρ yes no) g

noncomputable def evOps (rd : Option Nat) (all : Array Oper) (l : List Oper) : BT AVal → EH → R :=
  List.rec (motive := fun _ => BT AVal → EH → R) (fun env h => some (.ev .normal env h)) (fun o _ ihr env h =>
    wantK all (toE env) o.guard (runOp o.op E ih rd o.dst ihr env h) (putE env o.dst (.lit undef) fun env => ihr env h)) l

/-! ### regions that draw their order -/
def maskOf (bs : List Nat) (o : Oper) : Nat := (binding o).foldl (fun b j => b ||| (2 ^ j ||| bitAt bs j)) 0
def masks : List Oper → List Nat → List Nat
  | [], bs => bs
  | o :: l, bs => masks l (bs ++ [maskOf bs o])
def cutK (bs : List Nat) : Nat → Nat
  | 0 => 0
  | k + 1 => if bitAt bs k = 2 ^ k - 1 then cutK bs k else k + 1
def apartB (b : Nat) (f : FP) (acc : List (Nat × FP)) : Bool := acc.all fun p => b.testBit p.1 || (f.eff.all fun r => !p.2.rs.contains r) && p.2.eff.all fun r => !f.rs.contains r

noncomputable def drawCall (fv : AVal) (args : List AVal) (h : EH) (k : AVal → List Nat → R) : R := match fv with
  | .clo f first cap => match E.gd f, mapV (viewV h 40) (first ++ args ++ cap) with
    | none, some p => match evAlone E ih f p.1 with
      | some v => Bool.rec (motive := fun _ => R) none (k v p.2) (p.2.all fun r => Nat.blt r h.nx)
      | none => none
    | _, _ => none
  | _ => none
abbrev DrawT := List (Nat × FP) → BT AVal → EH → R
noncomputable def drawOne (d : Option Tmp) (b i : Nat) (acc : List (Nat × FP)) (k : DrawT) (env : BT AVal) (f : FP) (o : OR) (h : EH) : R :=
  Bool.casesOn (motive := fun _ => R) (apartB b f acc) none (applyOR h (fun v h => putE env d v fun env => k (addF i f acc) env h) o)
noncomputable def drawOp (o : Oper) (b i : Nat) (acc : List (Nat × FP)) (k : DrawT) (env : BT AVal) (h : EH) : R := match o.op with
  | .call c => match c.callee with
    | .value fv => evOs E.G env c.args.toList fun args => evO E.G env fv fun fv => drawCall E ih fv args h fun v rs => drawOne o.dst b i acc k env ⟨[], rs⟩ (.val v) h
    | _ => drawOne o.dst b i acc k env (fpO E.P E.G (toE env) h.nx (.call c)) (genO E env h (.call c)) h
  | .panic _ => none
  | op => drawOne o.dst b i acc k env (fpO E.P E.G (toE env) h.nx op) (genO E env h op) h

noncomputable def drawOps (all : Array Oper) (tail : BT AVal → EH → R) (l : List Oper) : List Nat → Nat → DrawT :=
  List.rec (motive := fun _ => List Nat → Nat → DrawT) (fun _ _ _ env h => tail env h) (fun o _ ihr bs i acc env h => match bs with
    | [] => none
    | b :: bs => wantK all (toE env) o.guard (drawOp E ih o b i acc (ihr bs (i + 1)) env h) (putE env o.dst (.lit undef) fun env => ihr bs (i + 1) acc env h)) l

noncomputable def evDraw (rd : Option Nat) (ops : Array Oper) (bs : List Nat) (K : Nat) (env : BT AVal) (h : EH) : R :=
  Bool.casesOn (motive := fun _ => R) (drawOk ops (bs.take K) K) none (drawOps E ih ops (evOps E ih rd ops (ops.toList.drop K)) (ops.toList.take K) (bs.take K) 0 [] env h)

/-! ### code -/
noncomputable def evSeq (rd : Option Nat) (n : Nat) (b : Code) (r : R) : R := match r with
  | some (.ev .normal e h) => ih rd n b e h
  | r => r
noncomputable def evBlock (id : Nat) (r : R) : R := match r with
  | some (.ev (.exit i) e h) => Bool.casesOn (motive := fun _ => R) (Nat.beq i id) (some (.ev (.exit i) e h)) (some (.ev .normal e h))
  | r => r
noncomputable def evScope (r : R) : R := match r with
  | some (.ev (.goto _) _ _) => none
  | r => r
noncomputable def evCond (v : AVal) (x y : R) : R := match v with
  | .lit (.bool b) => Bool.casesOn (motive := fun _ => R) b y x
  | _ => none
noncomputable def endLoop (env : BT AVal) (h2 : EH) (pend : Option Code) (hp3 : BT EBlk) : R := match pend with
  | none => some (.ev .normal env ⟨hp3, h2.nx⟩)
  | some .ret => some (.ev .ret env ⟨hp3, h2.nx⟩)
  | some (.exit i) => some (.ev (.exit i) env ⟨hp3, h2.nx⟩)
  | _ => none
noncomputable def endRange (rd : Option Nat) (env : BT AVal) (id : Nat) (r : R) : R := match r with
  | some (.ret _ h2) => Bool.casesOn (motive := fun _ => R) (rdInE h2 rd) none (match getB h2.hp id with
    | some (.loop .busy ..) => none
    | some (.loop _ pend n2 env2 ps2 asg2 body2) => setB h2.hp id (EBlk.loop .exhausted pend n2 env2 ps2 asg2 body2) fun hp3 => endLoop env h2 pend hp3
    | _ => none)
  | some (.panic h2) => Bool.casesOn (motive := fun _ => R) (rdInE h2 rd) none (some (.ev .panic env h2))
  | _ => none
noncomputable def evRange (rd : Option Nat) (n : Nat) (env : BT AVal) (h : EH) (ps : Array Tmp) (asg body : Code) (v : AVal) : R := match v with
  | .clo g first cap => setB h.hp h.nx (EBlk.loop .ready none n env ps asg body) fun hp1 => endRange rd env h.nx (fList (first ++ [.yld h.nx] ++ cap) fun args => evCall E ih g args ⟨hp1, Nat.succ h.nx⟩)
  | _ => none

end step

abbrev CodeT := EP → EvT → Option Nat → Nat → BT AVal → EH → R
noncomputable def cNormal : CodeT := fun _ _ _ _ env h => some (.ev .normal env h)
noncomputable def cLabel (_ : Nat) : CodeT := cNormal
noncomputable def cExit (i : Nat) : CodeT := fun _ _ _ _ env h => some (.ev (.exit i) env h)
noncomputable def cRet : CodeT := fun _ _ _ _ env h => some (.ev .ret env h)
noncomputable def cGoto (_ : Nat) : CodeT := fun _ _ _ _ _ _ => none
noncomputable def cRefuse (_ : String) : CodeT := fun _ _ _ _ _ _ => none
noncomputable def cRegion (_ : Nat) (ops : Array Oper) (dr : Bool) : CodeT := fun E ih rd _ env h =>
  Bool.rec (motive := fun _ => R) (evOps E ih rd ops ops.toList env h) (evDraw E ih rd ops (masks ops.toList []) (cutK (masks ops.toList []) ops.toList.length) env h) dr
noncomputable def cSeq (a b : Code) : CodeT := fun _ ih rd n env h => evSeq ih rd n b (ih rd n a env h)
noncomputable def cCond (x : Operand) (a b : Code) : CodeT := fun E ih rd n env h => evCond (evA E.G (toE env) x) (ih rd n a env h) (ih rd n b env h)
noncomputable def cBlock (id : Nat) (b : Code) : CodeT := fun _ ih rd n env h => evBlock id (ih rd n b env h)
noncomputable def cLoop (b : Code) : CodeT := fun _ ih rd n env h => evScope (evSeq ih rd n (.loop b) (ih rd n b env h))
noncomputable def cScope (b : Code) : CodeT := fun _ ih rd n env h => evScope (ih rd n b env h)
noncomputable def cRange (f : Operand) (ps : Array Tmp) (asg body : Code) : CodeT := fun E ih rd n env h => evRange E ih rd n env h ps asg body (evA E.G (toE env) f)

noncomputable def dispC : Code → CodeT := fun c => Code.casesOn (motive := fun _ => CodeT) c cNormal cRegion cSeq cCond cBlock cLoop cRange cExit cScope cLabel cGoto cRet cRefuse
noncomputable def evStep (E : EP) (ih : EvT) (rd : Option Nat) (n : Nat) (c : Code) (env : BT AVal) (h : EH) : R := dispC c E ih rd n env h

noncomputable def evN (E : EP) (fuel : Nat) : EvT := Nat.rec (motive := fun _ => EvT) (fun _ _ _ _ _ => none) (fun _ ih => evStep E ih) fuel

noncomputable def evMain (E : EP) (fuel : Nat) (f : FuncId) (args : List AVal) : Option AVal := evAlone E (evN E fuel) f args
def isTrue : Option AVal → Bool
  | some (.lit (.bool b)) => b
  | _ => false
end Go.Hx
