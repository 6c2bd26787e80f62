/-
  An evaluator of code on abstract states, made for the kernel. Own work: no program stands in this text.
-/
import Derived.Test.YtakancljiekbhaaLibB
import Derived.ProofKit
import Derived.SevenTiedAt
import Derived.RecoverIn
import Derived.MakeChecks
import Derived.OpenShut
set_option linter.all false
namespace Go.Hx
inductive BT (α:Type) where
 | nil
 | node (v:Option α) (l r:BT α)
inductive EBlk where
 | arr (gen:Nat) (elem:TypeId) (cells:List AVal)
 | loop (st:LoopState) (pend:Option Code) (n:Nat) (env:BT AVal) (ps:Array Tmp) (asg body:Code)
 | mp (es:List (Int × Int))
structure EH where
 hp:BT EBlk
 nx:Nat
inductive RR where
 | ev (x:AX) (env:BT AVal) (h:EH)
 | ret (v:AVal) (h:EH)
 | panic (h:EH)
abbrev R:=Option RR
noncomputable def dU:BT AVal->Nat->Option AVal :=
 BT.rec (motive:=fun _=>Nat->Option AVal) (fun _=>none) (fun v _ _ gl gr n =>
  Nat.rec (motive:=fun _=>Option AVal) v (fun m _=>Nat.rec (motive:=fun _=>Option AVal) (gl (Nat.div m 2)) (fun _ _=>gr (Nat.div m 2)) (Nat.mod m 2)) n)
noncomputable def aQ:BT EBlk->Nat->Option EBlk :=
 BT.rec (motive:=fun _=>Nat->Option EBlk) (fun _=>none) (fun v _ _ gl gr n =>
  Nat.rec (motive:=fun _=>Option EBlk) v (fun m _=>Nat.rec (motive:=fun _=>Option EBlk) (gl (Nat.div m 2)) (fun _ _=>gr (Nat.div m 2)) (Nat.mod m 2)) n)
noncomputable def sE:Nat->Nat->AVal->(BT AVal->R)->R :=
 Nat.rec (motive:=fun _=>Nat->AVal->(BT AVal->R)->R) (fun _ _ _=>none) (fun _ ih n x k =>
  Nat.rec (motive:=fun _=>R) (k (.node (some x) .nil .nil)) (fun m _=>Nat.rec (motive:=fun _=>R) (ih (Nat.div m 2) x fun l=>k (.node none l .nil)) (fun _ _=>ih (Nat.div m 2) x fun r=>k (.node none .nil r)) (Nat.mod m 2)) n)
noncomputable def lq:BT AVal->Nat->AVal->(BT AVal->R)->R :=
 BT.rec (motive:=fun _=>Nat->AVal->(BT AVal->R)->R) (sE 20) (fun v l r sl sr n x k =>
  Nat.rec (motive:=fun _=>R) (k (.node (some x) l r)) (fun m _=>Nat.rec (motive:=fun _=>R) (sl (Nat.div m 2) x fun l=>k (.node v l r)) (fun _ _=>sr (Nat.div m 2) x fun r=>k (.node v l r)) (Nat.mod m 2)) n)
noncomputable def sF:Nat->Nat->EBlk->(BT EBlk->R)->R :=
 Nat.rec (motive:=fun _=>Nat->EBlk->(BT EBlk->R)->R) (fun _ _ _=>none) (fun _ ih n x k =>
  Nat.rec (motive:=fun _=>R) (k (.node (some x) .nil .nil)) (fun m _=>Nat.rec (motive:=fun _=>R) (ih (Nat.div m 2) x fun l=>k (.node none l .nil)) (fun _ _=>ih (Nat.div m 2) x fun r=>k (.node none .nil r)) (Nat.mod m 2)) n)
noncomputable def fI:BT EBlk->Nat->EBlk->(BT EBlk->R)->R :=
 BT.rec (motive:=fun _=>Nat->EBlk->(BT EBlk->R)->R) (sF 20) (fun v l r sl sr n x k =>
  Nat.rec (motive:=fun _=>R) (k (.node (some x) l r)) (fun m _=>Nat.rec (motive:=fun _=>R) (sl (Nat.div m 2) x fun l=>k (.node v l r)) (fun _ _=>sr (Nat.div m 2) x fun r=>k (.node v l r)) (Nat.mod m 2)) n)
noncomputable def cU (n:Nat)(k:Nat->R):R:=Nat.rec (motive:=fun _=>R) (k 0) (fun m _=>k (Nat.succ m)) n
noncomputable def mJ (i:Int)(k:Int->R):R:=Int.rec (motive:=fun _=>R) (fun n=>cU n fun n=>k (.ofNat n)) (fun n=>cU n fun n=>k (.negSucc n)) i
noncomputable def vM (b:Bool)(k:Bool->R):R:=Bool.rec (motive:=fun _=>R) (k false) (k true) b
noncomputable def fJ:List AVal->(List AVal->R)->R :=
 List.rec (motive:=fun _=>(List AVal->R)->R) (fun k=>k []) (fun x _ ih k=>ih fun l=>k (x :: l))
noncomputable def sG:List (Int × Int)->(List (Int × Int)->R)->R :=
 List.rec (motive:=fun _=>(List (Int × Int)->R)->R) (fun k=>k []) (fun p _ ih k=>Prod.casesOn (motive:=fun _=>R) p fun a b=>mJ a fun a=>mJ b fun b=>ih fun l=>k ((a,b) :: l))
noncomputable def vO (v:Value)(k:Value->R):R:=match v with
 | .int i n=>mJ n fun n=>k (.int i n)
 | .bool b=>vM b fun b=>k (.bool b)
 | v=>k v
noncomputable def vQ (v:Value)(k:AVal->R):R:=vO v fun v=>k (.lit v)
noncomputable def vR (n:Nat)(cs:List AVal)(k:AVal->R):R:=cU n fun n=>fJ cs fun cs=>k (.vec n cs)
noncomputable def vS (a b c d e:Nat)(k:AVal->R):R:=cU a fun a=>cU b fun b=>cU c fun c=>cU d fun d=>cU e fun e=>k (.own a b c d e)
noncomputable def vT (a b c:Nat)(k:AVal->R):R:=cU a fun a=>cU b fun b=>cU c fun c=>k (.ptr a b c)
noncomputable def vU (cs:List AVal)(n:Nat)(k:AVal->R):R:=cU n fun n=>fJ cs fun cs=>k (.vptr cs n)
noncomputable def vV (cs:List AVal)(k:AVal->R):R:=fJ cs fun cs=>k (.agg cs)
noncomputable def vW (cs:List AVal)(k:AVal->R):R:=fJ cs fun cs=>k (.tup cs)
noncomputable def vX (f:FuncId)(a b:List AVal)(k:AVal->R):R:=cU f fun f=>fJ a fun a=>fJ b fun b=>k (.clo f a b)
noncomputable def vY (n:Nat)(k:AVal->R):R:=cU n fun n=>k (.yld n)
noncomputable def jV:AVal->(AVal->R)->R:=fun v=>AVal.casesOn (motive_1:=fun _=>(AVal->R)->R) v vQ vR vS vT vU vV vW vX vY
noncomputable def aD (env:BT AVal):Env:=fun t=>Option.casesOn (motive:=fun _=>AVal) (dU env t) (.lit undef) fun v=>v
noncomputable def EBlk.jW:EBlk->Blk
 | .arr g e c=>.arr g e c
 | .loop st p n env ps a b=>.loop st p n (aD env) ps a b
 | .mp es=>.mp es
noncomputable def aq (h:EH):AHeap:=⟨fun j=>(aQ h.hp j).map EBlk.jW,h.nx⟩
noncomputable def eX (env:BT AVal)(d:Option Tmp)(v:AVal)(k:BT AVal->R):R :=
 Option.casesOn (motive:=fun _=>R) d (k env) fun d=>lq env d v k
noncomputable def vZ (G:Nat->Option (List AVal))(g:Nat)(k:AVal->R):R :=
 Option.casesOn (motive:=fun _=>R) (G g) (k (.lit (.pointer (some ⟨g,0,none⟩)))) fun cells=>fJ cells fun cells=>k (.vptr cells 0)
noncomputable def v7 (env:BT AVal)(t:Tmp)(k:AVal->R):R:=Option.casesOn (motive:=fun _=>R) (dU env t) (k (.lit undef)) k
noncomputable def bW (G:Nat->Option (List AVal))(env:BT AVal)(x:Operand)(k:AVal->R):R :=
 Operand.casesOn (motive:=fun _=>R) x (fun t=>v7 env t k) (fun v=>k (.lit v)) (fun g=>vZ G g k) (fun f=>k (.clo f [] []))
noncomputable def lr (G:Nat->Option (List AVal))(env:BT AVal)(l:List Operand):(List AVal->R)->R :=
 List.rec (motive:=fun _=>(List AVal->R)->R) (fun k=>k []) (fun x _ ih k=>bW G env x fun x=>ih fun l=>k (x :: l)) l
inductive OR where
 | fail
 | val (v:AVal)
 | eff (v:AVal) (r g:Nat) (e:TypeId) (cells:List AVal) (fresh:Bool)
 | effM (v:AVal) (r:Nat) (es:List (Int × Int)) (fresh:Bool)
noncomputable def OR.opt (o:Option AVal):OR:=Option.casesOn (motive:=fun _=>OR) o .fail .val
noncomputable def qs (k:IntKind)(i:Int):Int :=
 match k with
 | .i64=>Int.casesOn (motive:=fun _=>Int) i
   (fun n=>Bool.casesOn (motive:=fun _=>Int) (Nat.ble n 9223372036854775807) (IntKind.i64.wrap (.ofNat n)) (.ofNat n))
   (fun n=>Bool.casesOn (motive:=fun _=>Int) (Nat.ble n 9223372036854775807) (IntKind.i64.wrap (.negSucc n)) (.negSucc n))
 | k=>k.wrap i
noncomputable def qt (a b:Int):Bool :=
 Int.casesOn (motive:=fun _=>Bool) a
  (fun m=>Int.casesOn (motive:=fun _=>Bool) b (fun n=>Nat.ble (Nat.succ m) n) fun _=>false)
  (fun m=>Int.casesOn (motive:=fun _=>Bool) b (fun _=>true) fun n=>Nat.ble (Nat.succ n) m)
noncomputable def qu (a b:Int):Bool :=
 Int.casesOn (motive:=fun _=>Bool) a
  (fun m=>Int.casesOn (motive:=fun _=>Bool) b (fun n=>Nat.beq m n) fun _=>false)
  (fun m=>Int.casesOn (motive:=fun _=>Bool) b (fun _=>false) fun n=>Nat.beq m n)
noncomputable def we (P:Program)(h:EH)(t:TypeId)(a:AVal):Option AVal :=
 match a with
 | .ptr id gen off=>match aQ h.hp id with
  | some (.arr g _ cells)=>Bool.casesOn (motive:=fun _=>Option AVal) (Nat.beq g gen) none (dW P t cells off)
  | _=>none
 | .vptr cells off=>dW P t cells off
 | _=>none
noncomputable def ou (P:Program)(h:EH)(t:TypeId)(a v:AVal):OR :=
 match a with
 | .ptr id gen off=>match aQ h.hp id with
  | some (.arr g e cells)=>Bool.casesOn (motive:=fun _=>OR) (Nat.beq g gen) .fail
    (if v.cells.length=P.cellsOf t/\v.cells.all AVal.one=true/\off+v.cells.length<=cells.length then .eff (.lit undef) id g e (setAt cells off v.cells) false else .fail)
  | _=>.fail
 | _=>.fail
noncomputable def qv (h:EH)(f:FP)(r:Option (AVal × AHeap)):OR :=
 match r with
 | none=>.fail
 | some (v,H')=>match f.eff with
  | []=>.val v
  | r :: _=>match H'.get r with
   | some (.arr g e c)=>.eff v r g e c (Nat.beq r h.nx)
   | some (.mp es)=>.effM v r es (Nat.beq r h.nx)
   | _=>.fail
noncomputable def wo (h:EH)(k:AVal->EH->R)(o:OR):R :=
 OR.casesOn (motive:=fun _=>R) o none (fun v=>jV v fun v=>k v h)
  (fun v r g e c fresh=>cU r fun r=>cU g fun g=>fJ c fun c=>fI h.hp r (EBlk.arr g e c) fun hp=>jV v fun v=>k v ⟨hp,Bool.casesOn (motive:=fun _=>Nat) fresh h.nx (Nat.succ h.nx)⟩)
  (fun v r es fresh=>cU r fun r=>sG es fun es=>fI h.hp r (EBlk.mp es) fun hp=>jV v fun v=>k v ⟨hp,Bool.casesOn (motive:=fun _=>Nat) fresh h.nx (Nat.succ h.nx)⟩)
structure GD where
 z:AVal
 ok:AVal->Bool
structure EP where
 P:Program
 G:Nat->Option (List AVal)
 gd:FuncId->Option GD
  /-- What is known already of a function's calls. -/
 known:FuncId->Option (List (List AVal × AVal))
  /-- What a call of a function without a body comes to. -/
 ext:FuncId->Option (List AVal->Option AVal):=fun _=>none
noncomputable def bD (f:AVal->Option (AVal × List Nat))(l:List AVal):Option (List AVal × List Nat) :=
 List.rec (motive:=fun _=>Option (List AVal × List Nat)) (some ([],[])) (fun x _ r=>match f x,r with
  | some (y,a),some (l,b)=>some (y :: l,a++b)
  | _,_=>none) l
noncomputable def gJ (h:EH)(fuel:Nat):AVal->Option (AVal × List Nat) :=
 Nat.rec (motive:=fun _=>AVal->Option (AVal × List Nat)) (fun _=>none) (fun _ ih v=>match v with
  | .lit v=>some (.lit v,[])
  | .vec n c=>(bD ih c).map fun p=>(.vec n p.1,p.2)
  | .vptr c o=>(bD ih c).map fun p=>(.vptr p.1 o,p.2)
  | .agg c=>(bD ih c).map fun p=>(.agg p.1,p.2)
  | .tup c=>(bD ih c).map fun p=>(.tup p.1,p.2)
  | .clo f a b=>match bD ih a,bD ih b with
   | some p,some q=>some (.clo f p.1 q.1,p.2++q.2)
   | _,_=>none
  | .own id g o l z=>match aQ h.hp id with
   | some (.arr g' _ cells)=>if g'=g/\o+l*z<=cells.length then (bD ih ((cells.drop o).take (l*z))).map fun p=>(.vec l p.1,id :: p.2) else none
   | _=>none
  | .ptr id g o=>match aQ h.hp id with
   | some (.arr g' _ (x :: cells))=>if g'=g then (bD ih (x :: cells)).map fun p=>(.vptr p.1 o,id :: p.2) else none
   | _=>none
  | .yld _=>none) fuel
noncomputable def jX (f:AVal->Option AVal)(l:List AVal):Option (List AVal) :=
 List.rec (motive:=fun _=>Option (List AVal)) (some []) (fun x _ r=>match f x,r with
  | some y,some l=>some (y :: l)
  | _,_=>none) l
noncomputable def mK (h:EH)(fuel:Nat):AVal->Option AVal :=
 Nat.rec (motive:=fun _=>AVal->Option AVal) (fun _=>none) (fun _ ih v=>match v with
  | .lit v=>some (.lit v)
  | .agg c=>(jX ih c).map .agg
  | .tup c=>(jX ih c).map .tup
  | .own id g o l z=>match aQ h.hp id with
   | some (.arr g' _ cells)=>if g'=g/\o+l*z<=cells.length then (jX ih ((cells.drop o).take (l*z))).map (.vec l) else none
   | _=>none
  | _=>none) fuel
noncomputable def fm (f:AVal->AVal->Bool)(a:List AVal):List AVal->Bool :=
 List.rec (motive:=fun _=>List AVal->Bool) (fun b=>match b with|[]=>true|_=>false) (fun x _ ih b=>match b with
  | []=>false
  | y :: b=>match f x y with|true=>ih b|false=>false) a
noncomputable def wA (ih:AVal->AVal->Bool)(a b:AVal):Bool:=match a,b with
 | .lit (.int k x),.lit (.int k' y)=>decide (k=k') && qu x y
 | .lit (.bool x),.lit (.bool y)=>x == y
 | .lit (.slice none 0 0),.lit (.slice none 0 0)=>true
 | .vec n c,.vec m d=>Nat.beq n m && fm ih c d
 | .vptr c n,.vptr d m=>Nat.beq n m && fm ih c d
 | .agg c,.agg d=>fm ih c d
 | .tup c,.tup d=>fm ih c d
 | .clo f a b,.clo g c d=>Nat.beq f g && (fm ih a c && fm ih b d)
 | _,_=>false
noncomputable def ow (fuel:Nat):AVal->AVal->Bool:=Nat.rec (motive:=fun _=>AVal->AVal->Bool) (fun _ _=>false) (fun _ ih=>wA ih) fuel
noncomputable def ee (l:List Nat)(n:Nat):Bool:=List.rec (motive:=fun _=>Bool) false (fun x _ ih=>Bool.rec (motive:=fun _=>Bool) ih true (Nat.beq x n)) l
noncomputable def wB (f:Nat->Bool)(l:List Nat):Bool:=List.rec (motive:=fun _=>Bool) true (fun x _ ih=>Bool.rec (motive:=fun _=>Bool) false ih (f x)) l
abbrev KF:=AVal->List Nat->Option (List Nat)
noncomputable def jr (f:KF)(l:List AVal):List Nat->Option (List Nat) :=
 List.rec (motive:=fun _=>List Nat->Option (List Nat)) (fun acc=>some acc) (fun x _ ih acc=>match f x acc with
  | some acc=>ih acc
  | none=>none) l
noncomputable def ox (h:EH)(lo:Nat)(kp:List Nat)(rc:KF)(id:Nat)(acc:List Nat):Option (List Nat) :=
 match Nat.blt id lo with
 | true=>match ee kp id with
  | true=>some acc
  | false=>none
 | false=>match ee acc id with
  | true=>some acc
  | false=>match aQ h.hp id with
   | some (.arr _ _ cells)=>jr rc cells (id :: acc)
   | _=>none
noncomputable def jY (h:EH)(lo:Nat)(kp:List Nat)(fuel:Nat):KF :=
 Nat.rec (motive:=fun _=>KF) (fun _ _=>none) (fun _ ih v acc=>match v with
  | .lit _=>some acc
  | .vec 0 []=>some acc
  | .agg c=>jr ih c acc
  | .tup c=>jr ih c acc
  | .clo _ a b=>match jr ih a acc with
   | some acc=>jr ih b acc
   | none=>none
  | .own id _ _ _ _=>ox h lo kp ih id acc
  | .ptr id _ _=>ox h lo kp ih id acc
  | _=>none) fuel
abbrev CF:=AVal->List Nat->(List Nat->R)->R
noncomputable def jZ (f:CF)(l:List AVal):List Nat->(List Nat->R)->R :=
 List.rec (motive:=fun _=>List Nat->(List Nat->R)->R) (fun acc k=>k acc) (fun x _ ih acc k=>f x acc fun acc=>ih acc k) l
noncomputable def sH (f:CF)(acc:List Nat)(k:List Nat->R)(b:Option EBlk):R:=match b with
 | some (.arr _ _ cells)=>jZ f cells acc k
 | _=>k acc
noncomputable def wC (h:EH)(f:CF)(v:AVal)(acc:List Nat)(k:List Nat->R):R:=match v with
 | .vec _ c=>jZ f c acc k
 | .vptr c _=>jZ f c acc k
 | .agg c=>jZ f c acc k
 | .tup c=>jZ f c acc k
 | .clo _ a b=>jZ f a acc fun acc=>jZ f b acc k
 | .own id _ _ _ _=>sH f acc k (aQ h.hp id)
 | .ptr id _ _=>sH f acc k (aQ h.hp id)
 | _=>k acc
noncomputable def sI (h:EH)(fuel:Nat):CF:=Nat.rec (motive:=fun _=>CF) (fun _ acc k=>k acc) (fun _ ih v acc k=>match jY h 0 [] 40 v acc with
 | some acc=>k acc
 | none=>wC h ih v acc k) fuel
noncomputable def js (h:EH)(kp:List Nat)(fuel:Nat):AVal->Option (AVal × List Nat) :=
 Nat.rec (motive:=fun _=>AVal->Option (AVal × List Nat)) (fun _=>none) (fun _ ih v=>match v with
  | .lit v=>some (.lit v,[])
  | .vec n c=>(bD ih c).map fun p=>(.vec n p.1,p.2)
  | .vptr c o=>(bD ih c).map fun p=>(.vptr p.1 o,p.2)
  | .agg c=>(bD ih c).map fun p=>(.agg p.1,p.2)
  | .tup c=>(bD ih c).map fun p=>(.tup p.1,p.2)
  | .clo f a b=>match bD ih a,bD ih b with
   | some p,some q=>some (.clo f p.1 q.1,p.2++q.2)
   | _,_=>none
  | .own id g o l z=>match ee kp id with
   | true=>some (.own id g o l z,[])
   | false=>match aQ h.hp id with
    | some (.arr g' _ cells)=>if g'=g/\o+l*z<=cells.length then (bD ih ((cells.drop o).take (l*z))).map fun p=>(.vec l p.1,id :: p.2) else none
    | _=>none
  | .ptr id g o=>match ee kp id with
   | true=>some (.ptr id g o,[])
   | false=>match aQ h.hp id with
    | some (.arr g' _ (x :: cells))=>if g'=g then (bD ih (x :: cells)).map fun p=>(.vptr p.1 o,id :: p.2) else none
    | _=>none
  | .yld _=>none) fuel
noncomputable def wD (h:EH)(l:List Nat)(k:BT EBlk->R):BT EBlk->R :=
 List.rec (motive:=fun _=>BT EBlk->R) (fun t=>k t) (fun id _ ih t=>match aQ h.hp id with
  | some b=>fI t id b ih
  | none=>none) l
noncomputable def wE (a b:Value):Bool:=match a,b with
 | .int k x,.int k' y=>decide (k=k') && qu x y
 | .bool x,.bool y=>x == y
 | .slice none 0 0,.slice none 0 0=>true
 | .pointer none,.pointer none=>true
 | _,_=>false
noncomputable def wG (ih:AVal->AVal->Bool)(a b:AVal):Bool:=match a,b with
 | .lit x,.lit y=>wE x y
 | .vec n c,.vec m d=>Nat.beq n m && fm ih c d
 | .agg c,.agg d=>fm ih c d
 | .tup c,.tup d=>fm ih c d
 | .clo f a b,.clo g c d=>Nat.beq f g && (fm ih a c && fm ih b d)
 | .own a b c d e,.own a' b' c' d' e'=>Nat.beq a a' && (Nat.beq b b' && (Nat.beq c c' && (Nat.beq d d' && Nat.beq e e')))
 | .ptr a b c,.ptr a' b' c'=>Nat.beq a a' && (Nat.beq b b' && Nat.beq c c')
 | _,_=>false
noncomputable def wH (fuel:Nat):AVal->AVal->Bool:=Nat.rec (motive:=fun _=>AVal->AVal->Bool) (fun _ _=>false) (fun _ ih=>wG ih) fuel
noncomputable def wI (a b:Option EBlk):Bool:=match a,b with
 | some (.arr g e c),some (.arr g' e' c')=>Nat.beq g g' && (Nat.beq e e' && fm (wH 40) c c')
 | _,_=>false
noncomputable def wJ (h':EH)(lv:List Nat)(t:BT EBlk)(k:BT EBlk->R)(id:Nat):R:=match ee lv id with
 | true=>match aQ h'.hp id with
  | some b=>fI t id b k
  | none=>none
 | false=>fI t id (.arr 0 0 []) k
noncomputable def sJ (h':EH)(lv:List Nat)(lo n:Nat):BT EBlk->(BT EBlk->R)->R :=
 Nat.rec (motive:=fun _=>BT EBlk->(BT EBlk->R)->R) (fun t k=>k t) (fun i ih t k=>cU (Nat.add lo i) (wJ h' lv t fun t=>ih t k)) n
noncomputable def sK (k:BT AVal->R)(l:List AVal):Nat->BT AVal->R :=
 List.rec (motive:=fun _=>Nat->BT AVal->R) (fun _ t=>k t) (fun v _ ih i t=>lq t i v fun t=>cU (Nat.succ i) fun i=>ih i t) l
noncomputable def oA (h:EH):Option Nat->Bool
 | none=>true
 | some id=>match aQ h.hp id with|some (.loop ..)=>true|_=>false
abbrev jt:=Option Nat->Nat->Code->BT AVal->EH->R
section step
variable (E:EP) (ih:jt)
noncomputable def sL (nx:Nat)(v:AVal)(h':EH):R:=Bool.rec (motive:=fun _=>R) none (jV v fun v=>some (.ret v h')) (Nat.ble nx h'.nx)
noncomputable def At (rs:List ResultVar)(nx:Nat)(r:R):R:=match r with
 | some (.ev .normal env h')=>match dR E.P (aq h') (aD env) rs with
  | some vs=>sL nx (gF vs) h'
  | none=>none
 | some (.ev .ret env h')=>match dR E.P (aq h') (aD env) rs with
  | some vs=>sL nx (gF vs) h'
  | none=>none
 | some (.ev .panic _ h')=>Bool.rec (motive:=fun _=>R) none (some (.panic h')) (Nat.ble nx h'.nx)
 | _=>none
def Au (fn : Func) (c : Code) : Bool := fits fn.ntmps c && !(fn.name == "runtime.NumGoroutine")
noncomputable def sM (fn:Func)(c:Code)(args:List AVal)(h:EH):R :=
 Bool.rec (motive:=fun _=>R) none (Bool.rec (motive:=fun _=>R) none (sK (fun env=>At E fn.results.toList h.nx (ih none fn.ntmps c env h)) args 0 .nil) (Nat.ble args.length fn.ntmps)) (Au fn c)
noncomputable def lu (f:FuncId)(args:List AVal)(h:EH):R :=
 Option.rec (motive:=fun _=>R) none (fun fn=>Option.rec (motive:=fun _=>R) none (fun c=>sM E ih fn c args h) fn.body) (E.P.funcs[f]?)
noncomputable def wK (f:FuncId)(args:List AVal):Option AVal:=match lu E ih f args ⟨.nil,0⟩ with
 | some (.ret v h')=>mK h' 40 v
 | _=>none
noncomputable def sN (args:List AVal)(l:List (List AVal × AVal)):Option AVal :=
 List.rec (motive:=fun _=>Option AVal) none (fun p _ ih=>Bool.casesOn (motive:=fun _=>Option AVal) (fm (ow 40) p.1 args) ih (some p.2)) l
noncomputable def wN (f:FuncId)(args:List AVal):Option (Option AVal):=match lu E ih f args ⟨.nil,0⟩ with
 | some (.ret v h')=>match mK h' 40 v with
  | some u=>some (some u)
  | none=>none
 | some (.panic _)=>some none
 | _=>none
noncomputable def Av (z:GD)(h:EH)(r:Option (Option AVal)):R:=match r with
 | some (some u)=>Bool.rec (motive:=fun _=>R) none (some (.ret (.tup [u,.lit (.int .i64 0)]) h)) (z.ok u)
 | some none=>some (.ret (.tup [z.z,.lit (.int .i64 6)]) h)
 | none=>none
noncomputable def Aw (z:GD)(args:List AVal)(h:EH):R:=match args with
 | [.clo g [] cap]=>match bD (gJ h 40) cap with
  | some p=>Bool.rec (motive:=fun _=>R) none (Av z h (wN E ih g p.1)) (p.2.all fun r=>Nat.blt r h.nx)
  | none=>none
 | _=>none
noncomputable def sP (k:BT AVal->R):List Tmp->List AVal->BT AVal->R
 | p :: ps,v :: vs,e=>lq e p v fun e=>sP k ps vs e
 | [],[],e=>k e
 | _,_,_=>none
noncomputable def qw (id:Nat)(st:LoopState)(pend:Option Code)(b:Bool)(h2:EH):R:=match aQ h2.hp id with
 | some (.loop _ _ n env ps asg body)=>fI h2.hp id (EBlk.loop st pend n env ps asg body) fun hp=>some (.ret (.lit (.bool b)) ⟨hp,h2.nx⟩)
 | _=>none
noncomputable def endRound (id:Nat)(r:R):R:=match r with
 | some (.ev .normal _ h2)=>qw id .ready none true h2
 | some (.ev .ret _ h2)=>qw id .done (some .ret) false h2
 | some (.ev (.exit i) _ h2)=>qw id .done (some (.exit i)) false h2
 | _=>none
noncomputable def Ax (id n:Nat)(body:Code)(r:R):R:=match r with
 | some (.ev .normal e h1)=>match aQ h1.hp id with
  | some (.loop .ready pend n2 env2 ps2 asg2 body2)=>fI h1.hp id (EBlk.loop .busy pend n2 env2 ps2 asg2 body2) fun hp1=>endRound id (ih (some id) n body e ⟨hp1,h1.nx⟩)
  | _=>none
 | _=>none
def Ay (v:Option AVal)(b n:Nat):Bool:=match v with
 | none=>true
 | some _=>Nat.blt b n
noncomputable def okB:BT AVal->Nat->Nat->Nat->Bool :=
 BT.rec (motive:=fun _=>Nat->Nat->Nat->Bool) (fun _ _ _=>true) (fun v _ _ fl fr a b n=>Ay v b n && (fl (Nat.mul 2 a) (Nat.add a b) n && fr (Nat.mul 2 a) (Nat.add (Nat.mul 2 a) b) n))
noncomputable def Az (env:BT AVal)(n:Nat)(ps:Array Tmp)(asg body:Code):Bool:=okB env 1 0 n && (fits n asg && (fits n body && ps.toList.all fun p=>decide (p<n)))
noncomputable def wO (id:Nat)(args:List AVal)(h:EH):R :=
 match aQ h.hp id with
 | some (.loop .ready _ n env ps asg body) =>
  Bool.rec (motive:=fun _=>R) none (sP (fun e=>Ax ih id n body (ih (some id) n asg e h)) ps.toList args env) (Az env n ps asg body)
 | _=>none
noncomputable def AA (f:FuncId)(args:List AVal)(h:EH)(l:List (List AVal × AVal)):R :=
 match bD (gJ h 40) args with
 | none=>none
 | some p=>match sN p.1 l with
  | some v=>some (.ret v h)
  | none=>lu E ih f args h
noncomputable def wQ (f:FuncId)(first cap args:List AVal)(h:EH):R :=
 match E.gd f with
 | none=>fJ (first++args++cap) fun args=>match E.known f with
  | none=>lu E ih f args h
  | some l=>AA E ih f args h l
 | some z=>fJ (first++args++cap) fun args=>Aw E ih z args h
noncomputable def AB (e:List AVal->Option AVal)(fc args:List AVal)(h:EH):R:=match fc with
 | []=>fJ args fun args=>match e args with
  | some r=>jV r fun r=>some (.ret r h)
  | none=>none
 | _=>none
noncomputable def sQ (fv:AVal)(args:List AVal)(h:EH):R :=
 match fv with
 | .clo f first cap=>match E.ext f with
  | none=>wQ E ih f first cap args h
  | some e=>AB e (first++cap) args h
 | .yld id=>wO ih id args h
 | _=>none
noncomputable def AC (rd:Option Nat)(d:Option Tmp)(k:BT AVal->EH->R)(env:BT AVal)(r:R):R:=match r with
 | some (.ret v h')=>Bool.casesOn (motive:=fun _=>R) (oA h' rd) none (eX env d v fun env=>k env h')
 | some (.panic h')=>Bool.casesOn (motive:=fun _=>R) (oA h' rd) none (some (.ev .panic env h'))
 | _=>none
noncomputable def da (d:Option Tmp)(k:BT AVal->EH->R)(env:BT AVal)(o:OR)(h:EH):R:=wo h (fun v h=>eX env d v fun env=>k env h) o
noncomputable def qx (d:Option Tmp)(k:BT AVal->EH->R)(env:BT AVal)(h:EH)(kd:IntKind)(i:Int):R:=mJ i fun i=>eX env d (.lit (.int kd i)) fun env=>k env h
noncomputable def j5 (d:Option Tmp)(k:BT AVal->EH->R)(env:BT AVal)(h:EH)(b:Bool):R:=vM b fun b=>eX env d (.lit (.bool b)) fun env=>k env h
abbrev bG:=EP->jt->Option Nat->Option Tmp->(BT AVal->EH->R)->BT AVal->EH->R
end step
noncomputable def lx (x:Operand):bG:=fun E _ _ d k env h=>bW E.G env x fun v=>eX env d v fun env=>k env h
noncomputable def sR (e:TypeId)(x:Operand):bG:=fun E _ _ d k env h=>bW E.G env x fun v=>da d k env (.eff (.ptr h.nx 0 0) h.nx 0 e v.cells true) h
noncomputable def sS (t:TypeId)(parts:Array (Nat × Operand)):bG:=fun E _ _ d k env h =>
 lr E.G env (parts.toList.map (·.2)) fun vs=>da d k env (.opt (nN E.P t ((parts.toList.map (·.1)).zip vs))) h
noncomputable def sT (t:TypeId)(len:Nat)(parts:Array (Nat × Operand)):bG:=fun E _ _ d k env h =>
 lr E.G env (parts.toList.map (·.2)) fun vs=>da d k env (qv h ⟨[h.nx],[]⟩ (jh E.P (aq h) h.nx t len ((parts.toList.map (·.1)).zip vs))) h
noncomputable def sU (t:TypeId)(a:Operand):bG:=fun E _ _ d k env h=>bW E.G env a fun a=>da d k env (.opt (we E.P h t a)) h
noncomputable def sV (t:TypeId)(a x:Operand):bG:=fun E _ _ d k env h =>
 Bool.rec (motive:=fun _=>R) none (bW E.G env a fun a=>bW E.G env x fun v=>da d k env (ou E.P h t a v) h) (E.P.underlying t).isSome
abbrev ju:=IntKind->Int->Int->Option Tmp->(BT AVal->EH->R)->BT AVal->EH->R
noncomputable def J9:ju:=fun kd a b d k env h=>qx d k env h kd (qs kd (Int.add a b))
noncomputable def Ka:ju:=fun kd a b d k env h=>qx d k env h kd (qs kd (Int.sub a b))
noncomputable def Kc:ju:=fun kd a b d k env h=>qx d k env h kd (qs kd (Int.mul a b))
noncomputable def Kd:ju:=fun _ a b d k env h=>j5 d k env h (qt a b)
noncomputable def Ke:ju:=fun _ a b d k env h=>j5 d k env h (qt b a)
noncomputable def Kf:ju:=fun _ a b d k env h=>j5 d k env h (qt b a).not
noncomputable def Kg:ju:=fun _ a b d k env h=>j5 d k env h (qt a b).not
noncomputable def Kh:ju:=fun _ a b d k env h=>j5 d k env h (qu a b)
noncomputable def Ki:ju:=fun _ a b d k env h=>j5 d k env h (qu a b).not
noncomputable def qy (op:BinOp):Option ju:=match op with
 | .add=>some J9|.sub=>some Ka|.mul=>some Kc|.lss=>some Kd|.gtr=>some Ke|.leq=>some Kf|.geq=>some Kg|.eql=>some Kh|.neq=>some Ki
 | _=>none
def mL:IntKind->Nat
 | .i8=>0|.i16=>1|.i32=>2|.i64=>3|.u8=>4|.u16=>5|.u32=>6|.u64=>7
noncomputable def sW (E:EP)(op:BinOp)(t:TypeId)(x y:Operand)(a b:AVal)(d:Option Tmp)(k:BT AVal->EH->R)(env:BT AVal)(h:EH):R:=da d k env (.opt (aV E.P op t x y a b)) h
noncomputable def AD (E:EP)(op:BinOp)(t:TypeId)(x y:Operand)(a b:AVal)(d:Option Tmp)(k:BT AVal->EH->R)(env:BT AVal)(h:EH):R:=match ia (aq h) op a b with
 | none=>sW E op t x y a b d k env h
 | some true=>Bool.rec (motive:=fun _=>R) none (j5 d k env h (op == .neq)) (kY (E.P.underlying t))
 | some false=>none
noncomputable def AE (E:EP)(op:BinOp)(t:TypeId)(x y:Operand)(a b:AVal)(d:Option Tmp)(k:BT AVal->EH->R)(env:BT AVal)(h:EH):R :=
 match a,b with
 | .lit (.int kd a),.lit (.int kd' b)=>Bool.rec (motive:=fun _=>R) (sW E op t x y (.lit (.int kd a)) (.lit (.int kd' b)) d k env h) (Option.rec (motive:=fun _=>R) (sW E op t x y (.lit (.int kd a)) (.lit (.int kd' b)) d k env h) (fun f=>f kd a b d k env h) (qy op)) (Nat.beq (mL kd) (mL kd'))
 | a,b=>AD E op t x y a b d k env h
noncomputable def sX (op:BinOp)(t:TypeId)(x y:Operand)(_:TypeId):bG:=fun E _ _ d k env h=>bW E.G env x fun a=>bW E.G env y fun b=>AE E op t x y a b d k env h
noncomputable def sY (fn:Fn)(first cap:Array Operand):bG:=fun E _ _ d k env h =>
 match fn with
 | .func f=>lr E.G env first.toList fun a=>lr E.G env cap.toList fun b=>eX env d (.clo f a b) fun env=>k env h
 | _=>none
noncomputable def sZ (t:TypeId)(x i:Operand):bG:=fun E _ _ d k env h=>bW E.G env x fun x=>bW E.G env i fun i=>da d k env (.opt (oo E.P (aq h) t x i)) h
noncomputable def mM (E:EP)(env:BT AVal)(h:EH)(o:Op):OR:=qv h (aY E.P E.G (aD env) h.nx o) (ag E.P E.G (aD env) (aq h) h.nx o)
noncomputable def fo (o:Op):bG:=fun E _ _ d k env h=>da d k env (mM E env h o) h
noncomputable def wS (x:Operand):bG:=fun E _ _ _ _ env h=>match af E.G (aD env) x with
 | .lit (.iface _ _)=>some (.ev .panic env h)
 | _=>none
noncomputable def wT (fv:Operand)(args:Array Operand):bG:=fun E ih rd d k env h =>
 lr E.G env args.toList fun args=>bW E.G env fv fun fv=>AC rd d k env (sQ E ih fv args h)
noncomputable def qz:bG:=fun _ _ _ _ _ _ _=>none
noncomputable def qA {α:Type}(_:α):bG:=qz
noncomputable def oC {α β:Type}(_:α)(_:β):bG:=qz
noncomputable def Kj {α β γ:Type}(_:α)(_:β)(_:γ):bG:=qz
noncomputable def Kk {α β γ δ:Type}(_:α)(_:β)(_:γ)(_:δ):bG:=qz
noncomputable def qC (v:AVal)(r:Nat)(fresh:Bool)(b:Option Blk):OR:=match b with
 | some (.arr g e c)=>.eff v r g e c fresh
 | _=>.fail
noncomputable def s7 (r:Nat)(fresh:Bool)(o:Option (AVal × AHeap)):OR:=match o with
 | some (v,H')=>qC v r fresh (H'.get r)
 | none=>.fail
noncomputable def s8 (c a b:Operand):bG:=fun E _ _ d k env h=>bW E.G env c fun c=>match c with
 | .lit (.bool t)=>Bool.rec (motive:=fun _=>R) (bW E.G env b fun v=>eX env d v fun env=>k env h) (bW E.G env a fun v=>eX env d v fun env=>k env h) t
 | _=>none
noncomputable def ta (e:TypeId):bG:=fun E _ _ d k env h=>match bT E.P e with
 | some z=>da d k env (.eff (.ptr h.nx 0 0) h.nx 0 e z true) h
 | none=>none
noncomputable def tb (x:Operand):bG:=fun E _ _ d k env h=>bW E.G env x fun x=>da d k env (.opt (jj (aq h) x)) h
noncomputable def tc (op:UnOp)(_:TypeId)(x:Operand):bG:=fun E _ _ d k env h=>bW E.G env x fun x=>da d k env (.opt (pJ E.P op x)) h
noncomputable def te (s t:TypeId)(x:Operand):bG:=fun E _ _ d k env h=>bW E.G env x fun x=>da d k env (.opt (ji E.P (aq h) s t x)) h
noncomputable def Kl (t:TypeId)(x:Operand):bG:=fo (.makeInterface t x)
noncomputable def tf (t:TypeId)(l c:Operand):bG:=fun E _ _ d k env h=>bW E.G env l fun l=>bW E.G env c fun c=>da d k env (s7 h.nx true (iM E.P (aq h) h.nx t l c)) h
noncomputable def wU (G:Nat->Option (List AVal))(env:BT AVal)(x:Option Operand)(k:Option AVal->R):R:=match x with
 | none=>k none
 | some x=>bW G env x fun v=>k (some v)
noncomputable def tg (t:TypeId)(x:Operand)(l u m:Option Operand):bG:=fun E _ _ d k env h=>match m with
 | none=>bW E.G env x fun x=>wU E.G env l fun l=>wU E.G env u fun u=>da d k env (.opt (ko E.P (aq h) t x l u)) h
 | some _=>none
noncomputable def ti (t:TypeId)(x:Operand)(f:Nat):bG:=fun E _ _ d k env h=>bW E.G env x fun x=>da d k env (.opt (oh E.P (aq h) t f x)) h
noncomputable def tj (t:TypeId)(x:Operand)(f:Nat):bG:=fun E _ _ d k env h=>bW E.G env x fun x=>da d k env (.opt (zQ E.P t f x)) h
noncomputable def tl (t:TypeId)(x i:Operand):bG:=fun E _ _ d k env h=>bW E.G env x fun x=>bW E.G env i fun i=>da d k env (.opt (kV E.P t x i)) h
noncomputable def tn (t:Operand)(i:Nat):bG:=fun E _ _ d k env h=>bW E.G env t fun t=>da d k env (.opt (kr t i)) h
noncomputable def tp (t:TypeId)(x:Operand):bG:=fun E _ _ d k env h=>bW E.G env x fun x=>da d k env (.opt (kq E.P (aq h) t x)) h
noncomputable def AF (E:EP)(t u:TypeId)(s x:AVal)(d:Option Tmp)(k:BT AVal->EH->R)(env:BT AVal)(h:EH):R:=match s with
 | .own id g o l z=>match bF E.P (aq h) h.nx t u s x with
  | some (.own _ g' o' l' z',H')=>Bool.rec (motive:=fun _=>R) (da d k env (qC (.own id g' o' l' z') id false (H'.get id)) h) (da d k env (.val (.own id g o l z)) h) (Nat.beq g' g)
  | _=>none
 | s=>match bF E.P (aq h) h.nx t u s x with
  | some (.own id' g' o' l' z',H')=>da d k env (qC (.own id' g' o' l' z') h.nx true (H'.get h.nx)) h
  | some (.lit v,_)=>da d k env (.val (.lit v)) h
  | _=>none
noncomputable def tq (t u:TypeId)(s x:Operand):bG:=fun E _ _ d k env h=>bW E.G env s fun s=>bW E.G env x fun x=>AF E t u s x d k env h
noncomputable def oD (c:Call)(b:Builtin):bG:=match b,c.argTypes.toList,c.args.toList with
 | .len,[t],[x]=>tp t x
 | .append,[t,u],[s,x]=>tq t u s x
 | _,_,_=>fo (.call c)
noncomputable def AG (c:Call):bG:=match c.callee with
 | .value fv=>wT fv c.args
 | .builtin b=>oD c b
 | _=>qz
noncomputable def Km (t:TypeId)(m a x:Operand):bG:=fo (.insert t m a x)
noncomputable def Kn (t:TypeId)(x:Option Operand):bG:=fo (.makeMap t x)
noncomputable def Ko (t:TypeId)(x i:Operand)(ok:Bool):bG:=fo (.lookup t x i ok)
noncomputable def Kp (t:TypeId)(m a x:Operand):bG:=fo (.mapUpdate t m a x)
noncomputable def Kq (t:TypeId)(m a:Operand):bG:=fo (.mapEntry t m a)
noncomputable def Kr (t:TypeId)(m a x:Operand):bG:=fo (.entryStore t m a x)
noncomputable def tt:Op->bG :=
 Op.rec (motive:=fun _=>bG) lx lx s8 ta sR sS sT Km sU sV qA qA tb sX tc te oC Kl sY
  Kn oC tf tg ti tj sZ tl Ko Kp Kq Kr oC oC qA Kk tn AG qA qA wS oC Kj oC
section step
variable (E:EP) (ih:jt)
noncomputable def wV (all:Array Oper)(ρ:Env)(yes no:R)(jw:Nat × Bool):R :=
 match (all[jw.1]?).bind (·.dst) with
 | some d=>match ρ d with
  | .lit (.bool b)=>Bool.rec (motive:=fun _=>R) no yes (b == jw.2)
  | .lit _=>no
  | _=>none
 | none=>no
noncomputable def oE (all:Array Oper)(ρ:Env)(g:Option (Nat × Bool))(yes no:R):R:=Option.rec (motive:=fun _=>R) yes (wV all ρ yes no) g
noncomputable def oG (rd:Option Nat)(all:Array Oper)(l:List Oper):BT AVal->EH->R :=
 List.rec (motive:=fun _=>BT AVal->EH->R) (fun env h=>some (.ev .normal env h)) (fun o _ ihr env h =>
  oE all (aD env) o.guard (tt o.op E ih rd o.dst ihr env h) (eX env o.dst (.lit undef) fun env=>ihr env h)) l
def Ks (bs:List Nat)(o:Oper):Nat:=(rX o).foldl (fun b j=>b ||| (2 ^ j ||| cT bs j)) 0
def lC:List Oper->List Nat->List Nat
 | [],bs=>bs
 | o :: l,bs=>lC l (bs++[Ks bs o])
def qE (bs:List Nat):Nat->Nat
 | 0=>0
 | k+1=>if cT bs k=2 ^ k - 1 then qE bs k else k+1
def wX (b:Nat)(f:FP)(acc:List (Nat × FP)):Bool:=acc.all fun p=>b.testBit p.1 || (f.eff.all fun r=>!p.2.rs.contains r) && p.2.eff.all fun r=>!f.rs.contains r
noncomputable def AH (e:List AVal->Option AVal)(fc args:List AVal)(h:EH)(k:AVal->FP->EH->R):R:=match fc with
 | []=>fJ args fun args=>match e args with
  | some v=>k v ⟨[],[]⟩ h
  | none=>none
 | _=>none
noncomputable def AI (h h':EH)(kp fz:List Nat)(v:AVal)(k:AVal->FP->EH->R):R :=
 match Nat.ble h.nx h'.nx,wB (fun id=>wI (aQ h.hp id) (aQ h'.hp id)) kp,jY h' h.nx kp 40 v [] with
 | true,true,some lv=>sJ h' lv h.nx (Nat.sub h'.nx h.nx) h.hp fun hp=>cU h'.nx fun nx=>k v ⟨Ev.rP h.nx nx,kp++fz⟩ ⟨hp,nx⟩
 | _,_,_=>none
noncomputable def AJ (f:FuncId)(kp fz:List Nat)(all:List AVal)(h:EH)(k:AVal->FP->EH->R)(hp:BT EBlk):R:=match lu E ih f all ⟨hp,h.nx⟩ with
 | some (.ret v h')=>AI h h' kp fz v k
 | _=>none
noncomputable def AK (f:FuncId)(all:List AVal)(h:EH)(k:AVal->FP->EH->R)(kp:List Nat):R:=match bD (js h kp 40) all with
 | some p=>Bool.rec (motive:=fun _=>R) none (wD h kp (AJ E ih f kp p.2 p.1 h k) .nil) (p.2.all fun r=>Nat.blt r h.nx)
 | none=>none
noncomputable def tu (f:FuncId)(all:List AVal)(h:EH)(k:AVal->FP->EH->R):R:=jZ (sI h 40) all [] (AK E ih f all h k)
noncomputable def AL (f:FuncId)(all:List AVal)(h:EH)(k:AVal->FP->EH->R)(l:List (List AVal × AVal)):R:=match bD (gJ h 40) all with
 | none=>tu E ih f all h k
 | some p=>match sN p.1 l with
  | some v=>Bool.rec (motive:=fun _=>R) none (k v ⟨[],p.2⟩ h) (p.2.all fun r=>Nat.blt r h.nx)
  | none=>tu E ih f all h k
noncomputable def AM (f:FuncId)(first cap args:List AVal)(h:EH)(k:AVal->FP->EH->R):R:=match E.gd f with
 | some _=>none
 | none=>fJ (first++args++cap) fun all=>match E.known f with
  | none=>tu E ih f all h k
  | some l=>AL E ih f all h k l
noncomputable def wY (fv:AVal)(args:List AVal)(h:EH)(k:AVal->FP->EH->R):R:=match fv with
 | .clo f first cap=>match E.ext f with
  | none=>AM E ih f first cap args h k
  | some e=>AH e (first++cap) args h k
 | _=>none
abbrev oI:=List (Nat × FP)->BT AVal->EH->R
noncomputable def tv (d:Option Tmp)(b i:Nat)(acc:List (Nat × FP))(k:oI)(env:BT AVal)(f:FP)(o:OR)(h:EH):R :=
 Bool.casesOn (motive:=fun _=>R) (wX b f acc) none (wo h (fun v h=>eX env d v fun env=>k (dx i f acc) env h) o)
noncomputable def AN (d:Option Tmp)(b i:Nat)(acc:List (Nat × FP))(k:oI)(env:BT AVal)(v:AVal)(f:FP)(h:EH):R :=
 Bool.casesOn (motive:=fun _=>R) (wX b f acc) none (jV v fun v=>eX env d v fun env=>k (dx i f acc) env h)
noncomputable def tw (o:Oper)(b i:Nat)(acc:List (Nat × FP))(k:oI)(env:BT AVal)(h:EH):R:=match o.op with
 | .call c=>match c.callee with
  | .value fv=>lr E.G env c.args.toList fun args=>bW E.G env fv fun fv=>wY E ih fv args h (AN o.dst b i acc k env)
  | _=>tv o.dst b i acc k env (aY E.P E.G (aD env) h.nx (.call c)) (mM E env h (.call c)) h
 | .panic _=>none
 | op=>tv o.dst b i acc k env (aY E.P E.G (aD env) h.nx op) (mM E env h op) h
noncomputable def tx (all:Array Oper)(tail:BT AVal->EH->R)(l:List Oper):List Nat->Nat->oI :=
 List.rec (motive:=fun _=>List Nat->Nat->oI) (fun _ _ _ env h=>tail env h) (fun o _ ihr bs i acc env h=>match bs with
  | []=>none
  | b :: bs=>oE all (aD env) o.guard (tw E ih o b i acc (ihr bs (i+1)) env h) (eX env o.dst (.lit undef) fun env=>ihr bs (i+1) acc env h)) l
noncomputable def tz (rd:Option Nat)(ops:Array Oper)(bs:List Nat)(K:Nat)(env:BT AVal)(h:EH):R :=
 Bool.casesOn (motive:=fun _=>R) (qc ops (bs.take K) K) none (tx E ih ops (oG E ih rd ops (ops.toList.drop K)) (ops.toList.take K) (bs.take K) 0 [] env h)
noncomputable def qF (rd:Option Nat)(n:Nat)(b:Code)(r:R):R:=match r with
 | some (.ev .normal e h)=>ih rd n b e h
 | r=>r
noncomputable def wZ (id:Nat)(r:R):R:=match r with
 | some (.ev (.exit i) e h)=>Bool.casesOn (motive:=fun _=>R) (Nat.beq i id) (some (.ev (.exit i) e h)) (some (.ev .normal e h))
 | r=>r
noncomputable def oJ (r:R):R:=match r with
 | some (.ev (.goto _) _ _)=>none
 | r=>r
noncomputable def w6 (v:AVal)(x y:R):R:=match v with
 | .lit (.bool b)=>Bool.casesOn (motive:=fun _=>R) b y x
 | _=>none
noncomputable def endLoop (env:BT AVal)(h2:EH)(pend:Option Code)(hp3:BT EBlk):R:=match pend with
 | none=>some (.ev .normal env ⟨hp3,h2.nx⟩)
 | some .ret=>some (.ev .ret env ⟨hp3,h2.nx⟩)
 | some (.exit i)=>some (.ev (.exit i) env ⟨hp3,h2.nx⟩)
 | _=>none
noncomputable def AO (rd:Option Nat)(env:BT AVal)(id:Nat)(r:R):R:=match r with
 | some (.ret _ h2)=>Bool.casesOn (motive:=fun _=>R) (oA h2 rd) none (match aQ h2.hp id with
  | some (.loop .busy ..)=>none
  | some (.loop _ pend n2 env2 ps2 asg2 body2)=>fI h2.hp id (EBlk.loop .exhausted pend n2 env2 ps2 asg2 body2) fun hp3=>endLoop env h2 pend hp3
  | _=>none)
 | some (.panic h2)=>Bool.casesOn (motive:=fun _=>R) (oA h2 rd) none (some (.ev .panic env h2))
 | _=>none
noncomputable def w7 (rd:Option Nat)(n:Nat)(env:BT AVal)(h:EH)(ps:Array Tmp)(asg body:Code)(v:AVal):R:=match v with
 | .clo g first cap=>fI h.hp h.nx (EBlk.loop .ready none n env ps asg body) fun hp1=>AO rd env h.nx (fJ (first++[.yld h.nx]++cap) fun args=>lu E ih g args ⟨hp1,Nat.succ h.nx⟩)
 | _=>none
end step
abbrev fR:=EP->jt->Option Nat->Nat->BT AVal->EH->R
noncomputable def AP:fR:=fun _ _ _ _ env h=>some (.ev .normal env h)
noncomputable def Kt (_:Nat):fR:=AP
noncomputable def Ku (i:Nat):fR:=fun _ _ _ _ env h=>some (.ev (.exit i) env h)
noncomputable def Kv:fR:=fun _ _ _ _ env h=>some (.ev .ret env h)
noncomputable def Kw (_:Nat):fR:=fun _ _ _ _ _ _=>none
noncomputable def Kx (_:String):fR:=fun _ _ _ _ _ _=>none
noncomputable def Ky (_:Nat)(ops:Array Oper)(dr:Bool):fR:=fun E ih rd _ env h =>
 Bool.rec (motive:=fun _=>R) (oG E ih rd ops ops.toList env h) (tz E ih rd ops (lC ops.toList []) (qE (lC ops.toList []) ops.toList.length) env h) dr
noncomputable def Kz (a b:Code):fR:=fun _ ih rd n env h=>qF ih rd n b (ih rd n a env h)
noncomputable def KA (x:Operand)(a b:Code):fR:=fun E ih rd n env h=>w6 (af E.G (aD env) x) (ih rd n a env h) (ih rd n b env h)
noncomputable def KB (id:Nat)(b:Code):fR:=fun _ ih rd n env h=>wZ id (ih rd n b env h)
noncomputable def KC (b:Code):fR:=fun _ ih rd n env h=>oJ (qF ih rd n (.loop b) (ih rd n b env h))
noncomputable def KD (b:Code):fR:=fun _ ih rd n env h=>oJ (ih rd n b env h)
noncomputable def KE (f:Operand)(ps:Array Tmp)(asg body:Code):fR:=fun E ih rd n env h=>w7 E ih rd n env h ps asg body (af E.G (aD env) f)
noncomputable def KG:Code->fR:=fun c=>Code.casesOn (motive:=fun _=>fR) c AP Ky Kz KA KB KC KE Ku KD Kt Kw Kv Kx
noncomputable def AQ (E:EP)(ih:jt)(rd:Option Nat)(n:Nat)(c:Code)(env:BT AVal)(h:EH):R:=KG c E ih rd n env h
noncomputable def AR (E:EP)(fuel:Nat):jt:=Nat.rec (motive:=fun _=>jt) (fun _ _ _ _ _=>none) (fun _ ih=>AQ E ih) fuel
noncomputable def AS (E:EP)(fuel:Nat)(f:FuncId)(args:List AVal):Option AVal:=wK E (AR E fuel) f args
end Go.Hx
namespace Go.Hx
variable {P:Program} {G:Nat->Option (List AVal)}
theorem gK (n:Nat)(k:Nat->R):cU n k=k n:=by cases n<;>rfl
theorem tA (n:Int)(k:Int->R):mJ n k=k n:=by
 cases n with
 | ofNat n=>show cU n (fun n=>k (.ofNat n))=_;rw[gK]
 | negSucc n=>show cU n (fun n=>k (.negSucc n))=_;rw[gK]
theorem AT (n:Bool)(k:Bool->R):vM n k=k n:=by cases n<;>rfl
theorem ig (l:List AVal):∀ (k:List AVal->R),fJ l k=k l:=by
 induction l with
 | nil=>intro k;rfl
 | cons x l ih=>intro k;exact ih _
theorem KH (v:Value)(k:Value->R):vO v k=k v:=by
 unfold vO;split
 ·rw[tA]
 ·rw[AT]
 ·rfl
theorem KI (l:List (Int × Int)):∀ (k:List (Int × Int)->R),sG l k=k l:=by
 induction l with
 | nil=>intro k;rfl
 | cons p l ih =>
  intro k;obtain⟨a,b⟩:=p;show (mJ a fun a=>mJ b fun b=>sG l fun l=>k ((a,b) :: l))=_;rw[tA,tA,ih]
theorem oK (v:AVal)(k:AVal->R):jV v k=k v:=by
 cases v with
 | lit v=>show vQ v k=_;unfold vQ;rw[KH]
 | vec n cs=>show vR n cs k=_;unfold vR;rw[gK,ig]
 | own a b c d e=>show vS a b c d e k=_;unfold vS;simp only[gK]
 | ptr a b c=>show vT a b c k=_;unfold vT;simp only[gK]
 | vptr cs n=>show vU cs n k=_;unfold vU;rw[gK,ig]
 | agg cs=>show vV cs k=_;unfold vV;rw[ig]
 | tup cs=>show vW cs k=_;unfold vW;rw[ig]
 | clo f a b=>show vX f a b k=_;unfold vX;simp only[gK,ig]
 | yld n=>show vY n k=_;unfold vY;rw[gK]
theorem tB (n:Nat):dU .nil n=none:=rfl
theorem KJ (v:Option AVal)(l r:BT AVal):dU (.node v l r) 0=v:=rfl
theorem j6 (v:Option AVal)(l r:BT AVal)(m:Nat):dU (.node v l r) (m+1)=if m % 2=0 then dU l (m / 2) else dU r (m / 2):=by
 show Nat.rec (motive:=fun _=>Option AVal) (dU l (m / 2)) (fun _ _=>dU r (m / 2)) (m % 2)=_;rcases S3 m with h|h<;>rw[h]<;>rfl
theorem w8 (n:Nat):aQ .nil n=none:=rfl
theorem kB (v:Option EBlk)(l r:BT EBlk)(m:Nat):aQ (.node v l r) (m+1)=if m % 2=0 then aQ l (m / 2) else aQ r (m / 2):=by
 show Nat.rec (motive:=fun _=>Option EBlk) (aQ l (m / 2)) (fun _ _=>aQ r (m / 2)) (m % 2)=_;rcases S3 m with h|h<;>rw[h]<;>rfl
theorem lG {m n:Nat}(h:m % 2=n % 2):m / 2=n / 2↔m=n:=by omega
theorem KK:∀ (f n:Nat) (x:AVal) (k:BT AVal->R) (r:RR),sE f n x k=some r->∃ t,k t=some r/\∀ m,dU t m=if m=n then some x else none:=by
 intro f
 induction f with
 | zero=>intro n x k r h;cases h
 | succ f ih =>
  intro n x k r h;cases n with
  | zero =>
   refine⟨_,h,fun m=>?_⟩;cases m with
   | zero=>rfl
   | succ m=>rw[j6];simp [tB]
  | succ n =>
   have h':Nat.rec (motive:=fun _=>R) (sE f (n / 2) x fun l=>k (.node none l .nil)) (fun _ _=>sE f (n / 2) x fun r=>k (.node none .nil r)) (n % 2)=some r:=h;rcases S3 n with h2|h2<;>rw[h2]at h'
   ·obtain⟨t,h3,h4⟩:=ih _ _ _ _ h';refine⟨_,h3,fun m=>?_⟩;cases m with
    | zero=>rw[RB (by omega)];rfl
    | succ m =>
     rw[j6,h4,tB];split
     ·rename_i hm;simp only[SU,lG (hm.trans h2.symm)]
     ·rename_i hm;rw[RB];rintro hmn;have:m=n:=(by omega);exact hm (this ▸ h2)
   ·obtain⟨t,h3,h4⟩:=ih _ _ _ _ h';refine⟨_,h3,fun m=>?_⟩;cases m with
    | zero=>rw[RB (by omega)];rfl
    | succ m =>
     rw[j6,h4,tB];split
     ·rename_i hm;rw[RB];rintro hmn;have:m=n:=(by omega);omega
     ·rename_i hm;have hm':m % 2=n % 2:=(by omega);simp only[SU,lG hm']
theorem w9:∀ (t:BT AVal) (n:Nat) (x:AVal) (k:BT AVal->R) (r:RR),lq t n x k=some r->∃ t',k t'=some r/\∀ m,dU t' m=if m=n then some x else dU t m:=by
 intro t
 induction t with
 | nil=>intro n x k r h;exact KK 20 n x k r h
 | node v l r ihl ihr =>
  intro n x k rr h;cases n with
  | zero =>
   refine⟨_,h,fun m=>?_⟩;cases m with
   | zero=>rfl
   | succ m=>rw[j6,j6];simp
  | succ n =>
   have h':Nat.rec (motive:=fun _=>R) (lq l (n / 2) x fun l=>k (.node v l r)) (fun _ _=>lq r (n / 2) x fun r=>k (.node v l r)) (n % 2)=some rr:=h;rcases S3 n with h2|h2<;>rw[h2]at h'
   ·obtain⟨t,h3,h4⟩:=ihl _ _ _ _ h';refine⟨_,h3,fun m=>?_⟩;cases m with
    | zero=>rw[RB (by omega)];rfl
    | succ m =>
     rw[j6,j6,h4];split
     ·rename_i hm;simp only[SU,lG (hm.trans h2.symm)]
     ·rename_i hm;rw[RB];rintro hmn;have:m=n:=(by omega);exact hm (this ▸ h2)
   ·obtain⟨t,h3,h4⟩:=ihr _ _ _ _ h';refine⟨_,h3,fun m=>?_⟩;cases m with
    | zero=>rw[RB (by omega)];rfl
    | succ m =>
     rw[j6,j6,h4];split
     ·rename_i hm;rw[RB];rintro hmn;have:m=n:=(by omega);omega
     ·rename_i hm;have hm':m % 2=n % 2:=(by omega);simp only[SU,lG hm']
theorem KL:∀ (f n:Nat) (x:EBlk) (k:BT EBlk->R) (r:RR),sF f n x k=some r->∃ t,k t=some r/\∀ m,aQ t m=if m=n then some x else none:=by
 intro f
 induction f with
 | zero=>intro n x k r h;cases h
 | succ f ih =>
  intro n x k r h;cases n with
  | zero =>
   refine⟨_,h,fun m=>?_⟩;cases m with
   | zero=>rfl
   | succ m=>rw[kB];simp [w8]
  | succ n =>
   have h':Nat.rec (motive:=fun _=>R) (sF f (n / 2) x fun l=>k (.node none l .nil)) (fun _ _=>sF f (n / 2) x fun r=>k (.node none .nil r)) (n % 2)=some r:=h;rcases S3 n with h2|h2<;>rw[h2]at h'
   ·obtain⟨t,h3,h4⟩:=ih _ _ _ _ h';refine⟨_,h3,fun m=>?_⟩;cases m with
    | zero=>rw[RB (by omega)];rfl
    | succ m =>
     rw[kB,h4,w8];split
     ·rename_i hm;simp only[SU,lG (hm.trans h2.symm)]
     ·rename_i hm;rw[RB];rintro hmn;have:m=n:=(by omega);exact hm (this ▸ h2)
   ·obtain⟨t,h3,h4⟩:=ih _ _ _ _ h';refine⟨_,h3,fun m=>?_⟩;cases m with
    | zero=>rw[RB (by omega)];rfl
    | succ m =>
     rw[kB,h4,w8];split
     ·rename_i hm;rw[RB];rintro hmn;have:m=n:=(by omega);omega
     ·rename_i hm;have hm':m % 2=n % 2:=(by omega);simp only[SU,lG hm']
theorem lH:∀ (t:BT EBlk) (n:Nat) (x:EBlk) (k:BT EBlk->R) (r:RR),fI t n x k=some r->∃ t',k t'=some r/\∀ m,aQ t' m=if m=n then some x else aQ t m:=by
 intro t
 induction t with
 | nil=>intro n x k r h;exact KL 20 n x k r h
 | node v l r ihl ihr =>
  intro n x k rr h;cases n with
  | zero =>
   refine⟨_,h,fun m=>?_⟩;cases m with
   | zero=>rfl
   | succ m=>rw[kB,kB];simp
  | succ n =>
   have h':Nat.rec (motive:=fun _=>R) (fI l (n / 2) x fun l=>k (.node v l r)) (fun _ _=>fI r (n / 2) x fun r=>k (.node v l r)) (n % 2)=some rr:=h;rcases S3 n with h2|h2<;>rw[h2]at h'
   ·obtain⟨t,h3,h4⟩:=ihl _ _ _ _ h';refine⟨_,h3,fun m=>?_⟩;cases m with
    | zero=>rw[RB (by omega)];rfl
    | succ m =>
     rw[kB,kB,h4];split
     ·rename_i hm;simp only[SU,lG (hm.trans h2.symm)]
     ·rename_i hm;rw[RB];rintro hmn;have:m=n:=(by omega);exact hm (this ▸ h2)
   ·obtain⟨t,h3,h4⟩:=ihr _ _ _ _ h';refine⟨_,h3,fun m=>?_⟩;cases m with
    | zero=>rw[RB (by omega)];rfl
    | succ m =>
     rw[kB,kB,h4];split
     ·rename_i hm;rw[RB];rintro hmn;have:m=n:=(by omega);omega
     ·rename_i hm;have hm':m % 2=n % 2:=(by omega);simp only[SU,lG hm']
theorem tC (env:BT AVal)(t:Tmp):aD env t=(dU env t).getD (.lit undef):=by
 unfold aD;cases dU env t<;>rfl
theorem AU {env env':BT AVal}{d:Nat}{v:AVal}(h:∀ m,dU env' m=if m=d then some v else dU env m):aD env'=aE (aD env) (some d) v:=by
 funext t
 simp only[tC,h,aE];split<;>rfl
theorem kC {env:BT AVal}{d:Option Tmp}{v:AVal}{k:BT AVal->R}{r:RR}(h:eX env d v k=some r):∃ env',k env'=some r/\aD env'=aE (aD env) d v:=by
 cases d with
 | none=>exact⟨env,h,rfl⟩
 | some d =>
  obtain⟨t,h1,h2⟩:=w9 _ _ _ _ _ h;exact⟨t,h1,AU h2⟩
theorem cE (env:BT AVal)(x:Operand)(k:AVal->R):bW G env x k=k (af G (aD env) x):=by
 cases x with
 | tmp t =>
  show v7 env t k=_;unfold v7;simp only[af,tC];cases dU env t<;>rfl
 | const v=>rfl
 | global g =>
  show vZ G g k=_;unfold vZ;simp only[af];cases G g with
  | none=>rfl
  | some c=>exact ig _ _
 | func f=>rfl
theorem oL (env:BT AVal)(l:List Operand):∀ (k:List AVal->R),lr G env l k=k (l.map (af G (aD env))):=by
 induction l with
 | nil=>intro k;rfl
 | cons x l ih =>
  intro k;show bW G env x (fun x=>lr G env l fun l=>k (x :: l))=_;rw[cE,ih];rfl
theorem AV (env:BT AVal)(x:Option Operand)(k:Option AVal->R):wU G env x k=k (x.map (af G (aD env))):=by
 cases x with
 | none=>rfl
 | some x=>exact cE _ _ _
def oM (o:OR)(h:EH)(v:AVal)(H':AHeap):Prop :=
 match o with
 | .fail=>False
 | .val u=>v=u/\H'=aq h
 | .eff u r g e c fr=>v=u/\H'=⟨fun j=>if j=r then some (.arr g e c) else (aq h).get j,if fr then h.nx+1 else h.nx⟩
 | .effM u r es fr=>v=u/\H'=⟨fun j=>if j=r then some (.mp es) else (aq h).get j,if fr then h.nx+1 else h.nx⟩
theorem tD {h:EH}{hp:BT EBlk}{r nx:Nat}{b:EBlk}(hs:∀ m,aQ hp m=if m=r then some b else aQ h.hp m):aq ⟨hp,nx⟩=⟨fun j=>if j=r then some b.jW else (aq h).get j,nx⟩:=by
 unfold aq;congr 1
 funext j
 show Option.map EBlk.jW (aQ hp j)=_;rw[hs];split<;>rfl
theorem AW {o:Option AVal}{h:EH}{v:AVal}{H':AHeap}(hr:oM (.opt o) h v H'):o=some v/\H'=aq h:=by
 cases o with
 | none=>exact hr.elim
 | some u=>exact⟨by rw[hr.1],hr.2⟩
theorem xd (k:IntKind)(i:Int):qs k i=k.wrap i:=by
 unfold qs;split
 ·have hr:∀ j:Int,-9223372036854775808<=j->j<=9223372036854775807->IntKind.i64.wrap j=j:=fun j h1 h2=>Rw j (by omega);cases i with
  | ofNat n =>
   show Bool.casesOn (motive:=fun _=>Int) (Nat.ble n 9223372036854775807) _ _=_;cases hb:Nat.ble n 9223372036854775807 with
   | false=>rfl
   | true =>
    have:=SL hb;exact(hr (Int.ofNat n) (by simp only[Ub];omega) (by simp only[Ub];omega)).symm
  | negSucc n =>
   show Bool.casesOn (motive:=fun _=>Int) (Nat.ble n 9223372036854775807) _ _=_;cases hb:Nat.ble n 9223372036854775807 with
   | false=>rfl
   | true =>
    have:=SL hb;exact(hr (Int.negSucc n) (by omega) (by omega)).symm
 ·rfl
theorem tE (a b:Int):qt a b=decide (a<b):=by
 cases a with
 | ofNat m=>cases b with
  | ofNat n =>
   show Nat.ble (m+1) n=_;rw[Tu,Nat.ble_eq,Su];simp;omega
  | negSucc n =>
   show false=_
   symm
   rw[SY];simp only[Ub];omega
 | negSucc m=>cases b with
  | ofNat n =>
   show true=_
   symm
   rw[Su];simp only[Ub];omega
  | negSucc n =>
   show Nat.ble (n+1) m=_;rw[Tu,Nat.ble_eq,Su];omega
theorem tF (a b:Int):qu a b=decide (a=b):=by
 cases a with
 | ofNat m=>cases b with
  | ofNat n =>
   show Nat.beq m n=_;rw[Tu,Su];constructor
   ·intro h;rw[RM h]
   ·intro h;rw[Int.ofNat.inj h];exact TJ n
  | negSucc n =>
   show false=_
   symm
   rw[SY];intro h;cases h
 | negSucc m=>cases b with
  | ofNat n =>
   show false=_
   symm
   rw[SY];intro h;cases h
  | negSucc n =>
   show Nat.beq m n=_;rw[Tu,Su];constructor
   ·intro h;rw[RM h]
   ·intro h;rw[Int.negSucc.inj h];exact TJ n
theorem xe {d:Option Tmp}{k:BT AVal->EH->R}{env:BT AVal}{h:EH}{kd:IntKind}{i:Int}{r:RR}(hr:qx d k env h kd i=some r):∃ env',aD env'=aE (aD env) d (.lit (.int kd i))/\k env' h=some r:=by
 unfold qx at hr;rw[tA]at hr;obtain⟨env',h1,h2⟩:=kC hr;exact⟨env',h2,h1⟩
theorem mO {d:Option Tmp}{k:BT AVal->EH->R}{env:BT AVal}{h:EH}{b:Bool}{r:RR}(hr:j5 d k env h b=some r):∃ env',aD env'=aE (aD env) d (.lit (.bool b))/\k env' h=some r:=by
 unfold j5 at hr;rw[AT]at hr;obtain⟨env',h1,h2⟩:=kC hr;exact⟨env',h2,h1⟩
theorem AY (a b:Int):(decide (b<a)).not=decide (a<=b):=by
 rw[Tu];simp
theorem KM {op:BinOp}{t:TypeId}{x y:Operand}{f:ju}(hf:qy op=some f){kd:IntKind}{a b:Int}{d:Option Tmp}{k:BT AVal->EH->R}{env:BT AVal}{h:EH}{r:RR}
  (hr:f kd a b d k env h=some r):
  ∃ v env',aV P op t x y (.lit (.int kd a)) (.lit (.int kd b))=some v/\aD env'=aE (aD env) d v/\k env' h=some r:=by
 unfold qy at hf;split at hf
 ·cases hf;obtain⟨env',h1,h2⟩:=xe hr;exact⟨_,env',zR,by rw[h1,xd];rfl,h2⟩
 ·cases hf;obtain⟨env',h1,h2⟩:=xe hr;exact⟨_,env',zS,by rw[h1,xd];rfl,h2⟩
 ·cases hf;obtain⟨env',h1,h2⟩:=xe hr;exact⟨_,env',zU,by rw[h1,xd];rfl,h2⟩
 ·cases hf;obtain⟨env',h1,h2⟩:=mO hr;exact⟨_,env',zV,by rw[h1,tE],h2⟩
 ·cases hf;obtain⟨env',h1,h2⟩:=mO hr;exact⟨_,env',zY,by rw[h1,tE],h2⟩
 ·cases hf;obtain⟨env',h1,h2⟩:=mO hr;exact⟨_,env',zX,by rw[h1,tE,AY],h2⟩
 ·cases hf;obtain⟨env',h1,h2⟩:=mO hr;exact⟨_,env',zZ,by rw[h1,tE,AY],h2⟩
 ·cases hf;obtain⟨env',h1,h2⟩:=mO hr;exact⟨_,env',z4,by rw[h1,tF],h2⟩
 ·cases hf;obtain⟨env',h1,h2⟩:=mO hr;exact⟨_,env',z5,by rw[h1,tF],h2⟩
 ·cases hf
theorem KN {a b:IntKind}(h:Nat.beq (mL a) (mL b)=true):a=b:=by
 have:=RM h;cases a<;>cases b<;>first|rfl|simp [mL]at this
theorem KO {h:EH}{t:TypeId}{a v:AVal}(hr:we P h t a=some v):eE P (aq h) t a=some v:=by
 unfold we at hr;split at hr
 ·rename_i id gen off;split at hr
  ·rename_i g e cells hg;show (match (aq h).get id with|some (.arr g _ cells)=>if g=gen then dW P t cells off else none|_=>none)=some v;have:(aq h).get id=some (.arr g e cells):=(by show Option.map EBlk.jW (aQ h.hp id)=_;rw[hg];rfl);rw[this];cases hb:Nat.beq g gen with
   | false=>rw[hb]at hr;cases hr
   | true =>
    rw[hb]at hr;simp only;rw[RC (RM hb)];exact hr
  ·cases hr
 ·exact hr
 ·cases hr
theorem KP {h:EH}{t:TypeId}{a x v:AVal}{H':AHeap}(hr:oM (ou P h t a x) h v H'):v=.lit undef/\gh P (aq h) t a x=some H':=by
 unfold ou at hr;split at hr
 ·rename_i id gen off;split at hr
  ·rename_i g e cells hg;have hget:(aq h).get id=some (.arr g e cells):=(by show Option.map EBlk.jW (aQ h.hp id)=_;rw[hg];rfl);cases hb:Nat.beq g gen with
   | false=>rw[hb]at hr;exact hr.elim
   | true =>
    rw[hb]at hr;simp only at hr;split at hr
    ·rename_i hc;refine⟨hr.1,?_⟩;have hgg:=RM hb;show (match (aq h).get id with|some (.arr g e cells)=>if g=gen/\x.cells.length=P.cellsOf t/\x.cells.all AVal.one=true/\off+x.cells.length<=cells.length then some ((aq h).upd id (.arr g e (setAt cells off x.cells))) else none|_=>none)=some H';rw[hget];simp only;rw[RC ⟨hgg,hc⟩,hr.2];rfl
    ·exact hr.elim
  ·exact hr.elim
 ·exact hr.elim
def VH (h:EH):Prop:=∀ id b,aQ h.hp id=some b->id<h.nx
theorem VH.wf {h:EH}(hv:VH h):eF (aq h):=fun id b hb=>by
 have hb':Option.map EBlk.jW (aQ h.hp id)=some b:=hb;cases hg:aQ h.hp id with
 | none=>rw[hg]at hb';cases hb'
 | some x=>exact hv id x hg
def mP (o:OR)(h:EH):Prop :=
 match o with
 | .eff _ r _ _ _ fr=>if fr then r=h.nx else r<h.nx
 | .effM _ r _ fr=>if fr then r=h.nx else r<h.nx
 | _=>True
theorem AZ {h:EH}{k:AVal->EH->R}{o:OR}{r:RR}(hv:VH h)(hok:mP o h)(hr:wo h k o=some r):∃ v h',oM o h v (aq h')/\VH h'/\k v h'=some r:=by
 cases o with
 | fail=>cases hr
 | val v =>
  have hr':jV v (fun v=>k v h)=some r:=hr;rw[oK]at hr';exact⟨v,h,⟨rfl,rfl⟩,hv,hr'⟩
 | eff v r' g e c fr =>
  have hr':(cU r' fun r'=>cU g fun g=>fJ c fun c=>fI h.hp r' (.arr g e c) fun hp=>jV v fun v=>k v ⟨hp,Bool.casesOn (motive:=fun _=>Nat) fr h.nx (Nat.succ h.nx)⟩)=some r:=hr;rw[gK,gK,ig]at hr';obtain⟨hp,h1,h2⟩:=lH _ _ _ _ _ hr';rw[oK]at h1;refine⟨v,_,⟨rfl,?_⟩,?_,h1⟩
  ·rw[tD h2];cases fr<;>rfl
  ·intro id b hb;rw[h2]at hb;cases fr with
   | false =>
    have hlt:r'<h.nx:=hok;show id<h.nx;split at hb
    ·omega
    ·exact hv id b hb
   | true =>
    have hlt:r'=h.nx:=hok;show id<h.nx+1;split at hb
    ·omega
    ·have:=hv id b hb;omega
 | effM v r' es fr =>
  have hr':(cU r' fun r'=>sG es fun es=>fI h.hp r' (.mp es) fun hp=>jV v fun v=>k v ⟨hp,Bool.casesOn (motive:=fun _=>Nat) fr h.nx (Nat.succ h.nx)⟩)=some r:=hr;rw[gK,KI]at hr';obtain⟨hp,h1,h2⟩:=lH _ _ _ _ _ hr';rw[oK]at h1;refine⟨v,_,⟨rfl,?_⟩,?_,h1⟩
  ·rw[tD h2];cases fr<;>rfl
  ·intro id b hb;rw[h2]at hb;cases fr with
   | false =>
    have hlt:r'<h.nx:=hok;show id<h.nx;split at hb
    ·omega
    ·exact hv id b hb
   | true =>
    have hlt:r'=h.nx:=hok;show id<h.nx+1;split at hb
    ·omega
    ·have:=hv id b hb;omega
def Plain (P:Program)(G:Nat->Option (List AVal))(o:Op)(d:Option Tmp)(k:BT AVal->EH->R)(env:BT AVal)(h:EH)(r:RR):Prop :=
 ∃ v env' h',ag P G (aD env) (aq h) h.nx o=some (v,aq h')/\VH h'/\aD env'=aE (aD env) d v/\k env' h'=some r
theorem iS {o:Op}{d:Option Tmp}{k:BT AVal->EH->R}{env:BT AVal}{x:OR}{h:EH}{r:RR}(hv:VH h)(hok:mP x h)(hrel:∀ v H',oM x h v H'->ag P G (aD env) (aq h) h.nx o=some (v,H'))
  (hr:da d k env x h=some r):Plain P G o d k env h r:=by
 obtain⟨v,h',h1,h2,h3⟩:=AZ hv hok hr;obtain⟨env',h4,h5⟩:=kC h3;exact⟨v,env',h',hrel _ _ h1,h2,h5,h4⟩
theorem qG {o:Op}{d:Option Tmp}{k:BT AVal->EH->R}{env:BT AVal}{v:AVal}{h:EH}{r:RR}(hv:VH h)(hrel:ag P G (aD env) (aq h) h.nx o=some (v,aq h))
  (hr:eX env d v (fun env=>k env h)=some r):Plain P G o d k env h r:=by
 obtain⟨env',h4,h5⟩:=kC hr;exact⟨v,env',h,hrel,hv,h5,h4⟩
theorem A0 (o:Option AVal)(h:EH):mP (.opt o) h:=by cases o<;>trivial
theorem gM {o:Op}{d:Option Tmp}{k:BT AVal->EH->R}{env:BT AVal}{x:Option AVal}{h:EH}{r:RR}(hv:VH h)(hrel:ag P G (aD env) (aq h) h.nx o=x.map fun v=>(v,aq h))
  (hr:da d k env (.opt x) h=some r):Plain P G o d k env h r :=
 iS hv (A0 _ _) (fun v H' hx=>by
  obtain⟨h1,h2⟩:=AW hx;rw[hrel,h1,h2];rfl) hr
theorem A1 (ρ:Env)(id:Nat)(o:Op):(aY P G ρ id o).eff=[]\/∃ r,(aY P G ρ id o).eff=[r]:=by
 have hid:∀ v:AVal,aF v=[]\/∃ r,aF v=[r]:=fun v=>by cases v<;>first|exact .inl rfl|exact .inr ⟨_,rfl⟩
 have hb:∀ (b:Builtin) (ats:List TypeId) (args:List AVal),(ib P id b ats args).eff=[]\/∃ r,(ib P id b ats args).eff=[r]:=fun b ats args=>by
  unfold ib;split
  ·split
   ·exact hid _
   ·exact .inr ⟨_,rfl⟩
  ·exact hid _
  ·exact hid _
  ·exact .inl rfl
  ·exact .inl rfl
 have hidM:∀ v:AVal,cN v=[]\/∃ r,cN v=[r]:=fun v=>by cases v<;>first|exact .inl rfl|exact .inr ⟨_,rfl⟩
 unfold aY;split<;>first|exact .inl rfl|exact .inr ⟨_,rfl⟩|exact hid _|exact hidM _|skip
 split
 ·exact hb _ _ _
 ·exact .inl rfl
theorem tG {E:EP}{env:BT AVal}{h:EH}{o:Op}(hv:VH h):mP (mM E env h o) h/\∀ v H',oM (mM E env h o) h v H'->ag E.P E.G (aD env) (aq h) h.nx o=some (v,H'):=by
 unfold mM qv;split
 ·exact⟨trivial,fun _ _ h=>h.elim⟩
 ·rename_i u H2 hop;obtain⟨e,al,h1,h2,h3,h4,h5,_⟩:=vt (hv.wf) hop;split
  ·rename_i hf;refine⟨trivial,fun v H' hx=>?_⟩;have he:e=none:=by
    cases e with
    | none=>rfl
    | some kb =>
     have h3':=(h3 kb.1 kb.2 rfl).1;have hf':(aY E.P E.G (aD env) (aq h).next o).eff=[]:=hf;rw[hf']at h3';cases h3'
   have hal:al=false:=by
    cases al with
    | false=>rfl
    | true =>
     obtain⟨b,hb⟩:=h4 rfl;rw[he]at hb;cases hb
   obtain⟨rfl,rfl⟩:=hx;subst he;subst hal;rw[hop];congr 2;have h1':H2.get=(aq h).get:=h1;have h2':H2.next=(aq h).next:=h2;cases H2;simp only at h1' h2';rw[h1',h2']
  ·rename_i r l hf;split
   ·rename_i g e' c hg;have hf':(aY E.P E.G (aD env) (aq h).next o).eff=r :: l:=hf;have hl:l=[]:=by
     rcases A1 (P:=E.P) (G:=E.G) (aD env) (aq h).next o with h6|⟨r',h6⟩
     ·rw[hf']at h6;cases h6
     ·rw[hf']at h6;cases h6;rfl
    subst hl;have key:H2=⟨fun j=>if j=r then some (.arr g e' c) else (aq h).get j,if al then (aq h).next+1 else (aq h).next⟩/\(if al=true then r=h.nx else r<h.nx):=by
     cases e with
     | none =>
      have hal:al=false:=by
       cases al with
       | false=>rfl
       | true=>obtain⟨b,hb⟩:=h4 rfl;cases hb
      subst hal;have h1':H2.get=(aq h).get:=h1;have h2':H2.next=(aq h).next:=h2;have hgr:(aq h).get r=some (.arr g e' c):=(by rw[<- h1'];exact hg);refine⟨?_,hv.wf r _ hgr⟩;cases H2;simp only at h1' h2';rw[h1',h2'];congr 1
      funext j
      split
      ·rename_i hj;rw[hj,hgr]
      ·rfl
     | some kb =>
      obtain⟨kk,b⟩:=kb;obtain⟨h7,h8⟩:=h3 kk b rfl;rw[hf']at h7;have hkk:kk=r:=(by simpa using h7);subst hkk;have hb:b=.arr g e' c:=by
       rw[h1]at hg;simp only[dw,if_true]at hg;exact Option.some.inj hg
      subst hb;refine⟨?_,?_⟩
      ·cases H2;simp only at h1 h2;rw[h1,h2];rfl
      ·cases al with
       | true =>
        obtain⟨b,hb⟩:=h4 rfl;simp only[Option.some.injEq,Prod.mk.injEq]at hb;exact hb.1
       | false=>exact h5 _ (h8 rfl)
    have hbeq:Nat.beq r h.nx=al:=by
     cases al with
     | true=>rw[show r=h.nx from key.2];exact TJ _
     | false =>
      have:r<h.nx:=key.2;cases hb:Nat.beq r h.nx with
      | false=>rfl
      | true=>have:=RM hb;omega
    rw[hbeq];refine⟨?_,fun v H' hx=>?_⟩
    ·have:=key.2;cases al<;>exact this
    ·obtain⟨rfl,rfl⟩:=hx;rw[hop,key.1];rfl
   ·rename_i es hg;have hf':(aY E.P E.G (aD env) (aq h).next o).eff=r :: l:=hf;have hl:l=[]:=by
     rcases A1 (P:=E.P) (G:=E.G) (aD env) (aq h).next o with h6|⟨r',h6⟩
     ·rw[hf']at h6;cases h6
     ·rw[hf']at h6;cases h6;rfl
    subst hl;have key:H2=⟨fun j=>if j=r then some (.mp es) else (aq h).get j,if al then (aq h).next+1 else (aq h).next⟩/\(if al=true then r=h.nx else r<h.nx):=by
     cases e with
     | none =>
      have hal:al=false:=by
       cases al with
       | false=>rfl
       | true=>obtain⟨b,hb⟩:=h4 rfl;cases hb
      subst hal;have h1':H2.get=(aq h).get:=h1;have h2':H2.next=(aq h).next:=h2;have hgr:(aq h).get r=some (.mp es):=(by rw[<- h1'];exact hg);refine⟨?_,hv.wf r _ hgr⟩;cases H2;simp only at h1' h2';rw[h1',h2'];congr 1
      funext j
      split
      ·rename_i hj;rw[hj,hgr]
      ·rfl
     | some kb =>
      obtain⟨kk,b⟩:=kb;obtain⟨h7,h8⟩:=h3 kk b rfl;rw[hf']at h7;have hkk:kk=r:=(by simpa using h7);subst hkk;have hb:b=.mp es:=by
       rw[h1]at hg;simp only[dw,if_true]at hg;exact Option.some.inj hg
      subst hb;refine⟨?_,?_⟩
      ·cases H2;simp only at h1 h2;rw[h1,h2];rfl
      ·cases al with
       | true =>
        obtain⟨b,hb⟩:=h4 rfl;simp only[Option.some.injEq,Prod.mk.injEq]at hb;exact hb.1
       | false=>exact h5 _ (h8 rfl)
    have hbeq:Nat.beq r h.nx=al:=by
     cases al with
     | true=>rw[show r=h.nx from key.2];exact TJ _
     | false =>
      have:r<h.nx:=key.2;cases hb:Nat.beq r h.nx with
      | false=>rfl
      | true=>have:=RM hb;omega
    rw[hbeq];refine⟨?_,fun v H' hx=>?_⟩
    ·have:=key.2;cases al<;>exact this
    ·obtain⟨rfl,rfl⟩:=hx;rw[hop,key.1];rfl
   ·exact⟨trivial,fun _ _ h=>h.elim⟩
theorem lI {E:EP}{ih:jt}{rd:Option Nat}{o:Op}{d:Option Tmp}{k:BT AVal->EH->R}{env:BT AVal}{h:EH}{r:RR}(hv:VH h)(hr:fo o E ih rd d k env h=some r):Plain E.P E.G o d k env h r :=
 iS hv (tG hv).1 (tG hv).2 hr
end Go.Hx
namespace Go.Hx
variable {E:EP} {ih:jt} {rd:Option Nat} {d:Option Tmp} {k:BT AVal->EH->R} {env:BT AVal} {h:EH} {r:RR}
theorem A2 {v:AVal}{g:Nat}{e:TypeId}{c:List AVal}:mP (.eff v h.nx g e c true) h:=rfl
theorem A3 (parts:Array (Nat × Operand))(f:Operand->AVal):(parts.toList.map (·.1)).zip ((parts.toList.map (·.2)).map f)=parts.toList.map fun p=>(p.1,f p.2):=by
 induction parts.toList with
 | nil=>rfl
 | cons p l ih=>simp only[List.map_cons,TG,ih]
theorem xf {H H':AHeap}{b:Blk}(h:H.lay H.next b=some H'):H'=⟨fun j=>if j=H.next then some b else H.get j,H.next+1⟩:=by
 unfold AHeap.lay at h;rw[RC rfl]at h;exact(Option.some.inj h).symm
theorem A4 {x:Option (AVal × AHeap)}{v:AVal}{H':AHeap}(hx:∀ u H2,x=some (u,H2)->∃ g e c,H2=⟨fun j=>if j=h.nx then some (.arr g e c) else (aq h).get j,h.nx+1⟩):
  mP (s7 h.nx true x) h/\(oM (s7 h.nx true x) h v H'->x=some (v,H')):=by
 unfold s7;split
 ·rename_i u H2;obtain⟨g,e,c,rfl⟩:=hx u H2 rfl;simp only[qC,if_true];refine⟨rfl,fun hr=>?_⟩;obtain⟨rfl,rfl⟩:=hr;rfl
 ·exact⟨trivial,fun hr=>hr.elim⟩
theorem KR {x:Operand}(hv:VH h)(hr:lx x E ih rd d k env h=some r):Plain E.P E.G (.move x) d k env h r:=by
 unfold lx at hr;rw[cE]at hr;exact qG hv rfl hr
theorem KS {x:Operand}(hv:VH h)(hr:lx x E ih rd d k env h=some r):Plain E.P E.G (.assign x) d k env h r:=by
 unfold lx at hr;rw[cE]at hr;exact qG hv rfl hr
theorem KT {e:TypeId}{x:Operand}(hv:VH h)(hr:sR e x E ih rd d k env h=some r):Plain E.P E.G (.box e x) d k env h r:=by
 unfold sR at hr;rw[cE]at hr;refine iS hv A2 (fun v H' hx=>?_) hr;obtain⟨rfl,rfl⟩:=hx;show ((aq h).lay (aq h).next (.arr 0 e (af E.G (aD env) x).cells)).map (fun H'=>(AVal.ptr h.nx 0 0,H'))=_;unfold AHeap.lay;rw[RC rfl];rfl
theorem KU {t:TypeId}{parts:Array (Nat × Operand)}(hv:VH h)(hr:sS t parts E ih rd d k env h=some r):Plain E.P E.G (.build t parts) d k env h r:=by
 unfold sS at hr;rw[oL,A3]at hr;exact gM hv rfl hr
theorem KV {t:TypeId}{len:Nat}{parts:Array (Nat × Operand)}(hv:VH h)(hr:sT t len parts E ih rd d k env h=some r):Plain E.P E.G (.buildSlice t len parts) d k env h r:=by
 unfold sT at hr;rw[oL,A3]at hr;have hform:∀ u H2,jh E.P (aq h) h.nx t len (parts.toList.map fun p=>(p.1,af E.G (aD env) p.2))=some (u,H2)->∃ e c,H2=⟨fun j=>if j=h.nx then some (.arr 0 e c) else (aq h).get j,h.nx+1⟩:=by
  intro u H2 hb;unfold jh at hb;split at hb
  ·split at hb
   ·simp only[RD,Rx,Prod.mk.injEq]at hb;obtain⟨z,_,c,_,H3,hl,_,rfl⟩:=hb;exact⟨_,_,xf hl⟩
   ·cases hb
  ·cases hb
 refine iS hv ?_ (fun v H' hx=>?_) hr
 ·unfold qv;split
  ·trivial
  ·rename_i u H2 hb;obtain⟨e,c,rfl⟩:=hform _ _ hb;simp only[if_true,show Nat.beq h.nx h.nx=true from TJ _];rfl
 ·unfold qv at hx;split at hx
  ·exact hx.elim
  ·rename_i u H2 hb;obtain⟨e,c,rfl⟩:=hform _ _ hb;simp only[if_true,show Nat.beq h.nx h.nx=true from TJ _]at hx;obtain⟨rfl,rfl⟩:=hx;exact hb
theorem KW {t:TypeId}{a:Operand}(hv:VH h)(hr:sU t a E ih rd d k env h=some r):Plain E.P E.G (.load t a) d k env h r:=by
 unfold sU at hr;rw[cE]at hr;refine iS hv (A0 _ _) (fun v H' hx=>?_) hr;obtain⟨h1,rfl⟩:=AW hx;show (eE E.P (aq h) t (af E.G (aD env) a)).map _=_;rw[KO h1];rfl
theorem KX {P:Program}{t:TypeId}{a v:AVal}(hv:VH h):mP (ou P h t a v) h:=by
 unfold ou;split
 ·rename_i id gen off;split
  ·rename_i g e cells hg;cases hb:Nat.beq g gen with
   | false=>trivial
   | true =>
    simp only;split
    ·show id<h.nx;exact hv _ _ hg
    ·trivial
  ·trivial
 ·trivial
theorem KY {t:TypeId}{a x:Operand}(hv:VH h)(hr:sV t a x E ih rd d k env h=some r):Plain E.P E.G (.store t a x) d k env h r:=by
 unfold sV at hr;cases hu:(E.P.underlying t).isSome with
 | false=>rw[hu]at hr;cases hr
 | true =>
  rw[hu]at hr;have hr':(bW E.G env a fun a=>bW E.G env x fun v=>da d k env (ou E.P h t a v) h)=some r:=hr;rw[cE,cE]at hr';refine iS hv ?_ (fun v H' hx=>?_) hr'
  ·exact KX hv
  ·obtain⟨rfl,h2⟩:=KP hx;show (if (E.P.underlying t).isSome then (gh E.P (aq h) t (af E.G (aD env) a) (af E.G (aD env) x)).map (fun H'=>(AVal.lit undef,H')) else none)=_;rw[RC hu,h2];rfl
def A5 (P:Program)(G:Nat->Option (List AVal))(o:Op)(d:Option Tmp)(k:BT AVal->EH->R)(env:BT AVal)(h:EH)(r:RR):Prop :=
 ∃ op t x y u env',o=.binOp op t x y u/\ia (aq h) op (af G (aD env) x) (af G (aD env) y)=some true/\kY (P.underlying t)=true/\aD env'=aE (aD env) d (.lit (.bool (op == .neq)))/\k env' h=some r
theorem KZ {op:BinOp}{t:TypeId}{x y:Operand}{u:TypeId}(hv:VH h)(hr:sX op t x y u E ih rd d k env h=some r):Plain E.P E.G (.binOp op t x y u) d k env h r\/A5 E.P E.G (.binOp op t x y u) d k env h r:=by
 unfold sX at hr;rw[cE,cE]at hr;have hop:ag E.P E.G (aD env) (aq h) h.nx (.binOp op t x y u)=(aV E.P op t x y (af E.G (aD env) x) (af E.G (aD env) y)).map fun v=>(v,aq h):=rfl;unfold AE at hr;split at hr
 ·rename_i kd a kd' b ha hb;rw[ha,hb]at hop;left;cases hk:Nat.beq (mL kd) (mL kd') with
  | false=>rw[hk]at hr;exact gM hv hop hr
  | true =>
   rw[hk]at hr;obtain rfl:=KN hk;have hr':Option.rec (motive:=fun _=>R) (sW E op t x y (.lit (.int kd a)) (.lit (.int kd b)) d k env h) (fun f=>f kd a b d k env h) (qy op)=some r:=hr;cases hi:qy op with
   | none =>
    rw[hi]at hr';exact gM hv hop hr'
   | some f =>
    rw[hi]at hr';obtain⟨v,env',h1,h2,h3⟩:=KM (P:=E.P) (t:=t) (x:=x) (y:=y) hi hr';refine⟨v,env',h,?_,hv,h2,h3⟩;rw[hop,h1];rfl
 ·unfold AD at hr;split at hr
  ·exact .inl (gM hv hop hr)
  ·rename_i hn;right;cases hs:kY (E.P.underlying t) with
   | false=>rw[hs]at hr;cases hr
   | true =>
    rw[hs]at hr;obtain⟨env',h1,h2⟩:=mO (show j5 d k env h (op == .neq)=some r from hr);exact⟨op,t,x,y,u,env',rfl,hn,hs,h1,h2⟩
  ·cases hr
theorem K0 {fn:Fn}{first cap:Array Operand}(hv:VH h)(hr:sY fn first cap E ih rd d k env h=some r):Plain E.P E.G (.makeFunc fn first cap) d k env h r:=by
 unfold sY at hr;split at hr
 ·rw[oL,oL]at hr;exact qG hv rfl hr
 ·cases hr
theorem K2 {t:TypeId}{x i:Operand}(hv:VH h)(hr:sZ t x i E ih rd d k env h=some r):Plain E.P E.G (.indexAddr t x i) d k env h r:=by
 unfold sZ at hr;rw[cE,cE]at hr;refine gM hv ?_ hr;simp only[ag,oo];split
 ·rename_i heq;rw[heq]
 ·rename_i hne;split
  ·rename_i heq;exact absurd heq (hne _ _)
  ·rfl
theorem K3 {c a b:Operand}(hv:VH h)(hr:s8 c a b E ih rd d k env h=some r):Plain E.P E.G (.pick c a b) d k env h r:=by
 unfold s8 at hr;rw[cE]at hr;split at hr
 ·rename_i t hc;have hop:∀ t',af E.G (aD env) c=.lit (.bool t')->ag E.P E.G (aD env) (aq h) h.nx (.pick c a b)=some (if t' then af E.G (aD env) a else af E.G (aD env) b,aq h):=fun t' ht=>by
   simp only[ag,ht]
  cases t with
  | false =>
   have hr':(bW E.G env b fun v=>eX env d v fun env=>k env h)=some r:=hr;rw[cE]at hr';exact qG hv (hop _ hc) hr'
  | true =>
   have hr':(bW E.G env a fun v=>eX env d v fun env=>k env h)=some r:=hr;rw[cE]at hr';exact qG hv (hop _ hc) hr'
 ·cases hr
theorem K4 {e:TypeId}(hv:VH h)(hr:ta e E ih rd d k env h=some r):Plain E.P E.G (.alloc e) d k env h r:=by
 unfold ta at hr;split at hr
 ·rename_i z hz;refine iS hv A2 (fun v H' hx=>?_) hr;obtain⟨rfl,rfl⟩:=hx;show ((bT E.P e).bind fun z=>((aq h).lay (aq h).next (.arr 0 e z)).map fun H'=>(AVal.ptr h.nx 0 0,H'))=_;rw[hz];show ((aq h).lay (aq h).next (.arr 0 e z)).map _=_;unfold AHeap.lay;rw[RC rfl];rfl
 ·cases hr
theorem K5 {x:Operand}(hv:VH h)(hr:tb x E ih rd d k env h=some r):Plain E.P E.G (.nilCheck x) d k env h r:=by
 unfold tb at hr;rw[cE]at hr;exact gM hv rfl hr
theorem K6 {op:UnOp}{t:TypeId}{x:Operand}(hv:VH h)(hr:tc op t x E ih rd d k env h=some r):Plain E.P E.G (.unOp op t x) d k env h r:=by
 unfold tc at hr;rw[cE]at hr;exact gM hv rfl hr
theorem K7 {s t:TypeId}{x:Operand}(hv:VH h)(hr:te s t x E ih rd d k env h=some r):Plain E.P E.G (.convert s t x) d k env h r:=by
 unfold te at hr;rw[cE]at hr;exact gM hv rfl hr
theorem K8 {t:Operand}{i:Nat}(hv:VH h)(hr:tn t i E ih rd d k env h=some r):Plain E.P E.G (.extract t i) d k env h r:=by
 unfold tn at hr;rw[cE]at hr;exact gM hv rfl hr
theorem K9 {t:TypeId}{x i:Operand}(hv:VH h)(hr:tl t x i E ih rd d k env h=some r):Plain E.P E.G (.index t x i) d k env h r:=by
 unfold tl at hr;rw[cE,cE]at hr;exact gM hv rfl hr
theorem La {t:TypeId}{x:Operand}{f:Nat}(hv:VH h)(hr:tj t x f E ih rd d k env h=some r):Plain E.P E.G (.field t x f) d k env h r:=by
 unfold tj at hr;rw[cE]at hr;refine gM hv ?_ hr;simp only[ag,zQ];cases bZ E.P t f with
 | none=>rfl
 | some of =>
  simp only[Option.bind_some];generalize af E.G (aD env) x=v;cases v with
  | lit v=>cases v<;>rfl
  | _=>rfl
theorem Lb {t:TypeId}{x:Operand}{f:Nat}(hv:VH h)(hr:ti t x f E ih rd d k env h=some r):Plain E.P E.G (.fieldAddr t x f) d k env h r:=by
 unfold ti at hr;rw[cE]at hr;refine gM hv ?_ hr;simp only[ag,oh];cases bZ E.P t f with
 | none=>rfl
 | some of =>
  simp only[Option.bind_some];generalize af E.G (aD env) x=v;cases v with
  | ptr id gen off =>
   show Option.map _ ((aq h).live id gen)=Option.map _ (Option.map _ ((aq h).live id gen));rw[Option.map_map];rfl
  | _=>rfl
theorem Lc {t:TypeId}{l c:Operand}(hv:VH h)(hr:tf t l c E ih rd d k env h=some r):Plain E.P E.G (.makeSlice t l c) d k env h r:=by
 unfold tf at hr;rw[cE,cE]at hr;have hform:∀ u H2,iM E.P (aq h) h.nx t (af E.G (aD env) l) (af E.G (aD env) c)=some (u,H2)->∃ g e c,H2=⟨fun j=>if j=h.nx then some (.arr g e c) else (aq h).get j,h.nx+1⟩:=by
  intro u H2 hb;unfold iM at hb;split at hb
  ·split at hb
   ·simp only[RD,Rx,Prod.mk.injEq]at hb;obtain⟨z,_,H3,hl,_,rfl⟩:=hb;exact⟨_,_,_,xf hl⟩
   ·cases hb
  ·cases hb
 exact iS hv (A4 (v:=.lit undef) (H':=aq h) hform).1 (fun v H' hx=>(A4 hform).2 hx) hr
theorem Ld {t:TypeId}{x:Operand}{l u m:Option Operand}(hv:VH h)(hr:tg t x l u m E ih rd d k env h=some r):Plain E.P E.G (.slice t x l u m) d k env h r:=by
 unfold tg at hr;split at hr
 ·rw[cE,AV,AV]at hr;exact gM hv rfl hr
 ·cases hr
theorem Le {c:Call}{t:TypeId}{x:Operand}(hb:c.callee=.builtin .len)(ht:c.argTypes.toList=[t])(ha:c.args.toList=[x])(hv:VH h)(hr:tp t x E ih rd d k env h=some r):Plain E.P E.G (.call c) d k env h r:=by
 unfold tp at hr;rw[cE]at hr;refine gM hv ?_ hr;simp only[ag,hb,ht,ha];rfl
theorem Lf {P:Program}{H H':AHeap}{nx:Nat}{t u:TypeId}{id g o l z:Nat}{x v:AVal}(hr:bF P H nx t u (.own id g o l z) x=some (v,H')):
  (v=.own id g o l z/\H'=H)\/∃ l' e c,v=.own id (g+1) 0 l' z/\H'=H.upd id (.arr (g+1) e c)/\∃ e0 c0,H.live id g=some (e0,c0):=by
 unfold bF at hr;split at hr
 ·split at hr
  ·simp only[RD]at hr;obtain⟨_,_,nx',_,ec,hl,hr⟩:=hr;split at hr
   ·split at hr
    ·simp only[Option.some.injEq,Prod.mk.injEq]at hr;exact .inl ⟨hr.1.symm,hr.2.symm⟩
    ·simp only[Option.some.injEq,Prod.mk.injEq]at hr;exact .inr ⟨_,_,_,hr.1.symm,hr.2.symm,ec.1,ec.2,hl⟩
   ·cases hr
  ·cases hr
 ·cases hr
theorem append_nil {P:Program}{H H':AHeap}{t u:TypeId}{s x v:AVal}(hs:∀ a b c d e,s≠.own a b c d e)(hr:bF P H H.next t u s x=some (v,H')):
  (v=.lit (.slice none 0 0)/\H'=H)\/∃ l z e c,v=.own H.next 0 0 l z/\H'=⟨fun j=>if j=H.next then some (.arr 0 e c) else H.get j,H.next+1⟩:=by
 unfold bF at hr;split at hr
 ·split at hr
  ·simp only[RD]at hr;obtain⟨_,_,nx',_,hr⟩:=hr;split at hr
   ·split at hr
    ·simp only[Option.some.injEq,Prod.mk.injEq]at hr;exact .inl ⟨hr.1.symm,hr.2.symm⟩
    ·split at hr
     ·simp only[Rx,Prod.mk.injEq]at hr;obtain⟨H3,hl,h1,rfl⟩:=hr;exact .inr ⟨_,_,_,_,h1.symm,xf hl⟩
     ·cases hr
   ·exact absurd rfl (hs _ _ _ _ _)
   ·cases hr
  ·cases hr
 ·cases hr
theorem Lg {c:Call}{t u:TypeId}{s x:Operand}(hb:c.callee=.builtin .append)(ht:c.argTypes.toList=[t,u])(ha:c.args.toList=[s,x])(hv:VH h)(hr:tq t u s x E ih rd d k env h=some r):Plain E.P E.G (.call c) d k env h r:=by
 unfold tq at hr;rw[cE,cE]at hr;have hop:ag E.P E.G (aD env) (aq h) h.nx (.call c)=bF E.P (aq h) h.nx t u (af E.G (aD env) s) (af E.G (aD env) x):=by
  simp only[ag,hb,ht,ha];rfl
 generalize af E.G (aD env) s=sv at hr hop;generalize af E.G (aD env) x=xv at hr hop;unfold AF at hr;split at hr
 ·rename_i id g o l z;split at hr
  ·rename_i g' o' l' z' H' happ;rename_i id';have happ0:=happ;rcases Lf happ with ⟨h1,rfl⟩|⟨l2,e,c2,h1,rfl,e0,c0,hlive⟩
   ·simp only[AVal.own.injEq]at h1;obtain⟨rfl,rfl,rfl,rfl,rfl⟩:=h1;have hb2:Nat.beq g' g'=true:=TJ _;rw[hb2]at hr;refine iS (x:=.val (.own id' g' o' l' z')) hv trivial (fun v H'' hx=>?_) hr;obtain⟨rfl,rfl⟩:=hx;rw[hop,happ0]
   ·simp only[AVal.own.injEq]at h1;obtain⟨rfl,rfl,rfl,rfl,rfl⟩:=h1;have hne:Nat.beq (g+1) g=false:=by
     cases hbq:Nat.beq (g+1) g with
     | false=>rfl
     | true=>have:=RM hbq;omega
    rw[hne]at hr;have hr':da d k env (qC (.own id' (g+1) 0 l' z') id' false (((aq h).upd id' (.arr (g+1) e c2)).get id')) h=some r:=hr;have hget:((aq h).upd id' (.arr (g+1) e c2)).get id'=some (.arr (g+1) e c2):=(by simp [AHeap.upd]);rw[hget]at hr';refine iS (x:=.eff (.own id' (g+1) 0 l' z') id' (g+1) e c2 false) hv ?_ (fun v H'' hx=>?_) hr'
    ·show id'<h.nx;exact iQ hv.wf hlive
    ·obtain⟨rfl,rfl⟩:=hx;rw[hop,happ0];rfl
  ·cases hr
 ·rename_i hs;split at hr
  ·rename_i id' g' o' l' z' H' happ;rcases append_nil (H:=aq h) (fun a b c d e he=>hs a b c d e he) happ with ⟨h1,_⟩|⟨l2,z2,e,c2,h1,h2⟩
   ·cases h1
   ·have hget:H'.get h.nx=some (.arr 0 e c2):=by
     rw[h2];show (if h.nx=h.nx then some (Blk.arr 0 e c2) else _)=_;rw[RC rfl]
    rw[hget]at hr;refine iS (x:=.eff (.own id' g' o' l' z') h.nx 0 e c2 true) hv rfl (fun v H'' hx=>?_) hr;obtain⟨rfl,rfl⟩:=hx;rw[hop,happ,h2];rfl
  ·rename_i v H' happ;rcases append_nil (H:=aq h) (fun a b c d e he=>hs a b c d e he) happ with ⟨h1,h2⟩|⟨l2,z2,e,c2,h1,h2⟩
   ·refine iS (x:=.val (.lit v)) hv trivial (fun v H'' hx=>?_) hr;obtain⟨rfl,rfl⟩:=hx;rw[hop,happ,h2]
   ·cases h1
  ·cases hr
theorem Lh (c:Call)(b:Builtin):(∃ t x,b=.len/\c.argTypes.toList=[t]/\c.args.toList=[x]/\oD c b=tp t x) \/
  (∃ t u s x,b=.append/\c.argTypes.toList=[t,u]/\c.args.toList=[s,x]/\oD c b=tq t u s x)\/oD c b=fo (.call c):=by
 unfold oD;split
 ·rename_i t x h1 h2;exact .inl ⟨t,x,rfl,h1,h2,rfl⟩
 ·rename_i t u s x h1 h2;exact .inr (.inl ⟨t,u,s,x,rfl,h1,h2,rfl⟩)
 ·exact .inr (.inr rfl)
theorem Li {o:Op}(hv:VH h)(hr:tt o E ih rd d k env h=some r):
  Plain E.P E.G o d k env h r\/A5 E.P E.G o d k env h r\/(∃ fv args ats,o=.call ⟨.value fv,args,ats⟩/\wT fv args E ih rd d k env h=some r)\/(∃ x,o=.panic x/\wS x E ih rd d k env h=some r):=by
 cases o with
 | move x=>exact .inl (KR hv (show lx x E ih rd d k env h=some r from hr))
 | assign x=>exact .inl (KS hv (show lx x E ih rd d k env h=some r from hr))
 | pick c a b=>exact .inl (K3 hv (show s8 c a b E ih rd d k env h=some r from hr))
 | alloc e=>exact .inl (K4 hv (show ta e E ih rd d k env h=some r from hr))
 | box e x=>exact .inl (KT hv (show sR e x E ih rd d k env h=some r from hr))
 | build t parts=>exact .inl (KU hv (show sS t parts E ih rd d k env h=some r from hr))
 | buildSlice t l parts=>exact .inl (KV hv (show sT t l parts E ih rd d k env h=some r from hr))
 | load t a=>exact .inl (KW hv (show sU t a E ih rd d k env h=some r from hr))
 | store t a x=>exact .inl (KY hv (show sV t a x E ih rd d k env h=some r from hr))
 | nilCheck x=>exact .inl (K5 hv (show tb x E ih rd d k env h=some r from hr))
 | binOp op t x y u=>exact(KZ hv (show sX op t x y u E ih rd d k env h=some r from hr)).elim .inl fun h=>.inr (.inl h)
 | unOp op t x=>exact .inl (K6 hv (show tc op t x E ih rd d k env h=some r from hr))
 | convert s t x=>exact .inl (K7 hv (show te s t x E ih rd d k env h=some r from hr))
 | makeInterface t x=>exact .inl (lI hv (show fo (.makeInterface t x) E ih rd d k env h=some r from hr))
 | insert t m a x=>exact .inl (lI hv (show fo (.insert t m a x) E ih rd d k env h=some r from hr))
 | makeMap t x=>exact .inl (lI hv (show fo (.makeMap t x) E ih rd d k env h=some r from hr))
 | lookup t x i ok=>exact .inl (lI hv (show fo (.lookup t x i ok) E ih rd d k env h=some r from hr))
 | mapUpdate t m a x=>exact .inl (lI hv (show fo (.mapUpdate t m a x) E ih rd d k env h=some r from hr))
 | mapEntry t m a=>exact .inl (lI hv (show fo (.mapEntry t m a) E ih rd d k env h=some r from hr))
 | entryStore t m a x=>exact .inl (lI hv (show fo (.entryStore t m a x) E ih rd d k env h=some r from hr))
 | makeFunc fn a b=>exact .inl (K0 hv (show sY fn a b E ih rd d k env h=some r from hr))
 | makeSlice t l c=>exact .inl (Lc hv (show tf t l c E ih rd d k env h=some r from hr))
 | slice t x l u m=>exact .inl (Ld hv (show tg t x l u m E ih rd d k env h=some r from hr))
 | fieldAddr t x f=>exact .inl (Lb hv (show ti t x f E ih rd d k env h=some r from hr))
 | field t x f=>exact .inl (La hv (show tj t x f E ih rd d k env h=some r from hr))
 | indexAddr t x i=>exact .inl (K2 hv (show sZ t x i E ih rd d k env h=some r from hr))
 | index t x i=>exact .inl (K9 hv (show tl t x i E ih rd d k env h=some r from hr))
 | extract t i=>exact .inl (K8 hv (show tn t i E ih rd d k env h=some r from hr))
 | panic x=>exact .inr (.inr (.inr ⟨x,rfl,hr⟩))
 | call c =>
  have hr':AG c E ih rd d k env h=some r:=hr;obtain⟨callee,args,ats⟩:=c;cases callee with
  | value fv=>exact .inr (.inr (.inl ⟨fv,args,ats,rfl,hr'⟩))
  | builtin b =>
   refine .inl ?_;have hr2:oD ⟨.builtin b,args,ats⟩ b E ih rd d k env h=some r:=hr';rcases Lh ⟨.builtin b,args,ats⟩ b with ⟨t,x,rfl,h1,h2,h3⟩|⟨t,u,s,x,rfl,h1,h2,h3⟩|h3
   ·rw[h3]at hr2;exact Le rfl h1 h2 hv hr2
   ·rw[h3]at hr2;exact Lg rfl h1 h2 hv hr2
   ·rw[h3]at hr2;exact lI hv hr2
  | invoke a b=>cases hr'
 | _=>cases hr
end Go.Hx
namespace Go.Hx
theorem mQ {f:AVal->Option (AVal × List Nat)}:∀ {l l':List AVal} {rs:List Nat},bD f l=some (l',rs) ->
  l'.length=l.length/\∀ i (_:i<l.length) (_:i<l'.length),∃ ri,f l[i]=some (l'[i],ri)/\∀ r,r∈ri->r∈rs:=by
 intro l
 induction l with
 | nil =>
  intro l' rs h;simp only[bD,Option.some.injEq,Prod.mk.injEq]at h;obtain⟨rfl,rfl⟩:=h;exact⟨rfl,fun i h _=>absurd h (RV _)⟩
 | cons x l ih =>
  intro l' rs h;have h':(match f x,bD f l with|some (y,a),some (l,b)=>some (y :: l,a++b)|_,_=>none)=some (l',rs):=h;split at h'
  ·rename_i y a l2 b h1 h2;simp only[Option.some.injEq,Prod.mk.injEq]at h';obtain⟨rfl,rfl⟩:=h';obtain⟨h3,h4⟩:=ih h2;refine⟨by simp [h3],fun i hi hi'=>?_⟩;cases i with
   | zero=>exact⟨a,h1,fun r hr=>Tn _ hr⟩
   | succ i =>
    obtain⟨ri,h5,h6⟩:=h4 i (by simpa using hi) (by simpa using hi');exact⟨ri,h5,fun r hr=>Ti _ (h6 r hr)⟩
  ·cases h'
theorem lJ {h:EH}{id g:Nat}{e:TypeId}{c:List AVal}(hg:aQ h.hp id=some (.arr g e c)):(aq h).get id=some (.arr g e c):=by
 show Option.map EBlk.jW (aQ h.hp id)=_;rw[hg];rfl
theorem A6 {h:EH}:∀ (fuel:Nat) {v v':AVal} {rs:List Nat},gJ h fuel v=some (v',rs)->∀ H2:AHeap,(∀ r,r∈rs->H2.get r=(aq h).get r)->Fz (fun _=>True) H2 0 v v':=by
 intro fuel
 induction fuel with
 | zero=>intro v v' rs h;cases h
 | succ f ih =>
  intro v v' rs hv H2 ha;have list:∀ {l l':List AVal} {rs':List Nat},bD (gJ h f) l=some (l',rs')->(∀ r,r∈rs'->H2.get r=(aq h).get r) ->
    l'.length=l.length/\∀ i (_:i<l.length) (_:i<l'.length),Fz (fun _=>True) H2 0 l[i] l'[i]:=fun hm ha'=>by
   obtain⟨h1,h2⟩:=mQ hm;exact⟨h1,fun i hi hi'=>let ⟨ri,h3,h4⟩:=h2 i hi hi';ih h3 H2 fun r hr=>ha' r (h4 r hr)⟩
  cases v with
  | lit v =>
   have hv':some (AVal.lit v,[])=some (v',rs):=hv;simp only[Option.some.injEq,Prod.mk.injEq]at hv';obtain⟨rfl,rfl⟩:=hv';exact .lit _
  | vec n c =>
   have hv':(bD (gJ h f) c).map (fun p=>(AVal.vec n p.1,p.2))=some (v',rs):=hv;simp only[Rx,Prod.mk.injEq]at hv';obtain⟨⟨c',rs'⟩,h1,rfl,rfl⟩:=hv';obtain⟨h2,h3⟩:=list h1 ha;exact .vec h2 h3
  | vptr c o =>
   have hv':(bD (gJ h f) c).map (fun p=>(AVal.vptr p.1 o,p.2))=some (v',rs):=hv;simp only[Rx,Prod.mk.injEq]at hv';obtain⟨⟨c',rs'⟩,h1,rfl,rfl⟩:=hv';obtain⟨h2,h3⟩:=list h1 ha;exact .vptr h2 h3
  | agg c =>
   have hv':(bD (gJ h f) c).map (fun p=>(AVal.agg p.1,p.2))=some (v',rs):=hv;simp only[Rx,Prod.mk.injEq]at hv';obtain⟨⟨c',rs'⟩,h1,rfl,rfl⟩:=hv';obtain⟨h2,h3⟩:=list h1 ha;exact .agg h2 h3
  | tup c =>
   have hv':(bD (gJ h f) c).map (fun p=>(AVal.tup p.1,p.2))=some (v',rs):=hv;simp only[Rx,Prod.mk.injEq]at hv';obtain⟨⟨c',rs'⟩,h1,rfl,rfl⟩:=hv';obtain⟨h2,h3⟩:=list h1 ha;exact .tup h2 h3
  | clo g a b =>
   have hv':(match bD (gJ h f) a,bD (gJ h f) b with|some p,some q=>some (AVal.clo g p.1 q.1,p.2++q.2)|_,_=>none)=some (v',rs):=hv;split at hv'
   ·rename_i p q h1 h2;simp only[Option.some.injEq,Prod.mk.injEq]at hv';obtain⟨rfl,rfl⟩:=hv';obtain⟨h3,h4⟩:=list h1 fun r hr=>ha r (Tn _ hr);obtain⟨h5,h6⟩:=list h2 fun r hr=>ha r (Ti _ hr);exact .clo h3 h5 h4 h6
   ·cases hv'
  | own id g o l z =>
   have hv':(match aQ h.hp id with|some (.arr g' _ cells)=>if g'=g/\o+l*z<=cells.length then (bD (gJ h f) ((cells.drop o).take (l*z))).map fun p=>(AVal.vec l p.1,id :: p.2) else none|_=>none)=some (v',rs):=hv;split at hv'
   ·rename_i g' e cells hg;split at hv'
    ·rename_i hc;obtain⟨rfl,hle⟩:=hc;simp only[Rx,Prod.mk.injEq]at hv';obtain⟨⟨c',rs'⟩,h1,rfl,rfl⟩:=hv';obtain⟨h2,h3⟩:=list h1 fun r hr=>ha r (SE _ hr);have hlen:((cells.drop o).take (l*z)).length=l*z:=(by simp;omega);refine .frz trivial ((ha id (S9 ..)).trans (lJ hg)) (h2.trans hlen) fun i hi h2i hi'=>?_;have:=h3 i (by omega) hi';simpa using this
    ·cases hv'
   ·cases hv'
  | ptr id g o =>
   have hv':(match aQ h.hp id with|some (.arr g' _ (x :: cells))=>if g'=g then (bD (gJ h f) (x :: cells)).map fun p=>(AVal.vptr p.1 o,id :: p.2) else none|_=>none)=some (v',rs):=hv;split at hv'
   ·rename_i g' e x cells hg;split at hv'
    ·rename_i hc;subst hc;simp only[Rx,Prod.mk.injEq]at hv';obtain⟨⟨c',rs'⟩,h1,rfl,rfl⟩:=hv';obtain⟨h2,h3⟩:=list h1 fun r hr=>ha r (SE _ hr);exact .pfrz trivial ((ha id (S9 ..)).trans (lJ hg)) (by simp) h2 h3
    ·cases hv'
   ·cases hv'
  | yld n=>cases hv
theorem Lj {f:AVal->Option AVal}:∀ {l l':List AVal},jX f l=some l'->l'.length=l.length/\∀ i (_:i<l.length) (_:i<l'.length),f l[i]=some l'[i]:=by
 intro l
 induction l with
 | nil =>
  intro l' h;simp only[jX,Option.some.injEq]at h;subst h;exact⟨rfl,fun i h _=>absurd h (RV _)⟩
 | cons x l ih =>
  intro l' h;have h':(match f x,jX f l with|some y,some l=>some (y :: l)|_,_=>none)=some l':=h;split at h'
  ·rename_i y l2 h1 h2;simp only[Option.some.injEq]at h';subst h';obtain⟨h3,h4⟩:=ih h2;refine⟨by simp [h3],fun i hi hi'=>?_⟩;cases i with
   | zero=>exact h1
   | succ i=>exact h4 i (by simpa using hi) (by simpa using hi')
  ·cases h'
theorem A7 {h:EH}:∀ (fuel:Nat) {v v':AVal},mK h fuel v=some v'->Fresh (aq h) v v':=by
 intro fuel
 induction fuel with
 | zero=>intro v v' h;cases h
 | succ f ih =>
  intro v v' hv;have list:∀ {l l':List AVal},jX (mK h f) l=some l'->l'.length=l.length/\∀ i (_:i<l.length) (_:i<l'.length),Fresh (aq h) l[i] l'[i]:=fun hm=>by
   obtain⟨h1,h2⟩:=Lj hm;exact⟨h1,fun i hi hi'=>ih (h2 i hi hi')⟩
  cases v with
  | lit v =>
   have hv':some (AVal.lit v)=some v':=hv;cases hv';exact .lit _
  | agg c =>
   have hv':(jX (mK h f) c).map AVal.agg=some v':=hv;simp only[Rx]at hv';obtain⟨c',h1,rfl⟩:=hv';obtain⟨h2,h3⟩:=list h1;exact .agg h2 h3
  | tup c =>
   have hv':(jX (mK h f) c).map AVal.tup=some v':=hv;simp only[Rx]at hv';obtain⟨c',h1,rfl⟩:=hv';obtain⟨h2,h3⟩:=list h1;exact .tup h2 h3
  | own id g o l z =>
   have hv':(match aQ h.hp id with|some (.arr g' _ cells)=>if g'=g/\o+l*z<=cells.length then (jX (mK h f) ((cells.drop o).take (l*z))).map (AVal.vec l) else none|_=>none)=some v':=hv;split at hv'
   ·rename_i g' e cells hg;split at hv'
    ·rename_i hc;obtain⟨rfl,hle⟩:=hc;simp only[Rx]at hv';obtain⟨c',h1,rfl⟩:=hv';obtain⟨h2,h3⟩:=list h1;have hlen:((cells.drop o).take (l*z)).length=l*z:=(by simp;omega);refine .own (lJ hg) (h2.trans hlen) fun i hi h2i hi'=>?_;have:=h3 i (by omega) hi';simpa using this
    ·cases hv'
   ·cases hv'
  | _=>cases hv
theorem ij {f:AVal->AVal->Bool}(hf:∀ x y,f x y=true->x=y):∀ {a b:List AVal},fm f a b=true->a=b:=by
 intro a
 induction a with
 | nil=>intro b h;cases b with
  | nil=>rfl
  | cons=>cases h
 | cons x l ih =>
  intro b h;cases b with
  | nil=>cases h
  | cons y b =>
   have h':(match f x y with|true=>fm f l b|false=>false)=true:=h;split at h'
   ·rename_i hxy;rw[hf _ _ hxy,ih h']
   ·cases h'
theorem A8:∀ (fuel:Nat) (a b:AVal),ow fuel a b=true->a=b:=by
 intro fuel
 induction fuel with
 | zero=>intro a b h;cases h
 | succ f ih =>
  intro a b h;have h':wA (ow f) a b=true:=h;unfold wA at h';split at h'
  ·simp only[RU,decide_eq_true_eq,tF]at h';rw[h'.1,h'.2]
  ·simp only[beq_iff_eq]at h';rw[h']
  ·rfl
  ·simp only[RU]at h';rw[RM h'.1,ij ih h'.2]
  ·simp only[RU]at h';rw[RM h'.1,ij ih h'.2]
  ·rw[ij ih h']
  ·rw[ij ih h']
  ·simp only[RU]at h';rw[RM h'.1,ij ih h'.2.1,ij ih h'.2.2]
  ·cases h'
theorem A9 {args:List AVal}{v:AVal}:∀ {l:List (List AVal × AVal)},sN args l=some v->(args,v)∈l:=by
 intro l
 induction l with
 | nil=>intro h;cases h
 | cons p l ih =>
  intro h;have h':Bool.casesOn (motive:=fun _=>Option AVal) (fm (ow 40) p.1 args) (sN args l) (some p.2)=some v:=h;cases he:fm (ow 40) p.1 args with
  | true =>
   rw[he]at h';have:=ij (A8 40) he;have h2:p.2=v:=Option.some.inj h';rw[<- this,<- h2];exact S9 ..
  | false =>
   rw[he]at h';exact SE _ (ih h')
theorem Lk {k:BT AVal->R}{r:RR}:∀ {l:List AVal} {i:Nat} {t:BT AVal},sK k l i t=some r->∃ t',k t'=some r/\∀ m,dU t' m=if i<=m/\m<i+l.length then l[m - i]? else dU t m:=by
 intro l
 induction l with
 | nil=>intro i t h;exact⟨t,h,fun m=>by rw[RB (by simp only[List.length_nil];omega)]⟩
 | cons x l ih =>
  intro i t h;have h':(lq t i x fun t=>cU (Nat.succ i) fun i=>sK k l i t)=some r:=h;obtain⟨t1,h1,h2⟩:=w9 _ _ _ _ _ h';rw[gK]at h1;obtain⟨t',h3,h4⟩:=ih h1;refine⟨t',h3,fun m=>?_⟩;rw[h4,h2];simp only[List.length_cons,Nat.succ_eq_add_one];by_cases hm:m=i
  ·subst hm;rw[RB (by omega),RC rfl,RC (by omega)];simp
  ·rw[RB hm];by_cases hm2:i+1<=m/\m<i+1+l.length
   ·rw[RC hm2,RC (by omega)];have:m - i=(m - (i+1))+1:=(by omega);rw[this,List.getElem?_cons_succ]
   ·rw[RB hm2,RB (by omega)]
theorem Ll {k:BT AVal->R}{r:RR}{l:List AVal}(h:sK k l 0 .nil=some r):∃ t,k t=some r/\aD t=fQ l:=by
 obtain⟨t,h1,h2⟩:=Lk h;refine⟨t,h1,funext fun m=>?_⟩;rw[tC,h2];unfold fQ;split
 ·rfl
 ·rename_i hm;rw[RF (by omega),tB]
theorem Lm {k:BT AVal->R}{r:RR}:∀ {ps:List Tmp} {vs:List AVal} {e:BT AVal},sP k ps vs e=some r->∃ e',k e'=some r/\vs.length=ps.length/\aD e'=jq (aD e) (ps.zip vs):=by
 intro ps
 induction ps with
 | nil =>
  intro vs e h;cases vs with
  | nil=>exact⟨e,h,rfl,rfl⟩
  | cons=>cases h
 | cons p ps ih =>
  intro vs e h;cases vs with
  | nil=>cases h
  | cons v vs =>
   have h':(lq e p v fun e=>sP k ps vs e)=some r:=h;obtain⟨t1,h1,h2⟩:=w9 _ _ _ _ _ h';obtain⟨e',h3,h4,h5⟩:=ih h1;refine⟨e',h3,by simp [h4],?_⟩;rw[h5,AU h2];rfl
theorem Lo {n:Nat}:∀ (t:BT AVal) (a b:Nat),okB t a b n=true->∀ j v,dU t j=some v->a*j+b<n:=by
 intro t
 induction t with
 | nil=>intro a b _ j v h;cases h
 | node v l r ihl ihr =>
  intro a b h j u hj;have h':(Ay v b n && (okB l (2*a) (a+b) n && okB r (2*a) (2*a+b) n))=true:=h;simp only[RU]at h';obtain⟨h1,h2,h3⟩:=h';cases j with
  | zero =>
   rw[KJ]at hj;rw[hj]at h1;have h4:b<n:=(by rw[<- UK];exact h1);omega
  | succ m =>
   rw[j6]at hj;split at hj
   ·rename_i hm;have:=ihl _ _ h2 _ _ hj;have h4:m=2*(m / 2):=(by omega);generalize m / 2=q at this h4;subst h4;have h5:a*(2*q+1)=2*a*q+a:=(by rw[Nat.mul_add,Nat.mul_one,<- U2,Ux a 2]);omega
   ·rename_i hm;have:=ihr _ _ h3 _ _ hj;have h4:m=2*(m / 2)+1:=(by omega);generalize m / 2=q at this h4;subst h4;have h5:a*(2*q+1+1)=2*a*q+2*a:=(by rw[show 2*q+1+1=2*q+2 from rfl,Nat.mul_add,<- U2,Ux a 2]);omega
theorem Lp {env:BT AVal}{n:Nat}(h:okB env 1 0 n=true):cY (aD env) n=aD env:=by
 funext t
 unfold cY;split
 ·rfl
 ·rename_i ht;rw[tC];cases hg:dU env t with
  | none=>rfl
  | some v =>
   have:=Lo env 1 0 h t v hg;omega
end Go.Hx
namespace Go.Hx
theorem j7 {l:List Nat}{n:Nat}:ee l n=true↔n∈l:=by
 induction l with
 | nil=>exact⟨fun h=>absurd (show false=true from h) (by decide),fun h=>absurd h (List.not_mem_nil)⟩
 | cons x l ih =>
  have h':ee (x :: l) n=Bool.rec (motive:=fun _=>Bool) (ee l n) true (Nat.beq x n):=rfl;rw[h',List.mem_cons];cases hb:Nat.beq x n with
  | true=>exact⟨fun _=>.inl (RM hb).symm,fun _=>rfl⟩
  | false =>
   refine⟨fun h=>.inr (ih.1 h),?_⟩;rintro(rfl|h)
   ·rw[TJ]at hb;cases hb
   ·exact ih.2 h
theorem Bk {l:List Nat}{n:Nat}(h:ee l n=false):n ∉ l:=fun hm=>by rw[j7.2 hm]at h;cases h
theorem LO {f:Nat->Bool}{l:List Nat}(h:wB f l=true):∀ n,n∈l->f n=true:=by
 induction l with
 | nil=>intro n hn;cases hn
 | cons x l ih =>
  have h':Bool.rec (motive:=fun _=>Bool) false (wB f l) (f x)=true:=h;cases hx:f x with
  | false=>rw[hx]at h';cases h'
  | true =>
   rw[hx]at h';intro n hn;rcases List.mem_cons.1 hn with rfl|hn
   ·exact hx
   ·exact ih h' n hn
def ik (lo:Nat)(kp acc:List Nat):Nat->Prop:=fun j=>(j<lo/\j∈kp)\/(¬ j<lo/\j∈acc)
def oQ (h:EH)(lo:Nat)(kp acc:List Nat)(id:Nat):Prop:=¬ id<lo/\∃ g e c,aQ h.hp id=some (.arr g e c)/\∀ i (h:i<c.length),Ev.Cln (ik lo kp acc) c[i]
def fT (h:EH)(lo:Nat)(kp acc acc':List Nat):Prop:=(∀ id,id∈acc->id∈acc')/\∀ id,id∈acc'->id∈acc\/oQ h lo kp acc' id
theorem ik.mono {lo:Nat}{kp acc acc':List Nat}(hs:∀ id,id∈acc->id∈acc')(id:Nat)(h:ik lo kp acc id):ik lo kp acc' id:=by
 rcases h with h|h
 ·exact .inl h
 ·exact .inr ⟨h.1,hs _ h.2⟩
theorem oQ.mono {h:EH}{lo:Nat}{kp acc acc':List Nat}(hs:∀ id,id∈acc->id∈acc'){id:Nat}(hg:oQ h lo kp acc id):oQ h lo kp acc' id:=by
 obtain⟨h1,g,e,c,h2,h3⟩:=hg;exact⟨h1,g,e,c,h2,fun i hi=>(h3 i hi).mono (ik.mono hs)⟩
theorem fT.refl (h:EH)(lo:Nat)(kp acc:List Nat):fT h lo kp acc acc:=⟨fun _ h=>h,fun _ h=>.inl h⟩
theorem fT.trans {h:EH}{lo:Nat}{kp a b c:List Nat}(h1:fT h lo kp a b)(h2:fT h lo kp b c):fT h lo kp a c:=by
 refine⟨fun id hid=>h2.1 id (h1.1 id hid),fun id hid=>?_⟩;rcases h2.2 id hid with h3|h3
 ·rcases h1.2 id h3 with h4|h4
  ·exact .inl h4
  ·exact .inr (h4.mono h2.1)
 ·exact .inr h3
theorem qJ {h:EH}{lo:Nat}{kp:List Nat}{f:KF}(hf:∀ v acc acc',f v acc=some acc'->fT h lo kp acc acc'/\Ev.Cln (ik lo kp acc') v):
  ∀ {l:List AVal} {acc acc':List Nat},jr f l acc=some acc'->fT h lo kp acc acc'/\∀ i (h:i<l.length),Ev.Cln (ik lo kp acc') l[i]:=by
 intro l
 induction l with
 | nil =>
  intro acc acc' hk;have:some acc=some acc':=hk;cases this;exact⟨.refl _ _ _ _,fun i h=>absurd h (RV _)⟩
 | cons x l ih =>
  intro acc acc' hk;have h':(match f x acc with|some acc=>jr f l acc|none=>none)=some acc':=hk;split at h'
  ·rename_i a1 h1;obtain⟨h2,h3⟩:=hf _ _ _ h1;obtain⟨h4,h5⟩:=ih h';refine⟨h2.trans h4,fun i hi=>?_⟩;cases i with
   | zero=>exact h3.mono (ik.mono h4.1)
   | succ i=>exact h5 i (by simpa using hi)
  ·cases h'
theorem Bm {h:EH}{lo:Nat}{kp:List Nat}{f:KF}(hf:∀ v acc acc',f v acc=some acc'->fT h lo kp acc acc'/\Ev.Cln (ik lo kp acc') v)
  {id:Nat} {acc acc':List Nat} (hk:ox h lo kp f id acc=some acc'):fT h lo kp acc acc'/\ik lo kp acc' id:=by
 unfold ox at hk;split at hk
 ·rename_i hlt;rw[UK]at hlt;split at hk
  ·rename_i hm;cases hk;exact⟨.refl _ _ _ _,.inl ⟨hlt,j7.1 hm⟩⟩
  ·cases hk
 ·rename_i hlt;have hlt':¬ id<lo:=fun h=>by rw[<- UK]at h;rw[h]at hlt;cases hlt
  split at hk
  ·rename_i hm;cases hk;exact⟨.refl _ _ _ _,.inr ⟨hlt',j7.1 hm⟩⟩
  ·split at hk
   ·rename_i g e cells hg;obtain⟨⟨h1,h2⟩,h3⟩:=qJ hf hk;have hin:id∈acc':=h1 id (S9 ..);refine⟨⟨fun j hj=>h1 j (SE _ hj),fun j hj=>?_⟩,.inr ⟨hlt',hin⟩⟩;rcases h2 j hj with h4|h4
    ·rcases List.mem_cons.1 h4 with rfl|h4
     ·exact .inr ⟨hlt',g,e,cells,hg,h3⟩
     ·exact .inl h4
    ·exact .inr h4
   ·cases hk
theorem Bn {h:EH}{lo:Nat}{kp:List Nat}:∀ (fuel:Nat) (v:AVal) (acc acc':List Nat),jY h lo kp fuel v acc=some acc'->fT h lo kp acc acc'/\Ev.Cln (ik lo kp acc') v:=by
 intro fuel
 induction fuel with
 | zero=>intro v acc acc' h;cases h
 | succ n ih =>
  intro v acc acc' hk;cases v with
  | lit v =>
   have:some acc=some acc':=hk;cases this;exact⟨.refl _ _ _ _,.lit _⟩
  | vec m c =>
   have hk':(match AVal.vec m c with|.vec 0 []=>some acc|_=>none)=some acc':=by
    cases m<;>cases c<;>exact hk
   split at hk'
   ·rename_i he;cases he;cases hk';exact⟨.refl _ _ _ _,.nil⟩
   ·cases hk'
  | agg c =>
   obtain⟨h1,h2⟩:=qJ ih (show jr (jY h lo kp n) c acc=some acc' from hk);exact⟨h1,.agg h2⟩
  | tup c =>
   obtain⟨h1,h2⟩:=qJ ih (show jr (jY h lo kp n) c acc=some acc' from hk);exact⟨h1,.tup h2⟩
  | clo f a b =>
   have hk':(match jr (jY h lo kp n) a acc with|some acc=>jr (jY h lo kp n) b acc|none=>none)=some acc':=hk;split at hk'
   ·rename_i a1 h1;obtain⟨h2,h3⟩:=qJ ih h1;obtain⟨h4,h5⟩:=qJ ih hk';exact⟨h2.trans h4,.clo (fun i hi=>(h3 i hi).mono (ik.mono h4.1)) h5⟩
   ·cases hk'
  | own id g o l z =>
   obtain⟨h1,h2⟩:=Bm ih (show ox h lo kp (jY h lo kp n) id acc=some acc' from hk);exact⟨h1,.own h2⟩
  | ptr id g o =>
   obtain⟨h1,h2⟩:=Bm ih (show ox h lo kp (jY h lo kp n) id acc=some acc' from hk);exact⟨h1,.ptr h2⟩
  | vptr=>cases hk
  | yld=>cases hk
theorem lL {h:EH}{f:CF}(hf:∀ v acc k r,f v acc k=some r->∃ acc',k acc'=some r/\fT h 0 [] acc acc'):
  ∀ {l:List AVal} {acc:List Nat} {k:List Nat->R} {r:RR},jZ f l acc k=some r->∃ acc',k acc'=some r/\fT h 0 [] acc acc':=by
 intro l
 induction l with
 | nil=>intro acc k r hr;exact⟨acc,hr,.refl _ _ _ _⟩
 | cons x l ih =>
  intro acc k r hr;have h':(f x acc fun acc=>jZ f l acc k)=some r:=hr;obtain⟨a1,h1,h2⟩:=hf _ _ _ _ h';obtain⟨a2,h3,h4⟩:=ih h1;exact⟨a2,h3,h2.trans h4⟩
theorem LP {h:EH}:∀ (fuel:Nat) (v:AVal) (acc:List Nat) (k:List Nat->R) (r:RR),sI h fuel v acc k=some r->∃ acc',k acc'=some r/\fT h 0 [] acc acc':=by
 intro fuel
 induction fuel with
 | zero=>intro v acc k r hr;exact⟨acc,hr,.refl _ _ _ _⟩
 | succ n ih =>
  intro v acc k r hr;have h':(match jY h 0 [] 40 v acc with|some acc=>k acc|none=>wC h (sI h n) v acc k)=some r:=hr;split at h'
  ·rename_i a1 h1;exact⟨a1,h',(Bn 40 v acc a1 h1).1⟩
  ·have blk:∀ b,sH (sI h n) acc k b=some r->∃ acc',k acc'=some r/\fT h 0 [] acc acc':=by
    intro b hb;unfold sH at hb;split at hb
    ·exact lL ih hb
    ·exact⟨acc,hb,.refl _ _ _ _⟩
   unfold wC at h';split at h'
   ·exact lL ih h'
   ·exact lL ih h'
   ·exact lL ih h'
   ·exact lL ih h'
   ·obtain⟨a1,h1,h2⟩:=lL ih h';obtain⟨a2,h3,h4⟩:=lL ih h1;exact⟨a2,h3,h2.trans h4⟩
   ·exact blk _ h'
   ·exact blk _ h'
   ·exact⟨acc,h',.refl _ _ _ _⟩
theorem LQ {h:EH}{kp:List Nat}(hkp:∀ id,id∈kp->id<h.nx):∀ (fuel:Nat) {v v':AVal} {rs:List Nat},js h kp fuel v=some (v',rs)->∀ H2:AHeap,(∀ r,r∈rs->H2.get r=(aq h).get r)->Fz (fun id=>¬ id∈kp) H2 h.nx v v':=by
 intro fuel
 induction fuel with
 | zero=>intro v v' rs h;cases h
 | succ f ih =>
  intro v v' rs hv H2 ha;have list:∀ {l l':List AVal} {rs':List Nat},bD (js h kp f) l=some (l',rs')->(∀ r,r∈rs'->H2.get r=(aq h).get r) ->
    l'.length=l.length/\∀ i (_:i<l.length) (_:i<l'.length),Fz (fun id=>¬ id∈kp) H2 h.nx l[i] l'[i]:=fun hm ha'=>by
   obtain⟨h1,h2⟩:=mQ hm;exact⟨h1,fun i hi hi'=>let ⟨ri,h3,h4⟩:=h2 i hi hi';ih h3 H2 fun r hr=>ha' r (h4 r hr)⟩
  cases v with
  | lit v =>
   have hv':some (AVal.lit v,[])=some (v',rs):=hv;simp only[Option.some.injEq,Prod.mk.injEq]at hv';obtain⟨rfl,rfl⟩:=hv';exact .lit _
  | vec n c =>
   have hv':(bD (js h kp f) c).map (fun p=>(AVal.vec n p.1,p.2))=some (v',rs):=hv;simp only[Rx,Prod.mk.injEq]at hv';obtain⟨⟨c',rs'⟩,h1,rfl,rfl⟩:=hv';obtain⟨h2,h3⟩:=list h1 ha;exact .vec h2 h3
  | vptr c o =>
   have hv':(bD (js h kp f) c).map (fun p=>(AVal.vptr p.1 o,p.2))=some (v',rs):=hv;simp only[Rx,Prod.mk.injEq]at hv';obtain⟨⟨c',rs'⟩,h1,rfl,rfl⟩:=hv';obtain⟨h2,h3⟩:=list h1 ha;exact .vptr h2 h3
  | agg c =>
   have hv':(bD (js h kp f) c).map (fun p=>(AVal.agg p.1,p.2))=some (v',rs):=hv;simp only[Rx,Prod.mk.injEq]at hv';obtain⟨⟨c',rs'⟩,h1,rfl,rfl⟩:=hv';obtain⟨h2,h3⟩:=list h1 ha;exact .agg h2 h3
  | tup c =>
   have hv':(bD (js h kp f) c).map (fun p=>(AVal.tup p.1,p.2))=some (v',rs):=hv;simp only[Rx,Prod.mk.injEq]at hv';obtain⟨⟨c',rs'⟩,h1,rfl,rfl⟩:=hv';obtain⟨h2,h3⟩:=list h1 ha;exact .tup h2 h3
  | clo g a b =>
   have hv':(match bD (js h kp f) a,bD (js h kp f) b with|some p,some q=>some (AVal.clo g p.1 q.1,p.2++q.2)|_,_=>none)=some (v',rs):=hv;split at hv'
   ·rename_i p q h1 h2;simp only[Option.some.injEq,Prod.mk.injEq]at hv';obtain⟨rfl,rfl⟩:=hv';obtain⟨h3,h4⟩:=list h1 fun r hr=>ha r (Tn _ hr);obtain⟨h5,h6⟩:=list h2 fun r hr=>ha r (Ti _ hr);exact .clo h3 h5 h4 h6
   ·cases hv'
  | own id g o l z =>
   have hv':(match ee kp id with
    | true=>some (AVal.own id g o l z,[])
    | false=>match aQ h.hp id with|some (.arr g' _ cells)=>if g'=g/\o+l*z<=cells.length then (bD (js h kp f) ((cells.drop o).take (l*z))).map fun p=>(AVal.vec l p.1,id :: p.2) else none|_=>none)=some (v',rs):=hv
   split at hv'
   ·rename_i hm;simp only[Option.some.injEq,Prod.mk.injEq]at hv';obtain⟨rfl,rfl⟩:=hv';exact .own (hkp _ (j7.1 hm)) fun h=>h (j7.1 hm)
   ·rename_i hm;split at hv'
    ·rename_i g' e cells hg;split at hv'
     ·rename_i hc;obtain⟨rfl,hle⟩:=hc;simp only[Rx,Prod.mk.injEq]at hv';obtain⟨⟨c',rs'⟩,h1,rfl,rfl⟩:=hv';obtain⟨h2,h3⟩:=list h1 fun r hr=>ha r (SE _ hr);have hlen:((cells.drop o).take (l*z)).length=l*z:=(by simp;omega);refine .frz (Bk hm) ((ha id (S9 ..)).trans (lJ hg)) (h2.trans hlen) fun i hi h2i hi'=>?_;have:=h3 i (by omega) hi';simpa using this
     ·cases hv'
    ·cases hv'
  | ptr id g o =>
   have hv':(match ee kp id with
    | true=>some (AVal.ptr id g o,[])
    | false=>match aQ h.hp id with|some (.arr g' _ (x :: cells))=>if g'=g then (bD (js h kp f) (x :: cells)).map fun p=>(AVal.vptr p.1 o,id :: p.2) else none|_=>none)=some (v',rs):=hv
   split at hv'
   ·rename_i hm;simp only[Option.some.injEq,Prod.mk.injEq]at hv';obtain⟨rfl,rfl⟩:=hv';exact .ptr (hkp _ (j7.1 hm)) fun h=>h (j7.1 hm)
   ·rename_i hm;split at hv'
    ·rename_i g' e x cells hg;split at hv'
     ·rename_i hc;subst hc;simp only[Rx,Prod.mk.injEq]at hv';obtain⟨⟨c',rs'⟩,h1,rfl,rfl⟩:=hv';obtain⟨h2,h3⟩:=list h1 fun r hr=>ha r (SE _ hr);exact .pfrz (Bk hm) ((ha id (S9 ..)).trans (lJ hg)) (by simp) h2 h3
     ·cases hv'
    ·cases hv'
  | yld n=>cases hv
theorem LR {h:EH}{k:BT EBlk->R}{r:RR}:∀ {l:List Nat} {t:BT EBlk},wD h l k t=some r->∃ t',k t'=some r/\∀ m,aQ t' m=if m∈l then aQ h.hp m else aQ t m:=by
 intro l
 induction l with
 | nil=>intro t hr;exact⟨t,hr,fun m=>by rw[RB (by simp)]⟩
 | cons x l ih =>
  intro t hr;have h':(match aQ h.hp x with|some b=>fI t x b (wD h l k)|none=>none)=some r:=hr;split at h'
  ·rename_i b hb;obtain⟨t1,h1,h2⟩:=lH _ _ _ _ _ h';obtain⟨t',h3,h4⟩:=ih h1;refine⟨t',h3,fun m=>?_⟩;rw[h4,h2];by_cases hm:m∈l
   ·rw[RC hm,RC (SE _ hm)]
   ·rw[RB hm];by_cases hx:m=x
    ·subst hx;rw[RC rfl,RC (S9 ..),hb]
    ·rw[RB hx,RB (by simp [hx,hm])]
  ·cases h'
theorem LS {a b:Value}(h:wE a b=true):a=b:=by
 unfold wE at h;split at h
 ·simp only[RU,decide_eq_true_eq,tF]at h;rw[h.1,h.2]
 ·simp only[beq_iff_eq]at h;rw[h]
 ·rfl
 ·rfl
 ·cases h
theorem LU:∀ (fuel:Nat) (a b:AVal),wH fuel a b=true->a=b:=by
 intro fuel
 induction fuel with
 | zero=>intro a b h;cases h
 | succ f ih =>
  intro a b h;have h':wG (wH f) a b=true:=h;unfold wG at h';split at h'
  ·rw[LS h']
  ·simp only[RU]at h';rw[RM h'.1,ij ih h'.2]
  ·rw[ij ih h']
  ·rw[ij ih h']
  ·simp only[RU]at h';rw[RM h'.1,ij ih h'.2.1,ij ih h'.2.2]
  ·simp only[RU]at h';rw[RM h'.1,RM h'.2.1,RM h'.2.2.1,RM h'.2.2.2.1,RM h'.2.2.2.2]
  ·simp only[RU]at h';rw[RM h'.1,RM h'.2.1,RM h'.2.2]
  ·cases h'
theorem LV {a b:Option EBlk}(h:wI a b=true):a=b:=by
 unfold wI at h;split at h
 ·simp only[RU]at h;rw[RM h.1,RM h.2.1,ij (LU 40) h.2.2]
 ·cases h
theorem LW {h':EH}{lv:List Nat}{lo:Nat}:∀ {n:Nat} {t:BT EBlk} {k:BT EBlk->R} {r:RR},sJ h' lv lo n t k=some r ->
  ∃ t',k t'=some r/\∀ m,aQ t' m=if lo<=m/\m<lo+n then (if ee lv m=true then aQ h'.hp m else some (.arr 0 0 [])) else aQ t m:=by
 intro n
 induction n with
 | zero=>intro t k r hr;exact⟨t,hr,fun m=>by rw[RB (by omega)]⟩
 | succ n ih =>
  intro t k r hr;have h1:cU (Nat.add lo n) (wJ h' lv t fun t=>sJ h' lv lo n t k)=some r:=hr;rw[gK]at h1;have key:∀ b,(if ee lv (lo+n)=true then aQ h'.hp (lo+n) else some (.arr 0 0 []))=some b->fI t (lo+n) b (fun t=>sJ h' lv lo n t k)=some r ->
    ∃ t',k t'=some r/\∀ m,aQ t' m=if lo<=m/\m<lo+(n+1) then (if ee lv m=true then aQ h'.hp m else some (.arr 0 0 [])) else aQ t m:=by
   intro b hb hs;obtain⟨t1,h2,h3⟩:=lH _ _ _ _ _ hs;obtain⟨t',h4,h5⟩:=ih h2;refine⟨t',h4,fun m=>?_⟩;rw[h5,h3];by_cases hm:m=lo+n
   ·subst hm;rw[RB (by omega),RC rfl,RC (by omega),hb]
   ·rw[RB hm];by_cases hm2:lo<=m/\m<lo+n
    ·rw[RC hm2,RC (⟨hm2.1,by omega⟩:lo<=m/\m<lo+(n+1))]
    ·rw[RB hm2,RB (fun hc:lo<=m/\m<lo+(n+1)=>hm2 ⟨hc.1,by omega⟩)]
  unfold wJ at h1;split at h1
  ·rename_i hm;split at h1
   ·rename_i b hb;exact key b ((RC (show ee lv (lo+n)=true from hm)).trans hb) h1
   ·cases h1
  ·rename_i hm;exact key _ (RB (fun hc=>by rw[show ee lv (lo+n)=false from hm]at hc;cases hc)) h1
end Go.Hx
namespace Go.Hx
def Lq (z:GD):Option AVal->AVal
 | some u=>.tup [u,.lit (.int .i64 0)]
 | none=>.tup [z.z,.lit (.int .i64 6)]
def Ba (P:Program)(G:Nat->Option (List AVal))(f:FuncId)(z:GD):Prop:=∀ g cap cap' (H:AHeap) o,cap'.length=cap.length ->
 (∀ H2:AHeap,(∀ id,id<H.next->H2.get id=H.get id)->∀ i (h:i<cap.length) (h':i<cap'.length),Fz (fun _=>True) H2 0 cap[i] cap'[i]) ->
 (∀ u,o=some u->z.ok u=true)->ae P G g cap' bU (pR o)->ae P G f [.clo g [] cap] H fun r H'=>r=.ret (Lq z o)/\H'=H
def oN (E:EP):Prop:=∀ f e,E.ext f=some e->∀ args r,e args=some r->∀ (H:AHeap) (K:ARes->AHeap->Prop),K (.ret r) H->az E.P E.G (.clo f [] []) args H K
theorem oN.none {E:EP}(h:E.ext=fun _=>.none):oN E:=fun f e he=>by rw[h]at he;cases he
structure EOk (E:EP):Prop where
 gok:fH E.G
 mixed:E.P.follows .mixedOrders=true
 known:∀ f l,E.known f=some l->∀ a v,(a,v)∈l->ae E.P E.G f a bU fun r H'=>∃ u,r=.ret u/\Fresh H' u v
 gd:∀ f z,E.gd f=some z->Ba E.P E.G f z
 ext:oN E
def xg:RR->ARes->EH->Prop
 | .ret v h,x,h'=>x=.ret v/\h'=h
 | .panic h,x,h'=>x=.panic/\h'=h
 | _,_,_=>False
def fS (E:EP)(ih:jt):Prop:=∀ rd n c env h r,ih rd n c env h=some r->VH h->fits n c=true ->
 ∃ x env' h',r=.ev x env' h'/\VH h'/\∀ Q:AX->St->Prop,Q x ⟨aD env',aq h'⟩->W E.P E.G n rd c Q ⟨aD env,aq h⟩
theorem W.here {P:Program}{G:Nat->Option (List AVal)}{n:Nat}{rd:Option Nat}{c:Code}{Q:AX->St->Prop}{s s':St}{x:AX}(h:∀ Q:AX->St->Prop,Q x s'->W P G n rd c Q s)(hq:Q x s'):W P G n rd c Q s :=
 (h (fun y t=>y=x/\t=s') ⟨rfl,rfl⟩).mono fun y t ht=>by rw[ht.1,ht.2];exact hq
def xh (E:EP)(f:FuncId)(args:List AVal)(h:EH)(r:RR):Prop :=
 ∃ x h',xg r x h'/\VH h'/\∀ K:ARes->AHeap->Prop,K x (aq h')->ae E.P E.G f args (aq h) K
def xi (E:EP)(fv:AVal)(args:List AVal)(h:EH)(r:RR):Prop :=
 ∃ x h',xg r x h'/\VH h'/\∀ K:ARes->AHeap->Prop,K x (aq h')->az E.P E.G fv args (aq h) K
section
variable {E:EP} {ih:jt}
theorem fK {b:Bool}{x:R}{r:RR}(h:Bool.rec (motive:=fun _=>R) none x b=some r):b=true/\x=some r:=by
 cases b with
 | false=>cases h
 | true=>exact⟨rfl,h⟩
theorem xj:VH ⟨.nil,0⟩:=fun _ _ h=>by cases h
theorem lK (hI:fS E ih){f:FuncId}{args:List AVal}{h:EH}{r:RR}(hv:VH h)(hr:lu E ih f args h=some r):xh E f args h r:=by
 unfold lu at hr;cases hf:E.P.funcs[f]? with
 | none=>rw[hf]at hr;cases hr
 | some fn =>
  rw[hf]at hr;have hr1:Option.rec (motive:=fun _=>R) none (fun c=>sM E ih fn c args h) fn.body=some r:=hr;cases hb:fn.body with
  | none=>rw[hb]at hr1;cases hr1
  | some c =>
   rw[hb]at hr1;have hr2:sM E ih fn c args h=some r:=hr1;unfold sM at hr2;obtain⟨hok,hr3⟩:=fK hr2;obtain⟨hle,hr4⟩:=fK hr3;have hle:=SL hle;unfold Au at hok;simp only[RU,UN]at hok;obtain⟨env,hr5,henv⟩:=Ll hr4;have body:∀ K:ARes->AHeap->Prop,W E.P E.G fn.ntmps none c (pZ E.P E.G fn.results.toList (aq h) K) ⟨fQ args,aq h⟩->ae E.P E.G f args (aq h) K:=fun K hW=>ae.cX hf hb rfl rfl hok.2 hle hW;unfold At at hr5;have ret:∀ env' h' vs,dR E.P (aq h') (aD env') fn.results.toList=some vs->sL h.nx (gF vs) h'=some r->VH h'->(∀ Q:AX->St->Prop,(Q .normal ⟨aD env',aq h'⟩/\Q .ret ⟨aD env',aq h'⟩)->W E.P E.G fn.ntmps none c Q ⟨aD env,aq h⟩)->xh E f args h r:=by
    intro env' h' vs hvs he hv' hW;unfold sL at he;obtain⟨hnx,he2⟩:=fK he;rw[oK]at he2;have he3:r=.ret (gF vs) h':=(Option.some.inj he2).symm;subst he3;refine⟨.ret (gF vs),h',⟨rfl,rfl⟩,hv',fun K hK=>body K ?_⟩;rw[<- henv];have hfin:aR (dR E.P (aq h') (aD env') fn.results.toList) fun vs=>av E.P E.G (aq h) K (gF vs) (aq h'):=⟨vs,hvs,av.mk (SL hnx) hK⟩
    exact hW _ ⟨hfin,hfin⟩
   split at hr5
   ·rename_i env' h' hi;obtain⟨x,e2,h2,h3,h4,h5⟩:=hI _ _ _ _ _ _ hi hv hok.1;cases h3;split at hr5
    ·rename_i vs hvs;exact ret _ _ _ hvs hr5 h4 fun Q hq=>h5 Q hq.1
    ·cases hr5
   ·rename_i env' h' hi;obtain⟨x,e2,h2,h3,h4,h5⟩:=hI _ _ _ _ _ _ hi hv hok.1;cases h3;split at hr5
    ·rename_i vs hvs;exact ret _ _ _ hvs hr5 h4 fun Q hq=>h5 Q hq.2
    ·cases hr5
   ·rename_i env' h' hi;obtain⟨x,e2,h2,h3,h4,h5⟩:=hI _ _ _ _ _ _ hi hv hok.1;cases h3;obtain⟨hnx,he2⟩:=fK hr5;have he3:r=.panic h':=(Option.some.inj he2).symm;subst he3;refine⟨.panic,h',⟨rfl,rfl⟩,h4,fun K hK=>body K ?_⟩;rw[<- henv];exact h5 _ ⟨aq h',kZ.refl _ _,SL hnx,hK⟩
   ·cases hr5
theorem Lr (hI:fS E ih){f:FuncId}{args:List AVal}{v:AVal}(hr:wK E ih f args=some v):ae E.P E.G f args bU fun r H'=>∃ u,r=.ret u/\Fresh H' u v:=by
 unfold wK at hr;split at hr
 ·rename_i u h' hc;obtain⟨x,h2,hcr,hv2,hK⟩:=lK hI xj hc;obtain⟨rfl,rfl⟩:=hcr;exact hK _ ⟨u,rfl,A7 _ hr⟩
 ·cases hr
theorem Bc (hI:fS E ih){f:FuncId}{args:List AVal}{o:Option AVal}(hr:wN E ih f args=some o):ae E.P E.G f args bU (pR o):=by
 unfold wN at hr;split at hr
 ·rename_i u h' hc;obtain⟨x,h2,hcr,_,hK⟩:=lK hI xj hc;obtain⟨rfl,rfl⟩:=hcr;split at hr
  ·rename_i w hw;cases hr;exact hK (pR (some w)) ⟨u,rfl,A7 _ hw⟩
  ·cases hr
 ·rename_i h' hc;obtain⟨x,h2,hcr,_,hK⟩:=lK hI xj hc;obtain⟨rfl,rfl⟩:=hcr;cases hr;exact hK (pR none) rfl
 ·cases hr
theorem Bd (hE:EOk E){f:FuncId}{args args':List AVal}{rs:List Nat}{v:AVal}{h:EH}(hm:bD (gJ h 40) args=some (args',rs))(hc:ae E.P E.G f args' bU fun r H'=>∃ u,r=.ret u/\Fresh H' u v)
  (H2:AHeap) (ha:∀ r,r∈rs->H2.get r=(aq h).get r):ae E.P E.G f args H2 fun r H'=>r=.ret v/\H'=H2:=by
 obtain⟨h1,h2⟩:=mQ hm;exact ae.frame hE.gok h1 (fun i hi hi'=>let ⟨ri,h3,h4⟩:=h2 i hi hi';A6 40 h3 H2 fun r hr=>ha r (h4 r hr)) hc
theorem Ls (hE:EOk E)(hI:fS E ih){f:FuncId}{first cap args:List AVal}{h:EH}{r:RR}(hv:VH h)(hr:wQ E ih f first cap args h=some r):xh E f (first++args++cap) h r:=by
 unfold wQ at hr;split at hr
 ·rw[ig]at hr;split at hr
  ·exact lK hI hv hr
  ·rename_i l hl;unfold AA at hr;split at hr
   ·cases hr
   ·rename_i p hm;split at hr
    ·rename_i v hk;have:r=.ret v h:=(Option.some.inj hr).symm;subst this;refine⟨.ret v,h,⟨rfl,rfl⟩,hv,fun K hK=>?_⟩;exact(Bd hE hm (hE.known f l hl _ _ (A9 hk)) (aq h) fun _ _=>rfl).mono fun x H' ⟨h1,h2⟩=>by rw[h1,h2];exact hK
    ·exact lK hI hv hr
 ·rename_i z hz;rw[ig]at hr;unfold Aw at hr;split at hr
  ·rename_i g cap2 heq;rw[heq];split at hr
   ·rename_i p hm;obtain⟨hlt,hr⟩:=fK hr;have hview:∀ H2:AHeap,(∀ id,id<(aq h).next->H2.get id=(aq h).get id)->∀ i (h:i<cap2.length) (h':i<p.1.length),Fz (fun _=>True) H2 0 cap2[i] p.1[i]:=fun H2 ha i hi hi'=>by
     obtain⟨_,h2⟩:=mQ hm;obtain⟨ri,h3,h4⟩:=h2 i hi hi';refine A6 40 h3 H2 fun r hr=>ha r ?_;have:=Sg.1 hlt r (h4 r hr);rw[UK]at this;exact this
    unfold Av at hr;split at hr
    ·rename_i u hgo;obtain⟨hok,hr⟩:=fK hr;have:r=.ret (.tup [u,.lit (.int .i64 0)]) h:=(Option.some.inj hr).symm;subst this;refine⟨_,h,⟨rfl,rfl⟩,hv,fun K hK=>?_⟩;exact(hE.gd f z hz g cap2 p.1 (aq h) (some u) (mQ hm).1 hview (fun _ h=>by cases h;exact hok) (Bc hI hgo)).mono fun x H' ⟨h1,h2⟩=>by rw[h1,h2];exact hK
    ·rename_i hgo;have:r=.ret (.tup [z.z,.lit (.int .i64 6)]) h:=(Option.some.inj hr).symm;subst this;refine⟨_,h,⟨rfl,rfl⟩,hv,fun K hK=>?_⟩;exact(hE.gd f z hz g cap2 p.1 (aq h) none (mQ hm).1 hview (fun _ h=>by cases h) (Bc hI hgo)).mono fun x H' ⟨h1,h2⟩=>by rw[h1,h2];exact hK
    ·cases hr
   ·cases hr
  ·cases hr
theorem qH {h:EH}{id:Nat}{st:LoopState}{pend:Option Code}{n:Nat}{env:BT AVal}{ps:Array Tmp}{asg body:Code}(hg:aQ h.hp id=some (.loop st pend n env ps asg body)):
  (aq h).get id=some (.loop st pend n (aD env) ps asg body):=by
 show Option.map EBlk.jW (aQ h.hp id)=_;rw[hg];rfl
theorem VH.set {h:EH}(hv:VH h){hp:BT EBlk}{id:Nat}{b:EBlk}(hs:∀ m,aQ hp m=if m=id then some b else aQ h.hp m)(hid:id<h.nx):VH ⟨hp,h.nx⟩:=by
 intro j x hj;rw[hs]at hj;show j<h.nx;split at hj
 ·omega
 ·exact hv _ _ hj
theorem xk {h:EH}{hp:BT EBlk}{id:Nat}{b:EBlk}(hs:∀ m,aQ hp m=if m=id then some b else aQ h.hp m):aq ⟨hp,h.nx⟩=(aq h).upd id b.jW:=by
 rw[tD (nx:=h.nx) hs];rfl
theorem Lt (hI:fS E ih){id:Nat}{args:List AVal}{h:EH}{r:RR}(hv:VH h)(hr:wO ih id args h=some r):xi E (.yld id) args h r:=by
 unfold wO at hr;split at hr
 ·rename_i pend n env ps asg body hg;obtain ⟨hok,hr1⟩:=fK hr;unfold Az at hok;simp only [RU] at hok;obtain ⟨hokB,hf1,hf2,hps⟩:=hok;obtain ⟨e0,hr2,hlen,he0⟩:=Lm hr1;have hget:=qH hg;have hid : id<h.nx:=hv _ _ hg
    -- the rule of a round
  have rule:∀ K:ARes->AHeap->Prop,W E.P E.G n (some id) asg (Ak E.P E.G n id body K) ⟨aD e0,aq h⟩->az E.P E.G (.yld id) args (aq h) K:=fun K hW=>by
   refine az.yld hget (by simpa using hlen) hps ?_;rw[Lp hokB,<- he0];exact hW
  unfold Ax at hr2;split at hr2
  ·rename_i e1 h1 hi;obtain⟨x,e2,h2,h3,h4,h5⟩:=hI _ _ _ _ _ _ hi hv hf1;cases h3;split at hr2
   ·rename_i pend2 n2 env2 ps2 asg2 body2 hg1;obtain ⟨hp1,hr3,hs1⟩:=lH _ _ _ _ _ hr2;have hget1:=qH hg1;have hv1 : VH ⟨hp1,h1.nx⟩:=h4.set hs1 (h4 _ _ hg1);have hup1:=xk (h:=h1) hs1;have mk : ∀ (x2 : AX) (e3 : BT AVal) (h3 : EH) (st : LoopState) (pd : Option Code) (b : Bool),ih (some id) n body e1 ⟨hp1,h1.nx⟩=some (.ev x2 e3 h3)→qw id st pd b h3=some r →
      (∀ K:ARes->AHeap->Prop,vA id K x2 ⟨aD e3,aq h3⟩=aR (ll st pd ((aq h3).get id)) fun blk=>K (.ret (.lit (.bool b))) ((aq h3).upd id blk))->xi E (.yld id) args h r:=by
     intro x2 e3 h3 st pd b hi2 hre hq;obtain⟨x',e',h',h6,h7,h8⟩:=hI _ _ _ _ _ _ hi2 hv1 hf2;cases h6;unfold qw at hre;split at hre
     ·rename_i n3 env3 ps3 asg3 body3 hg3;obtain⟨hp3,hr4,hs3⟩:=lH _ _ _ _ _ hre;have hr5:r=.ret (.lit (.bool b)) ⟨hp3,h3.nx⟩:=(Option.some.inj hr4).symm;subst hr5;have hup3:=xk (h:=h3) hs3;refine⟨_,_,⟨rfl,rfl⟩,h7.set hs3 (h7 _ _ hg3),fun K hK=>rule K (h5 _ ?_)⟩;refine⟨_,by rw[hget1];rfl,?_⟩;have hbusy:(aq h1).upd id (.loop .busy pend2 n2 (aD env2) ps2 asg2 body2)=aq ⟨hp1,h1.nx⟩:=hup1.symm;show W E.P E.G n (some id) body (vA id K) ⟨aD e1,(aq h1).upd id (.loop .busy pend2 n2 (aD env2) ps2 asg2 body2)⟩;rw[hbusy];refine h8 _ ?_;rw[hq];refine⟨.loop st pd n3 (aD env3) ps3 asg3 body3,by rw[qH hg3];rfl,?_⟩;rw[hup3]at hK;exact hK
     ·cases hre
    unfold endRound at hr3;split at hr3
    ·rename_i e3 h3 hi2;exact mk _ _ _ _ _ _ hi2 hr3 fun _=>rfl
    ·rename_i e3 h3 hi2;exact mk _ _ _ _ _ _ hi2 hr3 fun _=>rfl
    ·rename_i i e3 h3 hi2;exact mk _ _ _ _ _ _ hi2 hr3 fun _=>rfl
    ·cases hr3
   ·cases hr2
  ·cases hr2
 ·cases hr
theorem Lu (hE:EOk E)(hI:fS E ih){fv:AVal}{args:List AVal}{h:EH}{r:RR}(hv:VH h)(hr:sQ E ih fv args h=some r):xi E fv args h r:=by
 unfold sQ at hr;split at hr
 ·rename_i f first cap
  split at hr
  ·obtain⟨x,h',h1,h2,h3⟩:=Ls hE hI hv hr;exact⟨x,h',h1,h2,fun K hK=>az.clo (h3 K hK)⟩
  ·rename_i e he;unfold AB at hr;split at hr
   ·rename_i hfc;obtain⟨rfl,rfl⟩:=U5.1 hfc;rw[ig]at hr;split at hr
    ·rename_i v hv2;rw[oK]at hr;have:r=.ret v h:=(Option.some.inj hr).symm;subst this;exact⟨_,h,⟨rfl,rfl⟩,hv,fun K hK=>hE.ext f e he _ _ hv2 _ _ hK⟩
    ·cases hr
   ·cases hr
 ·exact Lt hI hv hr
 ·cases hr
theorem tH {h:EH}{rd:Option Nat}(hr:oA h rd=true):dp (aq h) rd:=by
 unfold oA at hr;split at hr
 ·trivial
 ·rename_i id;split at hr
  ·rename_i st pend n env ps asg body hg;exact⟨st,pend,n,aD env,ps,asg,body,qH hg⟩
  ·cases hr
abbrev Rest (r:RR)(KQ:(AX->St->Prop)->St->Prop)(env:BT AVal)(h:EH):Prop :=
 ∃ x e2 h2,r=.ev x e2 h2/\VH h2/\∀ Q:AX->St->Prop,Q x ⟨aD e2,aq h2⟩->KQ Q ⟨aD env,aq h⟩
theorem Lv {P:Program}{H:AHeap}{op:BinOp}{t:TypeId}{x y:Operand}{a b v:AVal}(h:aV P op t x y a b=some v):ia H op a b=none:=by
 cases hn:ia H op a b with
 | none=>rfl
 | some c =>
  exfalso;unfold ia at hn;unfold aV at h;split at hn
  ·cases a<;>simp_all [AVal.bK]
  ·cases a<;>simp_all [AVal.bK]
  ·cases hn
theorem Lw {P:Program}{G:Nat->Option (List AVal)}{rd:Option Nat}{Q:AX->St->Prop}{o:Oper}{K:St->Prop}{s:St}{v:AVal}{H':AHeap}(hop:ag P G s.ρ s.H s.H.next o.op=some (v,H'))(hk:K ⟨aE s.ρ o.dst v,H'⟩):aG P G rd Q o K s:=by
 unfold aG;split
 ·rename_i h;rw[h]at hop;simp [ag]at hop
 ·rename_i h;rw[h]at hop;simp [ag]at hop
 ·rename_i op t x y u h;rw[h]at hop;have hb:(aV P op t x y (af G s.ρ x) (af G s.ρ y)).map (fun v=>(v,s.H))=some (v,H'):=hop;simp only[Rx,Prod.mk.injEq]at hb;obtain⟨v',hb1,_,_⟩:=hb;rw[Lv hb1];exact⟨(v,H'),hop,hk⟩
 ·exact⟨(v,H'),hop,hk⟩
theorem Lx (hE:EOk E)(hI:fS E ih){rd:Option Nat}{o:Oper}{k:BT AVal->EH->R}{env:BT AVal}{h:EH}{r:RR}{KQ:(AX->St->Prop)->St->Prop}(hv:VH h)
  (hk:∀ env' h',VH h'->k env' h'=some r->Rest r KQ env' h') (hr:tt o.op E ih rd o.dst k env h=some r):Rest r (fun Q=>aG E.P E.G rd Q o (KQ Q)) env h:=by
 rcases Li hv hr with ⟨v,env',h',hop,hv',he,hkr⟩|⟨op,t,x,y,u,env',hop,hn,hs,he,hkr⟩|⟨fv,args,ats,hop,hrv⟩|⟨x,hop,hrp⟩
 ·obtain⟨x,e2,h2,h3,h4,h5⟩:=hk _ _ hv' hkr;refine⟨x,e2,h2,h3,h4,fun Q hq=>Lw (v:=v) (H':=aq h') hop ?_⟩;have:=h5 Q hq;rw[he]at this;exact this
 ·obtain⟨x',e2,h2,h3,h4,h5⟩:=hk _ _ hv hkr;refine⟨x',e2,h2,h3,h4,fun Q hq=>?_⟩;unfold aG;rw[hop];simp only;rw[hn];refine⟨hs,fun b hb=>?_⟩;have hb':=hb rfl;subst hb';have:=h5 Q hq;rw[he]at this;cases hnq:(op == BinOp.neq)<;>rw[hnq]at this<;>exact this
 ·unfold wT at hrv;rw [oL,cE] at hrv;unfold AC at hrv;have key : ∀ {x : ARes} {h' : EH} {r0 : RR},sQ E ih (af E.G (aD env) fv) (args.toList.map (af E.G (aD env))) h=some r0→xg r0 x h'→VH h'∧∀ (Q : AX→St→Prop),(dp (aq h') rd∧match (x : ARes) with
    | .ret v=>KQ Q ⟨aE (aD env) o.dst v,aq h'⟩
    | .panic=>Q .panic ⟨aD env,aq h'⟩)->aG E.P E.G rd Q o (KQ Q) ⟨aD env,aq h⟩:=by
   intro x h' r0 happ hc;obtain⟨x2,h2,hc2,hv2,hK⟩:=Lu hE hI hv happ;have hx:x2=x/\h2=h':=by
    cases r0 with
    | ret v h0=>exact⟨hc2.1.trans hc.1.symm,hc2.2.trans hc.2.symm⟩
    | panic h0=>exact⟨hc2.1.trans hc.1.symm,hc2.2.trans hc.2.symm⟩
    | ev=>exact hc.elim
   obtain⟨rfl,rfl⟩:=hx;refine⟨hv2,fun Q hq=>?_⟩;unfold aG;rw[hop];exact hK _ hq
  split at hrv
  ·rename_i v h' happ;obtain⟨hrd,hrv2⟩:=fK hrv;obtain⟨hv',hq⟩:=key happ (x:=.ret v) (h':=h') ⟨rfl,rfl⟩;obtain⟨env',h1,h2⟩:=kC hrv2;obtain⟨x,e2,h3,h4,h5,h6⟩:=hk _ _ hv' h1;refine⟨x,e2,h3,h4,h5,fun Q hQ=>hq Q ⟨tH hrd,?_⟩⟩;have:=h6 Q hQ;rw[h2]at this;exact this
  ·rename_i h' happ;obtain⟨hrd,hrv2⟩:=fK hrv;obtain⟨hv',hq⟩:=key happ (x:=.panic) (h':=h') ⟨rfl,rfl⟩;exact⟨.panic,env,h',(Option.some.inj hrv2).symm,hv',fun Q hQ=>hq Q ⟨tH hrd,hQ⟩⟩
  ·cases hrv
 ·unfold wS at hrp;split at hrp
  ·rename_i t v heq;refine⟨.panic,env,h,(Option.some.inj hrp).symm,hv,fun Q hq=>?_⟩;unfold aG;rw[hop];exact⟨⟨t,v,heq⟩,hq⟩
  ·cases hrp
theorem Be {all:Array Oper}{ρ:Env}{o:Oper}{yes no:R}{r:RR}(hr:oE all ρ o.guard yes no=some r):(dZ all ρ o=some true/\yes=some r)\/(dZ all ρ o=some false/\no=some r):=by
 unfold oE at hr;unfold dZ;cases hg:o.guard with
 | none=>rw[hg]at hr;exact .inl ⟨rfl,hr⟩
 | some jw =>
  obtain⟨j,want⟩:=jw;rw[hg]at hr;have hr2:wV all ρ yes no (j,want)=some r:=hr;unfold wV at hr2;simp only at hr2 ⊢;split at hr2
  ·rename_i d hd;rw[hd];simp only;split at hr2
   ·rename_i b hb;rw[hb];cases hbw:b == want with
    | true=>rw[hbw]at hr2;exact .inl ⟨by show some (b == want)=_;rw[hbw],hr2⟩
    | false=>rw[hbw]at hr2;exact .inr ⟨by show some (b == want)=_;rw[hbw],hr2⟩
   ·rename_i v hnb hb;rw[hb];exact .inr ⟨by cases v<;>first|rfl|exact absurd rfl (hnb _),hr2⟩
   ·cases hr2
  ·rename_i hd;rw[hd];exact .inr ⟨rfl,hr2⟩
theorem Bf (hE:EOk E)(hI:fS E ih){rd:Option Nat}{all:Array Oper}{r:RR}:∀ (l:List Oper) (env:BT AVal) (h:EH),VH h->oG E ih rd all l env h=some r->Rest r (fun Q=>cW E.P E.G rd Q all l) env h:=by
 intro l
 induction l with
 | nil=>exact fun env h hv hr=>⟨.normal,env,h,(Option.some.inj hr).symm,hv,fun Q hq=>hq⟩
 | cons o l ihl =>
  intro env h hv hr;have hr1:oE all (aD env) o.guard (tt o.op E ih rd o.dst (oG E ih rd all l) env h) (eX env o.dst (.lit undef) fun env=>oG E ih rd all l env h)=some r:=hr;rcases Be hr1 with ⟨hw,hr2⟩|⟨hw,hr2⟩
  ·obtain⟨x,e2,h2,h3,h4,h5⟩:=Lx hE hI (KQ:=fun Q=>cW E.P E.G rd Q all l) hv (fun env' h' hv' hk=>ihl env' h' hv' hk) hr2;exact⟨x,e2,h2,h3,h4,fun Q hq=>⟨true,hw,h5 Q hq⟩⟩
  ·obtain⟨env',h1,h2⟩:=kC hr2;obtain⟨x,e2,h2',h3,h4,h5⟩:=ihl env' h hv h1;refine⟨x,e2,h2',h3,h4,fun Q hq=>⟨false,hw,?_⟩⟩;have:=h5 Q hq;rw[h2]at this;exact this
theorem oO {I:Machine->Prop}{P:Program}{m t m1:Machine}(h:StepsIn I P m t)(hs:step P m=.next m1)(hne:m≠t):StepsIn I P m1 t:=by
 cases h with
 | refl=>exact absurd rfl hne
 | head hI h' h'' =>
  rw[hs]at h';cases h';exact h''
theorem tI {b b':Frame}{a a':Act}{k k':List Item}{cs cs':List Frame}{w w':World}(h:k≠k'):lone (b.atR a k) cs w≠lone (b'.atR a' k') cs' w':=by
 intro he;simp only[lone,Machine.mk.injEq,Array.mk.injEq,List.cons.injEq,Goroutine.mk.injEq,Frame.atR,Frame.mk.injEq]at he;exact h he.2.1.1.1.2.2.1
theorem Bg {b b':Frame}{a a':Act}{k k':List Item}{cs cs':List Frame}{w w':World}{u:FrameMode}(h:u≠.run):lone (b.atR a k) cs w≠lone { b'.atR a' k' with mode:=u } cs' w':=by
 intro he;simp only[lone,Machine.mk.injEq,Array.mk.injEq,List.cons.injEq,Goroutine.mk.injEq,Frame.atR,Frame.mk.injEq]at he;exact h he.2.1.1.1.2.2.2.2.1.symm
theorem Ly {id:Nat}:∀ {k k':List Item},exitTo id k=some k'->k'.length<=k.length:=by
 intro k
 induction k with
 | nil=>intro k' h;cases h
 | cons x k ih =>
  intro k' h;have hle:exitTo id k=some k'->k'.length<=(x :: k).length:=fun h=>Nat.le_succ_of_le (ih h);cases x with
  | inBlock id' =>
   simp only[exitTo]at h;split at h
   ·cases h;simp
   ·exact hle h
  | _=>exact hle h
theorem W.Lz {P:Program}{G:Nat->Option (List AVal)}{n:Nat}{rd:Option Nat}{c:Code}{Q:AX->St->Prop}{s:St}(hQ:∀ l s,¬ Q (.goto l) s)(h:W P G n rd c (gi (W P G n rd (.loop c) Q) Q) s):W P G n rd (.loop c) Q s:=by
 intro wb Γ a w rb hs hr b k cs hro hb hrm;have h0:(lone (b.atR a (.code (.loop c) :: k)) cs w).fenced P (dq rb):=fenced_calm hb hrm rfl;obtain⟨e,a₁,w₁,⟨x,s₁,Γ₁,hx,hq,hs₁,E₁,hn₁,hr₁,hf₁⟩,harr⟩:=h wb Γ a w rb hs hr b (.inLoop c :: k) cs hro hb hrm;cases e with
 | normal =>
  cases x with
  | normal =>
   obtain⟨e,a₂,w₂,hp,harr₂⟩:=hq wb Γ₁ a₁ w₁ rb hs₁ hr₁ b k cs hro hb hrm;have hp':=hp.step E₁ hn₁ hf₁ fun t ht=>ht;refine⟨e,a₂,w₂,hp',?_⟩;have start:StepsIn (Machine.fenced P (dq rb)) P (lone (b.atR a (.code (.loop c) :: k)) cs w) (lone (b.atR a₁ (.code c :: .inLoop c :: k)) cs w₁) :=
    .head h0 stepR_loop (StepsIn.trans harr (.one (fenced_calm hb hrm rfl) stepR_inLoop))
   obtain⟨y,s₂,Γ₂,hy,hq₂,_⟩:=hp;have hl:∀ (k':List Item),k'.length<=k.length->Item.code (.loop c) :: k≠k':=fun k' hk' he=>by subst he;simp only[List.length_cons]at hk';omega
   cases e with
   | normal=>exact start.trans (oO harr₂ stepR_loop (tI (hl _ (Nat.le_refl _))))
   | exit id =>
    refine⟨fun k' hk'=>start.trans (oO (harr₂.1 k' hk') stepR_loop (tI (hl _ (Ly hk')))),fun hr2 hk'=>?_⟩;obtain⟨k₁,h1,h2⟩:=harr₂.2 hr2 hk';exact⟨k₁,h1,start.trans (oO h2 stepR_loop (tI (k':=.code (.exit id) :: k₁) (fun he=>by cases he)))⟩
   | goto l=>cases y with
    | goto l'=>exact absurd hq₂ (hQ _ _)
    | _=>exact hy.elim
   | ret =>
    refine⟨fun hr2=>?_,fun hr2=>?_⟩
    ·obtain⟨todo,h1⟩:=harr₂.1 hr2;exact⟨todo,start.trans (oO h1 stepR_loop (Bg (fun he=>by cases he)))⟩
    ·obtain⟨k₁,h1⟩:=harr₂.2 hr2;exact⟨k₁,start.trans (oO h1 stepR_loop (tI (k':=.code .ret :: k₁) (fun he=>by cases he)))⟩
   | panic ch =>
    obtain⟨todo,h1⟩:=harr₂;exact⟨todo,start.trans (oO h1 stepR_loop (Bg (fun he=>by cases he)))⟩
   | outgrown=>cases y<;>exact hy.elim
  | _=>exact hx.elim
 | exit id=>cases x with
  | exit j=>exact⟨_,a₁,w₁,⟨.exit j,s₁,Γ₁,hx,hq,hs₁,E₁,hn₁,hr₁,hf₁⟩,.of_steps (.one h0 stepR_loop) (.pass (x:=.inLoop c) rfl (fun _ _=>.inl (by simp)) harr)⟩
  | _=>exact hx.elim
 | goto id=>cases x with
  | goto j=>exact⟨_,a₁,w₁,⟨.goto j,s₁,Γ₁,hx,hq,hs₁,E₁,hn₁,hr₁,hf₁⟩,.of_steps (.one h0 stepR_loop) (.pass (x:=.inLoop c) rfl (fun _ _=>.inl (by simp)) harr)⟩
  | _=>exact hx.elim
 | ret=>cases x with
  | ret=>exact⟨_,a₁,w₁,⟨.ret,s₁,Γ₁,hx,hq,hs₁,E₁,hn₁,hr₁,hf₁⟩,.of_steps (.one h0 stepR_loop) (.pass (x:=.inLoop c) rfl (fun _ _=>.inl (by simp)) harr)⟩
  | _=>exact hx.elim
 | panic ch=>cases x with
  | panic=>exact⟨_,a₁,w₁,⟨.panic,s₁,Γ₁,hx,hq,hs₁,E₁,hn₁,hr₁,hf₁⟩,.of_steps (.one h0 stepR_loop) (.pass (x:=.inLoop c) rfl (fun _ _=>.inl (by simp)) harr)⟩
  | _=>exact hx.elim
 | outgrown=>cases x<;>exact hx.elim
theorem Bh {b:Nat}{f:FP}{acc:List (Nat × FP)}(h:wX b f acc=true):fG b f acc:=by
 intro p hp hb;have:=Sg.1 h p hp;rw[hb,U4,RU,Sg,Sg]at this;refine⟨fun r hr hr2=>?_,fun r hr hr2=>?_⟩
 ·have:=this.1 r hr;simp [hr2]at this
 ·have:=this.2 r hr;simp [hr2]at this
theorem kW.LA {P:Program}{G:Nat->Option (List AVal)}{fv:AVal}{args:List AVal}{H:AHeap}{v:AVal}{rs:List Nat}(h1:∀ r,r∈rs->r<H.next)
  (h2:∀ H2:AHeap,(∀ r,r∈rs->H2.get r=H.get r)->az P G fv args H2 fun r H3=>r=.ret v/\H3=H2):Ev.kW P G fv args H v (fun _=>none) 0 ⟨[],rs⟩ :=
 ⟨h1,fun r (hr:false=true)=>absurd hr (by decide),fun c hc=>absurd hc (RV _),fun H2 ha _ _=>h2 H2 ha⟩
def oP (E:EP)(fv:AVal)(args:List AVal)(h:EH)(k:AVal->FP->EH->R)(r:RR):Prop :=
 ∃ v e n fp h2,k v fp h2=some r/\VH h2/\aq h2=⟨Ev.cD e (aq h).get,(aq h).next+n⟩/\Ev.kW E.P E.G fv args (aq h) v e n fp
theorem oP.pure {fv:AVal}{args:List AVal}{h:EH}{k:AVal->FP->EH->R}{r:RR}{v:AVal}{rs:List Nat}(hv:VH h)(hk:k v ⟨[],rs⟩ h=some r)(h1:∀ r,r∈rs->r<(aq h).next)
  (h2:∀ H2:AHeap,(∀ r,r∈rs->H2.get r=(aq h).get r)->az E.P E.G fv args H2 fun r H3=>r=.ret v/\H3=H2):oP E fv args h k r :=
 ⟨v,_,0,_,h,hk,hv,rfl,kW.LA h1 h2⟩
theorem Bi {l:List Nat}{n:Nat}(h:(l.all fun r=>Nat.blt r n)=true):∀ r,r∈l->r<n:=fun r hr=>by
 have:=Sg.1 h r hr;rw[UK]at this;exact this
theorem xm (hE:EOk E)(hI:fS E ih){f:FuncId}{first cap args:List AVal}{h:EH}{k:AVal->FP->EH->R}{r:RR}(hv:VH h)(hr:tu E ih f (first++args++cap) h k=some r):oP E (.clo f first cap) args h k r:=by
 obtain⟨kp,hr1,hinv⟩:=lL (fun v acc k r=>LP 40 v acc k r) hr;have hgood:∀ id,id∈kp->oQ h 0 [] kp id:=fun id hid=>(hinv.2 id hid).resolve_left (List.not_mem_nil);have hkn:∀ id,id∈kp->id<h.nx:=fun id hid=>let ⟨_,g,e,c,hg,_⟩:=hgood id hid;hv id _ hg
 unfold AK at hr1;split at hr1
 ·rename_i p hp;obtain⟨hfz,hr2⟩:=fK hr1;obtain⟨hp1,hr3,hget⟩:=LR hr2;have hvs:VH ⟨hp1,h.nx⟩:=by
   intro id b hb;have hb':aQ hp1 id=some b:=hb;rw[hget]at hb';split at hb'
   ·exact hv id b hb'
   ·cases hb'
  unfold AJ at hr3;split at hr3
  ·rename_i v h' hc;obtain⟨x,h2,hcr,hv2,hK⟩:=lK hI hvs hc;obtain⟨rfl,rfl⟩:=hcr;unfold AI at hr3;split at hr3
   ·rename_i lv hle hsame hlv;obtain⟨hi2,hcl⟩:=Bn 40 v [] lv hlv;have hgl:∀ id,id∈lv->oQ h2 h.nx kp lv id:=fun id hid=>(hi2.2 id hid).resolve_left (List.not_mem_nil);have hln:∀ id,id∈lv->id<h2.nx:=fun id hid=>let ⟨_,g,e,c,hg,_⟩:=hgl id hid;hv2 id _ hg
    have hle':h.nx<=h2.nx:=SL hle;obtain⟨t',hr4,hnew⟩:=LW hr3;rw[gK]at hr4;have hKin:∀ id,ik h.nx kp lv id->(id∈kp\/(h.nx<=id/\id<h2.nx/\ee lv id=true)):=by
     rintro id (⟨h1,h3⟩|⟨h1,h3⟩)
     ·exact .inl h3
     ·exact .inr ⟨by omega,hln id h3,j7.2 h3⟩
    obtain⟨hm1,hm2⟩:=mQ hp;have hE1:=Ev.kW.mk (P:=E.P) (G:=E.G) (f:=f) (first:=first) (cap:=cap) (args:=args) (args':=p.1) (v:=v) (H:=aq h) (aq ⟨hp1,h.nx⟩) (aq h2) (fun id=>id∈kp) (ee lv) (kp++p.2) hE.gok
     (fun r hr=>by
      rcases RX.1 hr with hr|hr
      ·exact hkn r hr
      ·exact Bi hfz r hr)
     rfl hle'
     (fun id hid=>by
      obtain⟨_,g,e,c,hg,hcc⟩:=hgood id hid;refine⟨Tn _ hid,?_,?_,g,e,c,lJ hg,fun i hi=>(hcc i hi).mono fun j hj=>hj.elim (fun h=>absurd h.1 (RV _)) fun h=>h.2⟩
      ·show Option.map _ (aQ hp1 id)=Option.map _ (aQ h.hp id);rw[hget,RC hid]
      ·show Option.map _ (aQ h2.hp id)=Option.map _ (aQ h.hp id);rw[<- LV (LO hsame id hid)])
     (fun id hid=>by
      show Option.map _ (aQ hp1 id)=none;rw[hget,RB hid];rfl)
     hm1
     (fun H2 ha i hi hi'=>by
      obtain⟨ri,h3,h4⟩:=hm2 i hi hi';exact LQ hkn 40 h3 H2 fun r hr=>ha r (Ti _ (h4 r hr)))
     (hK _ ⟨rfl,rfl⟩)
     (hcl.mono hKin)
     (fun id h1 h3 h4=>by
      obtain⟨_,g,e,c,hg,hcc⟩:=hgl id (j7.1 h4);exact⟨g,e,c,lJ hg,fun i hi=>(hcc i hi).mono hKin⟩)
    refine⟨v,_,_,_,⟨t',h2.nx⟩,hr4,?_,?_,hE1⟩
    ·intro id b hb;have hb':aQ t' id=some b:=hb;rw[hnew]at hb';show id<h2.nx;split at hb'
     ·rename_i hc;have:Nat.sub h2.nx h.nx=h2.nx - h.nx:=rfl;rw[this]at hc;omega
     ·have:=hv id b hb';omega
    ·have hget2:(aq ⟨t',h2.nx⟩).get=Ev.cD (Ev.jl (aq h).next (aq h2).next (ee lv) (aq h2).get) (aq h).get:=by
      funext m
      show Option.map EBlk.jW (aQ t' m)=_;rw[hnew];have hsub:h.nx+Nat.sub h2.nx h.nx=h2.nx:=by
       have:Nat.sub h2.nx h.nx=h2.nx - h.nx:=rfl;omega
      rw[hsub];unfold Ev.cD Ev.jl;by_cases hc:h.nx<=m/\m<h2.nx
      ·rw[RC hc,RC (show (aq h).next<=m/\m<(aq h2).next from hc)];by_cases hm:ee lv m=true
       ·obtain⟨_,g,e,c,hg,hcc⟩:=hgl m (j7.1 hm);rw[RC hm,RC hm,lJ hg,hg];rfl
       ·rw[RB hm,RB hm];rfl
      ·rw[RB hc,RB (show ¬ ((aq h).next<=m/\m<(aq h2).next) from hc)];rfl
     have hnx:(aq ⟨t',h2.nx⟩).next=(aq h).next+((aq h2).next - (aq h).next):=by
      show h2.nx=h.nx+(h2.nx - h.nx)
      omega
     calc aq ⟨t',h2.nx⟩=⟨(aq ⟨t',h2.nx⟩).get,(aq ⟨t',h2.nx⟩).next⟩:=rfl
      _=_:=by rw[hget2,hnx]
   ·cases hr3
  ·cases hr3
 ·cases hr1
theorem LC (hE:EOk E)(hI:fS E ih){fv:AVal}{args:List AVal}{h:EH}{k:AVal->FP->EH->R}{r:RR}(hv:VH h)(hr:wY E ih fv args h k=some r):oP E fv args h k r:=by
 unfold wY at hr;split at hr
 ·rename_i f first cap
  split at hr
  ·unfold AM at hr;split at hr
   ·cases hr
   ·rw[ig]at hr;split at hr
    ·exact xm hE hI hv hr
    ·rename_i l hl;unfold AL at hr;split at hr
     ·exact xm hE hI hv hr
     ·rename_i p hm;split at hr
      ·rename_i v hf;obtain⟨hlt,hr2⟩:=fK hr;exact oP.pure hv hr2 (Bi hlt) fun H2 ha=>az.clo (Bd hE hm (hE.known f l hl p.1 v (A9 hf)) H2 ha)
      ·exact xm hE hI hv hr
  ·rename_i e he;unfold AH at hr;split at hr
   ·rename_i hfc;obtain⟨rfl,rfl⟩:=U5.1 hfc;rw[ig]at hr;split at hr
    ·rename_i v hv2;exact oP.pure hv hr (fun r hr=>by cases hr) fun H2 _=>hE.ext f e he _ _ hv2 _ _ ⟨rfl,rfl⟩
    ·cases hr
   ·cases hr
 ·cases hr
theorem LD (hE:EOk E)(hI:fS E ih){o:Oper}{b i:Nat}{acc:List (Nat × FP)}{k:oI}{env:BT AVal}{h:EH}{r:RR}{KQ:(AX->St->Prop)->List (Nat × FP)->St->Prop}(hv:VH h)
  (hk:∀ acc env' h',VH h'->k acc env' h'=some r->Rest r (fun Q=>KQ Q acc) env' h') (hr:tw E ih o b i acc k env h=some r):
  Rest r (fun Q s=>Ev.bM E.P E.G o (fun f s'=>fG b f acc/\KQ Q (dx i f acc) s') s) env h:=by
 have gen:∀ {op:Op},o.op=op->tv o.dst b i acc k env (aY E.P E.G (aD env) h.nx op) (mM E env h op) h=some r->(∀ fv args ats,op≠.call ⟨.value fv,args,ats⟩) ->
   Rest r (fun Q s=>Ev.bM E.P E.G o (fun f s'=>fG b f acc/\KQ Q (dx i f acc) s') s) env h:=by
  intro op hop hd hne;unfold tv at hd;obtain⟨hap,hd2⟩:=fK hd;obtain⟨v,h',h1,h2,h3⟩:=AZ hv (tG hv).1 hd2;obtain⟨env',h4,h5⟩:=kC h3;obtain⟨x,e2,h6,h7,h8,h9⟩:=hk _ _ _ h2 h4;refine⟨x,e2,h6,h7,h8,fun Q hq=>?_⟩;have hopA:=(tG hv).2 _ _ h1;have hq2:=h9 Q hq;rw[h5]at hq2;unfold Ev.bM;split
  ·rename_i hop2;exact absurd (hop.symm.trans hop2) (hne _ _ _)
  ·refine⟨(v,aq h'),by rw[hop];exact hopA,?_⟩;rw[hop];exact⟨Bh hap,hq2⟩
 unfold tw at hr;split at hr
 ·rename_i c hop;split at hr
  ·rename_i fv hc;rw[oL,cE]at hr;obtain⟨v,e,n,fp,h2,hr2,hv2,hH,hec⟩:=LC hE hI hv hr;unfold AN at hr2;obtain⟨hap,hd2⟩:=fK hr2;rw[oK]at hd2;obtain⟨env',h4,h5⟩:=kC hd2;obtain⟨x,e2,h6,h7,h8,h9⟩:=hk _ _ _ hv2 h4;refine⟨x,e2,h6,h7,h8,fun Q hq=>?_⟩;have hq2:=h9 Q hq;rw[h5,hH]at hq2;obtain⟨callee,args,ats⟩:=c;simp only at hc;subst hc;unfold Ev.bM;rw[hop];exact⟨v,e,n,fp,hec,Bh hap,hq2⟩
  ·rename_i hne;refine gen hop hr fun fv args ats he=>?_;have he2:c=⟨.value fv,args,ats⟩:=Op.call.inj he;exact hne fv (by rw[he2])
 ·cases hr
 ·rename_i op hne1 hne2;exact gen rfl hr fun fv args ats he=>hne1 _ he
theorem LF (hE:EOk E)(hI:fS E ih){all:Array Oper}{tail:BT AVal->EH->R}{r:RR}{TQ:(AX->St->Prop)->St->Prop}(ht:∀ env h,VH h->tail env h=some r->Rest r TQ env h):
  ∀ (l:List Oper) (bs:List Nat) (i:Nat) (acc:List (Nat × FP)) (env:BT AVal) (h:EH),VH h->tx E ih all tail l bs i acc env h=some r->Rest r (fun Q=>Ev.dk E.P E.G all (TQ Q) bs i acc l) env h:=by
 intro l
 induction l with
 | nil =>
  intro bs i acc env h hv hr;obtain⟨x,e2,h2,h3,h4,h5⟩:=ht env h hv hr;exact⟨x,e2,h2,h3,h4,fun Q hq=>by cases bs<;>exact h5 Q hq⟩
 | cons o l ihl =>
  intro bs i acc env h hv hr;cases bs with
  | nil=>cases hr
  | cons b bs =>
   have hr1:oE all (aD env) o.guard (tw E ih o b i acc (tx E ih all tail l bs (i+1)) env h) (eX env o.dst (.lit undef) fun env=>tx E ih all tail l bs (i+1) acc env h)=some r:=hr;rcases Be hr1 with ⟨hw,hr2⟩|⟨hw,hr2⟩
   ·obtain⟨x,e2,h2,h3,h4,h5⟩:=LD hE hI (KQ:=fun Q acc=>Ev.dk E.P E.G all (TQ Q) bs (i+1) acc l) hv (fun acc env' h' hv' hk=>ihl bs (i+1) acc env' h' hv' hk) hr2;exact⟨x,e2,h2,h3,h4,fun Q hq=>⟨true,hw,h5 Q hq⟩⟩
   ·obtain⟨env',h1,h2⟩:=kC hr2;obtain⟨x,e2,h2',h3,h4,h5⟩:=ihl bs (i+1) acc env' h hv h1;refine⟨x,e2,h2',h3,h4,fun Q hq=>⟨false,hw,?_⟩⟩;have:=h5 Q hq;rw[h2]at this;exact this
theorem Bj {r0:R}{r:RR}(h:oJ r0=some r):r0=some r/\∀ l e h,r≠.ev (.goto l) e h:=by
 unfold oJ at h;split at h
 ·cases h
 ·rename_i hne;subst h;exact⟨rfl,fun l e h he=>hne l e h (by rw[he])⟩
theorem LG (hE:EOk E)(hI:fS E ih):fS E (AQ E ih):=by
 intro rd n c env h r hr hv hf;have seqK:∀ (a:Code) (b:Code),fits n a=true->fits n b=true->qF ih rd n b (ih rd n a env h)=some r ->
   ∃ x env' h',r=.ev x env' h'/\VH h'/\∀ Q:AX->St->Prop,Q x ⟨aD env',aq h'⟩->W E.P E.G n rd a (gi (W E.P E.G n rd b Q) Q) ⟨aD env,aq h⟩:=by
  intro a b hfa hfb hs;unfold qF at hs;split at hs
  ·rename_i e1 h1 hi;obtain⟨x,e2,h2,h3,h4,h5⟩:=hI _ _ _ _ _ _ hi hv hfa;cases h3;obtain⟨x',e',h',h6,h7,h8⟩:=hI _ _ _ _ _ _ hs h4 hfb;exact⟨x',e',h',h6,h7,fun Q hq=>h5 _ (h8 Q hq)⟩
  ·rename_i r0 hne;obtain⟨x,e2,h2,h3,h4,h5⟩:=hI _ _ _ _ _ _ hs hv hfa;subst h3;refine⟨x,e2,h2,rfl,h4,fun Q hq=>h5 _ ?_⟩;cases x with
   | normal=>exact absurd hs (hne _ _)
   | _=>exact hq
 cases c with
 | skip=>exact⟨.normal,env,h,(Option.some.inj hr).symm,hv,fun Q hq=>.skip hq⟩
 | label l=>exact⟨.normal,env,h,(Option.some.inj hr).symm,hv,fun Q hq=>.label hq⟩
 | exit i=>exact⟨.exit i,env,h,(Option.some.inj hr).symm,hv,fun Q hq=>.exit hq⟩
 | ret=>exact⟨.ret,env,h,(Option.some.inj hr).symm,hv,fun Q hq=>.ret hq⟩
 | goto l=>cases hr
 | refuse w=>cases hr
 | region id ops dr =>
  have hr1:Bool.rec (motive:=fun _=>R) (oG E ih rd ops ops.toList env h) (tz E ih rd ops (lC ops.toList []) (qE (lC ops.toList []) ops.toList.length) env h) dr=some r:=hr;cases dr with
  | false =>
   obtain⟨x,e2,h2,h3,h4,h5⟩:=Bf hE hI ops.toList env h hv hr1;exact⟨x,e2,h2,h3,h4,fun Q hq=>.region hf (h5 Q hq)⟩
  | true =>
   have hr2:tz E ih rd ops (lC ops.toList []) (qE (lC ops.toList []) ops.toList.length) env h=some r:=hr1;unfold tz at hr2;obtain⟨hok,hr3⟩:=fK hr2;obtain⟨x,e2,h2,h3,h4,h5⟩:=LF hE hI (TQ:=fun Q=>cW E.P E.G rd Q ops (ops.toList.drop (qE (lC ops.toList []) ops.toList.length))) (fun env h hv hr=>Bf hE hI _ env h hv hr) _ _ _ _ env h hv hr3;exact⟨x,e2,h2,h3,h4,fun Q hq=>Ev.W.Eg _ _ hE.mixed hf hok (h5 Q hq)⟩
 | seq a b =>
  simp only[fits,RU]at hf;obtain⟨x,e2,h2,h3,h4,h5⟩:=seqK a b hf.1 hf.2 hr;exact⟨x,e2,h2,h3,h4,fun Q hq=>.seq (h5 Q hq)⟩
 | cond x a b =>
  simp only[fits,RU]at hf;have hr1:w6 (af E.G (aD env) x) (ih rd n a env h) (ih rd n b env h)=some r:=hr;unfold w6 at hr1;split at hr1
  ·rename_i t ht;cases t with
   | true =>
    obtain⟨y,e2,h2,h3,h4,h5⟩:=hI _ _ _ _ _ _ hr1 hv hf.1;exact⟨y,e2,h2,h3,h4,fun Q hq=>.cond ht (h5 Q hq)⟩
   | false =>
    obtain⟨y,e2,h2,h3,h4,h5⟩:=hI _ _ _ _ _ _ hr1 hv hf.2;exact⟨y,e2,h2,h3,h4,fun Q hq=>.cond ht (h5 Q hq)⟩
  ·cases hr1
 | block id b =>
  have hr1:wZ id (ih rd n b env h)=some r:=hr;unfold wZ at hr1;split at hr1
  ·rename_i i e1 h1 hi;obtain⟨x,e2,h2,h3,h4,h5⟩:=hI _ _ _ _ _ _ hi hv hf;cases h3;cases hb:Nat.beq i id with
   | true =>
    rw[hb]at hr1;have:=RM hb;refine⟨.normal,e1,h1,(Option.some.inj hr1).symm,h4,fun Q hq=>.block (h5 _ ?_)⟩;show (if i=id then Q .normal _ else Q (.exit i) _);rw[RC this];exact hq
   | false =>
    rw[hb]at hr1;have:¬ i=id:=fun h=>by rw[h]at hb;rw[show Nat.beq id id=true from TJ _]at hb;cases hb
    refine⟨.exit i,e1,h1,(Option.some.inj hr1).symm,h4,fun Q hq=>.block (h5 _ ?_)⟩;show (if i=id then Q .normal _ else Q (.exit i) _);rw[RB this];exact hq
  ·rename_i r0 hne;obtain⟨x,e2,h2,h3,h4,h5⟩:=hI _ _ _ _ _ _ hr1 hv hf;subst h3;refine⟨x,e2,h2,rfl,h4,fun Q hq=>.block (h5 _ ?_)⟩;cases x with
   | exit i=>exact absurd hr1 (hne _ _ _)
   | _=>exact hq
 | loop b =>
  have hr1:oJ (qF ih rd n (.loop b) (ih rd n b env h))=some r:=hr;obtain⟨hr2,hng⟩:=Bj hr1;obtain⟨x,e2,h2,h3,h4,h5⟩:=seqK b (.loop b) hf hf hr2;refine⟨x,e2,h2,h3,h4,fun Q hq=>(W.Lz (Q:=fun y t=>y=x/\t=⟨aD e2,aq h2⟩) (fun l s hx=>?_) (h5 _ ⟨rfl,rfl⟩)).mono fun y t ht=>by rw[ht.1,ht.2];exact hq⟩;subst h3;rw[<- hx.1]at hng;exact hng _ _ _ rfl
 | scope b =>
  have hr1:oJ (ih rd n b env h)=some r:=hr;obtain⟨hr2,hng⟩:=Bj hr1;obtain⟨x,e2,h2,h3,h4,h5⟩:=hI _ _ _ _ _ _ hr2 hv hf;subst h3;refine⟨x,e2,h2,rfl,h4,fun Q hq=>.scope (h5 _ ?_)⟩;cases x with
  | goto i=>exact absurd rfl (hng _ _ _)
  | _=>exact hq
 | rangeFunc f ps asg body =>
  have hr1:w7 E ih rd n env h ps asg body (af E.G (aD env) f)=some r:=hr;unfold w7 at hr1;split at hr1
  ·rename_i g first cap hg
   obtain⟨hp1,hr2,hs1⟩:=lH _ _ _ _ _ hr1;rw[ig]at hr2;have hv1:VH ⟨hp1,h.nx+1⟩:=by
    intro j b hj;rw[hs1]at hj;show j<h.nx+1;split at hj
    ·omega
    ·have:=hv _ _ hj;omega
   have hlay:(aq h).lay (aq h).next (.loop .ready none n (aD env) ps asg body)=some (aq ⟨hp1,h.nx+1⟩):=by
    rw[tD (nx:=h.nx+1) hs1];unfold AHeap.lay;rw[RC rfl];rfl
   have rule:∀ Q:AX->St->Prop,ae E.P E.G g (first++[.yld h.nx]++cap) (aq ⟨hp1,h.nx+1⟩) (qj rd Q (aD env) h.nx)->W E.P E.G n rd (.rangeFunc f ps asg body) Q ⟨aD env,aq h⟩ :=
    fun Q hq=>W.rangeFunc hg ⟨_,hlay,hq⟩
   unfold AO at hr2;split at hr2
   ·rename_i v h2 hc;obtain⟨x,h3,hcr,hv3,hK⟩:=lK hI hv1 hc;obtain⟨rfl,rfl⟩:=hcr;obtain⟨hrd,hr3⟩:=fK hr2;split at hr3
    ·cases hr3
    ·rename_i st pend n2 env2 ps2 asg2 body2 hne hg3;obtain⟨hp3,hr4,hs3⟩:=lH _ _ _ _ _ hr3;have hup:=xk (h:=h3) hs3;have hv4:=hv3.set hs3 (hv3 _ _ hg3);have hend:qi ((aq h3).get h.nx)=some (pend,.loop .exhausted pend n2 (aD env2) ps2 asg2 body2):=by
      rw[qH hg3];unfold qi;cases st with
      | busy=>exact(hne rfl).elim
      | _=>rfl
     have fin:∀ x:AX,(∀ Q:AX->St->Prop,Q x ⟨aD env,aq ⟨hp3,h3.nx⟩⟩->Al Q ⟨aD env,aq ⟨hp3,h3.nx⟩⟩ pend)->r=.ev x env ⟨hp3,h3.nx⟩ ->
       ∃ x env' h',r=.ev x env' h'/\VH h'/\∀ Q:AX->St->Prop,Q x ⟨aD env',aq h'⟩->W E.P E.G n rd (.rangeFunc f ps asg body) Q ⟨aD env,aq h⟩:=by
      intro x hx he;refine⟨x,env,_,he,hv4,fun Q hq=>rule Q (hK _ ⟨tH hrd,_,hend,?_⟩)⟩;have:=hx Q hq;rw[hup]at this;exact this
     unfold endLoop at hr4;split at hr4
     ·exact fin .normal (fun Q hq=>hq) (Option.some.inj hr4).symm
     ·exact fin .ret (fun Q hq=>hq) (Option.some.inj hr4).symm
     ·rename_i i;exact fin (.exit i) (fun Q hq=>hq) (Option.some.inj hr4).symm
     ·cases hr4
    ·cases hr3
   ·rename_i h2 hc;obtain⟨x,h3,hcr,hv3,hK⟩:=lK hI hv1 hc;obtain⟨rfl,rfl⟩:=hcr;obtain⟨hrd,hr3⟩:=fK hr2;exact⟨.panic,env,h3,(Option.some.inj hr3).symm,hv3,fun Q hq=>rule Q (hK _ ⟨tH hrd,hq⟩)⟩
   ·cases hr2
  ·cases hr1
theorem LH (hE:EOk E):∀ fuel,fS E (AR E fuel):=by
 intro fuel
 induction fuel with
 | zero=>intro rd n c env h r hr;cases hr
 | succ f ih=>exact LG hE ih
theorem LI (hE:EOk E){fuel:Nat}{f:FuncId}{args:List AVal}{v:AVal}(h:AS E fuel f args=some v):ae E.P E.G f args bU fun r H'=>∃ u,r=.ret u/\Fresh H' u v :=
 Lr (LH hE fuel) h
end
end Go.Hx
namespace Go.Hx
open Go.ChangeShapes Go.WideShapes Go.RowKit
variable {P:Program} {G:Nat->Option (List AVal)}
def iI:au:=fun _=>none
def uN (P:Program)(G:Nat->Option (List AVal))(W:World):Prop:=∀ g cells,G g=some cells->RelV P iI bU W (.vptr cells 0) (.pointer (some ⟨g,0,none⟩))/\∃ c e f,W.heap[g]?=some (.cells c e f)/\c.size=cells.length
theorem D2 {W:World}(hg:uN P G W):RelH P G iI bU W where
 arr _ _ _ _ h:=by cases h
 loop _ _ _ _ _ _ _ _ h:=by cases h
 mp _ _ h:=by cases h
 rsv _ h:=by cases h
 inj _ _ _ _ _ _ _ h:=by cases h
 dom _ _ h:=by cases h
 lt _ _ _ _ h:=by cases h
 next _ _ h:=by cases h
 glob g cells h:=(hg g cells h).1
 gsz g cells h:=(hg g cells h).2
theorem yK (b:Nat):¬ iI.eD b:=fun ⟨_,_,_,h⟩=>by cases h
theorem D3 {f:FuncId}{args:List AVal}{cargs:Array Value}{W:World}(hA:ae P G f args bU fun r H'=>∃ u,r=.ret u/\Fresh H' u (.lit (.bool true)))(hg:uN P G W)(hr:cS P iI bU W args cargs):
  Calls P f cargs W fun e W'=>e=.returned (.bool true)/\RowKit.Below W.heap.size W W'/\∀ a,a.block<W.heap.size->W'.frozen? a=W.frozen? a:=by
 refine callsIn_wide.1 ((hA.2 iI W cargs (D2 hg) hr).mono ?_);rintro e W' ⟨r,H',Γ',hend,⟨u,rfl,hf⟩,_,E,_⟩;cases e with
 | returned cv =>
  have hu:u=.lit (.bool true):=by cases hf;rfl
  subst hu;cases hend;exact⟨rfl,⟨E.os,E.tape,E.output,E.size,fun k hk=>(E.keep k hk (yK k)).1⟩,E.frz⟩
 | panicked=>exact hend.elim
 | outgrown=>exact hend.elim
theorem D4 {W W':World}(hb:RowKit.Below W.heap.size W W')(may:MemPlace->Prop):W.keptBut W' may:=by
 refine⟨hb.os,hb.output,fun i hi=>?_⟩;rw[hb.block i hi];cases h:W.heap[i]? with
 | none=>rfl
 | some o=>cases o<;>first|exact rfl|exact⟨rfl,rfl,rfl,fun _ _=>rfl⟩|exact .inr ⟨rfl,rfl⟩
theorem D5 {H:Type}{enc:TypeId × Value->H}(hl:laidOutB P=true){W W':World}(hb:RowKit.Below W.heap.size W W'){sp:Nat->Bool}:∀ {ts:List TypeId} {vs:List Value} {ds:List (DataW H)} {ps:List MemPlace},
  ts.all (fun t=>P.readableRec t && decide (t<P.types.size))=true->DataW.TrodAll enc P W 0 (fun _=>true) true ts vs ds ps->(∀ x∈ps,x.block<W.heap.size)->(∀ x∈ps,sp x.block=true)->DataW.TrodAll enc P W' 0 sp true ts vs ds ps:=by
 intro ts
 induction ts with
 | nil =>
  intro vs ds ps _ h _ _;cases vs<;>cases ds<;>first|exact h|exact h.elim
 | cons t ts ih =>
  intro vs ds ps hok h hlt hsp;simp only[List.all_cons,RU,decide_eq_true_eq]at hok;cases vs with
  | nil=>cases ds<;>exact h.elim
  | cons v vs=>cases ds with
   | nil=>exact h.elim
   | cons d ds =>
    obtain⟨p,q,h1,h2,rfl⟩:=h;refine⟨p,q,?_,ih hok.2 h2 (fun x hx=>hlt x (by simp [hx])) (fun x hx=>hsp x (by simp [hx])),rfl⟩;exact WideElems.Trod_stays hl hok.1.1 hok.1.2 h1 (fun x hx=>hb.same (hlt x (by simp [hx]))) (fun x hx=>hsp x (by simp [hx]))
theorem D6 {H:Type}{enc:TypeId × Value->H}{W:World}{base:Nat}{sp:Nat->Bool}{held:Bool}:∀ {ts:List TypeId} {vs:List Value} {ds:List (DataW H)} {ps:List MemPlace},
  DataW.TrodAll enc P W base sp held ts vs ds ps->vs.length=ts.length/\ds.length=ts.length:=by
 intro ts
 induction ts with
 | nil =>
  intro vs ds ps h;cases vs<;>cases ds<;>first|exact⟨rfl,rfl⟩|exact h.elim
 | cons t ts ih =>
  intro vs ds ps h;cases vs with
  | nil=>cases ds<;>exact h.elim
  | cons v vs=>cases ds with
   | nil=>exact h.elim
   | cons d ds =>
    obtain⟨p,q,_,h2,_⟩:=h;obtain⟨h3,h4⟩:=ih h2;exact⟨by simp [h3],by simp [h4]⟩
theorem D7 {H:Type}{enc:TypeId × Value->H}{f:Func}{s:ChangeSpec}{apart fresh handsOn again:Bool}{W W':World}{args:Array Value}{ds gs:List (DataW H)}{before:List MemPlace}{t:TypeId}
  (hl:laidOutB P=true) (hok:f.params.toList.all (fun t=>P.readableRec t && decide (t<P.types.size))=true) (hvars:s.vars=[]) (hrt:f.resultTypes=#[t]) (ht:P.underlying t=some .bool)
  (hs:∀ ds:List (DataW H),ds.length=f.params.toList.length->s.fn H (ds++[])={ results:=[.lit (.bool true)],args:=ds })
  (hW:DataW.Whole enc P f.params.toList s.vars apart W args.toList ds gs before) (hb:RowKit.Below W.heap.size W W') (hfz:∀ a,a.block<W.heap.size->W'.frozen? a=W.frozen? a):s.post enc P f apart fresh handsOn again W args (.bool true) W':=by
 have hW':=hW;obtain⟨p,q,hA,hV,rfl,hz,hn⟩:=hW;have hgs:gs=[]/\q=[]:=by
  rw[hvars]at hV;cases gs with
  | nil=>exact⟨rfl,hV⟩
  | cons=>exact hV.elim
 obtain⟨rfl,rfl⟩:=hgs;have hfn:=hs ds (D6 hA).2;have hlt:∀ x∈p,x.block<W.heap.size:=fun x hx=>by simpa using hW'.lt x (by simp [hx])
 have hres:∀ (b:Nat) (sp:Nat->Bool) (hd:Bool),DataW.TrodAll enc P W' b sp hd f.resultTypes.toList ((Value.bool true).resultList f.resultTypes.size) (s.fn H (ds++[])).results []:=fun b sp hd=>by
  rw[hfn,hrt];exact trodAll_mk1 (shut_bool ht true)
 have hargs:∀ sp:Nat->Bool,(∀ x∈p,sp x.block=true)->DataW.TrodAll enc P W' 0 sp true f.params.toList args.toList (s.fn H (ds++[])).args p:=fun sp hsp=>by
  rw[hfn];exact D5 hl hb hok hA hlt hsp
 have hva:∀ sp:Nat->Bool,DataW.TrodVars enc P W' sp s.vars (s.fn H (ds++[])).vars []:=fun sp=>by
  rw[hfn,hvars];exact rfl
 have hpp:p++[]=p:=List.append_nil p;have hold:∀ x∈p,(fun b=>decide (b<W.heap.size)) x.block=true:=fun x hx=>by simpa using hlt x hx
 rw[hpp]at hW' hz hn;refine⟨ds,[],p,[],p,[],hW',hres _ _ _,hargs _ hold,hva _,World.keptBut_mono (fun x hx=>⟨hx,.inr (.inl hx)⟩) (D4 hb _),fun _=>⟨ok_one hrt rfl (okWide_bool_mk ht true),(s.fn H (ds++[])).results++(s.fn H (ds++[])).args,(s.fn H (ds++[])).vars,p,?_,fun x hx _=>hx⟩⟩;have hall:=trodAll_append (hargs (fun _=>true) fun _ _=>rfl) (hres 0 (fun _=>true) true);refine⟨p,[],by simpa using hall,hva _,by simp,fun b off hx=>?_,fun ha=>by simpa using hn ha⟩;rw[hfz _ (hlt _ hx)];exact hz b off hx
end Go.Hx
namespace Go.Hx
variable {P:Program} {G:Nat->Option (List AVal)}
abbrev jv:=List (List AVal × AVal)
def jx (P:Program)(G:Nat->Option (List AVal))(f:FuncId)(l:jv):Prop:=∀ p,p∈l->ae P G f p.1 bU fun r H'=>∃ u,r=.ret u/\Fresh H' u p.2
theorem jx.nil {f:FuncId}:jx P G f []:=fun _ h=>by cases h
theorem jx.cons {f:FuncId}{p:List AVal × AVal}{l:jv}(h:ae P G f p.1 bU fun r H'=>∃ u,r=.ret u/\Fresh H' u p.2)(hl:jx P G f l):jx P G f (p :: l):=fun q hq=>by
 rcases List.mem_cons.1 hq with rfl|hq
 ·exact h
 ·exact hl q hq
theorem jx.append {f:FuncId}{l l':jv}(h:jx P G f l)(h':jx P G f l'):jx P G f (l++l'):=fun q hq=>(RX.1 hq).elim (h q) (h' q)
noncomputable def tJ (l:List (FuncId × jv))(f:FuncId):Option jv :=
 List.rec (motive:=fun _=>Option jv) none (fun p _ ih=>Bool.rec (motive:=fun _=>Option jv) ih (some p.2) (Nat.beq p.1 f)) l
def xq (P:Program)(G:Nat->Option (List AVal)):List (FuncId × jv)->Prop
 | []=>True
 | p :: l=>jx P G p.1 p.2/\xq P G l
theorem LJ:∀ {l:List (FuncId × jv)},xq P G l->∀ f t,tJ l f=some t->jx P G f t:=by
 intro l
 induction l with
 | nil=>intro _ f t h;cases h
 | cons p l ih =>
  intro ha f t h;have h':Bool.rec (motive:=fun _=>Option jv) (tJ l f) (some p.2) (Nat.beq p.1 f)=some t:=h;cases hb:Nat.beq p.1 f with
  | true =>
   rw[hb]at h';have:=RM hb;have h2:p.2=t:=Option.some.inj h';rw[<- this,<- h2];exact ha.1
  | false =>
   rw[hb]at h';exact ih ha.2 f t h'
theorem EOk.LK {E:EP}{l:List (FuncId × jv)}(hk:E.known=tJ l)(gok:fH E.G)(mixed:E.P.follows .mixedOrders=true)
  (gd:∀ f z,E.gd f=some z->Ba E.P E.G f z) (ha:xq E.P E.G l) (hx:oN E:=by exact oN.none rfl):EOk E :=
 ⟨gok,mixed,fun f t h a v hm=>LJ ha f t (by rw[<- hk];exact h) (a,v) hm,gd,hx⟩
noncomputable def xt (E:EP)(fuel:Nat)(f:FuncId)(args:List AVal)(v:AVal):Bool:=match AS E fuel f args with
 | some u=>ow 40 u v
 | none=>false
theorem LL {E:EP}{fuel:Nat}{f:FuncId}{args:List AVal}{v:AVal}(hE:EOk E)(h:xt E fuel f args v=true):ae E.P E.G f args bU fun r H'=>∃ u,r=.ret u/\Fresh H' u v:=by
 unfold xt at h;split at h
 ·rename_i u hu;rw[<- A8 40 _ _ h];exact LI hE hu
 ·cases h
def qI:Nat->Option (List AVal):=fun _=>none
theorem LM:fH qI:=fun _ _ h=>by cases h
theorem LN (W:World):uN P qI W:=fun _ _ h=>by cases h
end Go.Hx
namespace Go.Hx
variable {P:Program} {G:Nat->Option (List AVal)} {Γ Γ':au} {H H':AHeap} {w w':World}
section
variable {n:Nat} {wb:Base} {rd rb:Option Nat} {Q:AX->St->Prop}
end
end Go.Hx
namespace Go.Hx
open Go.ChangeShapes Go.WideShapes Go.RowKit
variable {P:Program} {W:World} {H:Type} {enc:TypeId × Value->H} {spare:Nat->Bool} {held:Bool}
def gH (P:Program)(W:World)(as:List AVal)(cs:List Value):Prop:=cs.length=as.length/\∀ i (h:i<as.length) (h':i<cs.length),RelV P iI bU W as[i] cs[i]
def eQ (enc:TypeId × Value->H)(P:Program)(W:World)(spare:Nat->Bool)(held:Bool)(t:TypeId)(φ:DataW H->List AVal->Prop):Prop :=
 ∀ fuel cs x,DataW.trod enc P W 0 spare held fuel t cs=some x->∃ as,gH P W as cs/\φ x.1 as
theorem gH.nil:gH P W [] []:=⟨rfl,fun i h _=>absurd h (RV _)⟩
theorem gH.one {a:AVal}{c:Value}(h:RelV P iI bU W a c):gH P W [a] [c]:=⟨rfl,fun i hi _=>by
 match i,hi with
 | 0,_=>exact h⟩
theorem gH.append {as bs:List AVal}{cs ds:List Value}(h1:gH P W as cs)(h2:gH P W bs ds):gH P W (as++bs) (cs++ds):=by
 refine⟨by simp [h1.1,h2.1],fun i h h'=>?_⟩;by_cases hi:i<as.length
 ·rw[SI hi,SI (by rw[h1.1];exact hi)];exact h1.2 i hi _
 ·have e:=h1.1;rw[SP (by omega),SP (by omega)];have:=h2.2 (i - as.length) (by simp at h;omega) (by rw[h2.1];simp at h;omega);simpa [e] using this
theorem iP {t:TypeId}{k:IntKind}(ht:P.underlying t=some (.int k)):eQ enc P W spare held t fun d as=>∃ n,d=.lit (.int k n)/\as=[.lit (.int k n)]/\(Lit.int k n).wf=true:=by
 intro fuel cs x h;cases fuel with
 | zero=>simp [DataW.trod]at h
 | succ n =>
  unfold DataW.trod at h;rw[ht]at h;split at h<;>simp_all
  rename_i k' n' _ _;obtain⟨⟨rfl,hw⟩,rfl⟩:=h;exact⟨_,.one (.lit _),_,rfl,rfl,hw⟩
theorem zB:∀ {rows:List (List AVal)} {css:List (List Value)},css.length=rows.length->(∀ i (h:i<rows.length) (h':i<css.length),gH P W rows[i] css[i])->gH P W rows.flatten css.flatten:=by
 intro rows
 induction rows with
 | nil=>intro css h _;obtain rfl:=RT h;exact .nil
 | cons r rows ih =>
  intro css h h'
  match css,h with
  | c :: css,h =>
   simp only[List.flatten_cons];exact(h' 0 (by simp) (by simp)).append (ih (by simpa using h) fun i hi hi'=>h' (i+1) (by simpa using hi) (by simpa using hi'))
theorem zD {α:Type}{Q:Nat->α->Prop}:∀ n,(∀ i,i<n->∃ a,Q i a)->∃ l:List α,l.length=n/\∀ i (h:i<l.length),Q i l[i]:=by
 intro n
 induction n with
 | zero=>intro _;exact⟨[],rfl,fun i h=>absurd h (RV _)⟩
 | succ n ih =>
  intro h;obtain⟨l,hl,hq⟩:=ih fun i hi=>h i (by omega);obtain⟨a,ha⟩:=h n (by omega);refine⟨l++[a],by simp [hl],fun i hi=>?_⟩;by_cases hi':i<l.length
  ·rw[SI hi'];exact hq i hi'
  ·have:i=l.length:=(by simp at hi;omega);subst this;simp only[List.getElem_concat_length];rw[hl];exact ha
theorem Fh {α:Type}{z:Nat}:∀ {rows:List (List α)},(∀ i (h:i<rows.length),rows[i].length=z)->rows.flatten.length=rows.length*z:=by
 intro rows
 induction rows with
 | nil=>intro _;simp
 | cons r rows ih =>
  intro h;have h0:=h 0 (by simp);have:=ih fun i hi=>h (i+1) (by simpa using hi);simp only[Sl]at h0;simp only[List.flatten_cons,List.length_append,List.length_cons,this,h0,UP];omega
theorem Fi {α:Type}{z:Nat}:∀ {rows:List (List α)},(∀ i (h:i<rows.length),rows[i].length=z)->∀ i j (hi:i<rows.length) (hj:j<z),rows.flatten[i*z+j]?=(rows[i])[j]?:=by
 intro rows
 induction rows with
 | nil=>intro _ i j hi;exact absurd hi (RV _)
 | cons r rows ih =>
  intro h i j hi hj;have h0:=h 0 (by simp);simp only[Sl]at h0;cases i with
  | zero=>simp only[List.flatten_cons,Sl,TB,Nat.zero_add];rw[Si (by omega)]
  | succ i =>
   simp only[List.flatten_cons,Tf];rw[Sb (by rw[h0,UP];omega),<- ih (fun i hi=>h (i+1) (by simpa using hi)) i j (by simpa using hi) hj];congr 1;rw[h0,UP];omega
def zE (φ:DataW H->List AVal->Prop)(ds:List (DataW H))(rows:List (List AVal)):Prop:=ds.length=rows.length/\∀ i (h:i<rows.length) (h':i<ds.length),φ ds[i] rows[i]
theorem zF {t e:TypeId}{φ:DataW H->List AVal->Prop}(ht:P.underlying t=some (.slice e))(hz:0<P.cellsOf e)(he:eQ enc P W spare held e φ):
  eQ enc P W spare held t fun d as=>(d=.nil/\as=[.vec 0 []])\/∃ ds rest rows,d=.slice ds rest/\as=[.vec rows.length rows.flatten]/\zE φ ds rows/\(∀ i (h:i<rows.length),rows[i].length=P.cellsOf e)/\rows.length<=maxLen:=by
 intro fuel cs x h;rcases DataW.trod_slice ht h with ⟨rfl,rfl⟩|⟨a,len,cap,elems,rest,n,rfl,rfl,rfl,_,hl,hm,hlen,hel,_,_⟩
 ·exact⟨_,.one (.vec0 _ _),.inl ⟨rfl,rfl⟩⟩
 have hrow:∀ i,i<len->∃ p:List Value × List AVal,W.cells? 0 (a.add (i*P.cellsOf e)) (P.cellsOf e)=some p.1/\gH P W p.2 p.1/\∃ x,elems[i]?=some x/\φ x.1 p.2:=by
  intro i hi;have:=hel i hi;rw[Rz (by omega),RD]at this;obtain⟨cs,hc,hx⟩:=this;obtain⟨as,ha,hφ⟩:=he _ _ _ hx;exact⟨(cs,as),hc,ha,_,Rz (by omega),hφ⟩
 obtain⟨l,hll,hQ⟩:=zD len hrow;have hzr:∀ i (h:i<(l.map Prod.snd).length),(l.map Prod.snd)[i].length=P.cellsOf e:=by
  intro i h;simp only[RJ]at h;simp only[RQ];obtain⟨hc,hr,_⟩:=hQ i h;rw[<- hr.1];exact(World.cells?_some hc).2.1
 have hzc:∀ i (h:i<(l.map Prod.fst).length),(l.map Prod.fst)[i].length=P.cellsOf e:=by
  intro i h;simp only[RJ]at h;simp only[RQ];exact(World.cells?_some (hQ i h).1).2.1
 refine⟨[.vec (l.map Prod.snd).length (l.map Prod.snd).flatten],.one ?_,.inr ⟨_,_,l.map Prod.snd,rfl,rfl,⟨by simp [hll,hlen],fun i h h'=>?_⟩,hzr,by simp only[RJ];omega⟩⟩
 ·rcases Ui len with h0|h0
  ·subst h0;obtain rfl:=RT hll;exact .vec0 _ _
  have hrc:gH P W (l.map Prod.snd).flatten (l.map Prod.fst).flatten:=zB (by simp) fun i h h'=>by
   simp only[RJ]at h;simp only[RQ];exact(hQ i h).2.1
  have hla:(l.map Prod.snd).length=len:=by simp [hll]
  have hsp:∀ i,i<len->∀ j,j<P.cellsOf e->∃ v,W.cell? ((a.add (i*P.cellsOf e)).add j)=some v/\(l.map Prod.fst).flatten[i*P.cellsOf e+j]?=some v:=by
   intro i hi j hj;obtain⟨hc,_⟩:=hQ i (by omega);obtain⟨_,hcl,hcell⟩:=World.cells?_some hc;refine⟨(l[i]'(by omega)).1[j]'(by omega),?_,?_⟩
   ·rw[hcell j hj,Rz]
   ·rw[Fi hzc i j (by simp;omega) hj];simp only[RQ];rw[Rz]
  have hspot:a.spot=none:=by
   obtain⟨v,hv,_⟩:=hsp 0 h0 0 hz;unfold World.cell? at hv;split at hv
   ·split at hv
    ·cases hv
    ·rename_i hs;simpa [Addr.add] using hs
   ·cases hv
  obtain⟨b,off,spot⟩:=a;simp only at hspot;subst hspot;have hadd:∀ (b off n:Nat),(⟨b,off,none⟩:Addr).add n=⟨b,off+n,none⟩:=by
   intro b off n;unfold Addr.add;by_cases hn:n=0
   ·subst hn;simp
   ·simp [hn]
  have hlt:b<W.heap.size:=by
   obtain⟨v,hv,_⟩:=hsp 0 h0 0 hz;rw[hadd,hadd]at hv;unfold World.cell? at hv;rcases RP b W.heap.size with h|h
   ·exact h
   ·rw[S5 h]at hv;cases hv
  rw[hla];refine .vec (yK b) hlt hl hrc.1 (fun i hi=>?_) fun i h h'=>hrc.2 i h h';have hlc:=Fh hzc;simp only[RJ,hll]at hlc;have hi':i<len*P.cellsOf e:=by omega
  obtain⟨v,hv,hg⟩:=hsp (i / P.cellsOf e) (Nat.div_lt_of_lt_mul (by rw[Ux];exact hi')) (i % P.cellsOf e) (Nat.mod_lt _ hz);have hdm:i / P.cellsOf e*P.cellsOf e+i % P.cellsOf e=i:=by rw[Ux];exact Nat.div_add_mod _ _
  rw[hdm]at hg;rw[Rz hi]at hg;rw[Option.some.inj hg,<- hv,hadd,hadd];congr 2;omega
 ·simp only[RJ]at h h';obtain⟨_,_,y,hy,hφ⟩:=hQ i h;simp only[RQ];rw[Rz h']at hy;rw[Option.some.inj hy];exact hφ
theorem p6 {t:TypeId}{fs:Array Field}{φ:Nat->DataW H->List AVal->Prop}(ht:P.underlying t=some (.struct fs))
  (hlay:∀ cs:List Value,cs.length=P.cellsOf t->(fs.toList.map fun f=>(cs.drop f.offset).take (P.cellsOf f.type)).flatten=cs)
  (he:∀ i (h:i<fs.size),eQ enc P W spare held fs[i].type (φ i)):
  eQ enc P W spare held t fun d as=>∃ (ds:List (DataW H)) (rows:List (List AVal)),d=.agg ds/\as=rows.flatten/\ds.length=fs.size/\rows.length=fs.size/\∀ i (h:i<rows.length) (h':i<ds.length),φ i ds[i] rows[i]:=by
 intro fuel cs x h;obtain⟨xs,m,rfl,rfl,hcl,hxl,hel⟩:=DataW.trod_struct ht h;have hrow:∀ i,i<fs.size->∃ as:List AVal,(∀ h:i<fs.size,gH P W as ((cs.drop fs[i].offset).take (P.cellsOf fs[i].type)))/\∃ x,xs[i]?=some x/\φ i x.1 as:=by
  intro i hi;have:=hel i fs[i] (RG hi);rw[Rz (by omega)]at this;obtain⟨as,ha,hφ⟩:=he i hi _ _ _ this;exact⟨as,fun _=>ha,_,Rz (by omega),hφ⟩
 obtain⟨l,hll,hQ⟩:=zD fs.size hrow;refine⟨l.flatten,?_,_,l,rfl,rfl,by simp [hxl],hll,fun i h h'=>?_⟩
 ·rw[<- hlay cs hcl];refine zB (by simp [hll]) fun i h h'=>?_;simp only[RQ,SF];exact(hQ i h).1 (by omega)
 ·obtain⟨_,y,hy,hφ⟩:=hQ i h;simp only[RJ]at h';simp only[RQ];rw[Rz h']at hy;rw[Option.some.inj hy];exact hφ
end Go.Hx
namespace Go.Hx
variable {P:Program} {G:Nat->Option (List AVal)} {H:AHeap}
theorem JU (l:List AVal)(i:Nat):kr (.tup l) i=l[i]?:=rfl
theorem JV (cells:List AVal)(off:Nat):jj H (.vptr cells off)=some (.vptr cells off):=rfl
theorem JW (id gen off:Nat):jj H (.ptr id gen off)=(H.live id gen).map fun _=>.ptr id gen off:=by
 simp only[jj]
theorem JX (t:TypeId)(f:Nat)(id gen off:Nat):oh P H t f (.ptr id gen off)=(bZ P t f).bind fun of=>(H.live id gen).map fun _=>.ptr id gen (off+of.1):=rfl
theorem JY (t:TypeId)(f:Nat)(cells:List AVal)(off:Nat):oh P H t f (.vptr cells off)=(bZ P t f).bind fun of=>some (.vptr cells (off+of.1)):=rfl
def cZ (H:AHeap)(L:List Blk)(e:TypeId)(lo hi:Nat)(v:AVal)(cs:List AVal):Prop :=
 (v=.lit (.slice none 0 0)/\cs=[])\/∃ i g,lo<=i/\i<hi/\v=.own (H.next+i) g 0 cs.length 1/\L[i]?=some (.arr g e cs)
theorem cZ.nil {L:List Blk}{e:TypeId}{lo hi:Nat}:cZ H L e lo hi (.lit (.slice none 0 0)) []:=.inl ⟨rfl,rfl⟩
theorem cZ.keep {L L':List Blk}{e:TypeId}{lo hi lo' hi':Nat}{v:AVal}{cs:List AVal}(h:cZ H L e lo hi v cs)(hl:lo'<=lo)(hh:hi<=hi')(hk:∀ i g,lo<=i->i<hi->L[i]?=some (.arr g e cs)->L'[i]?=L[i]?):
  cZ H L' e lo' hi' v cs:=by
 rcases h with h|⟨i,g,h1,h2,h3,h4⟩
 ·exact .inl h
 ·exact .inr ⟨i,g,by omega,by omega,h3,by rw[hk i g h1 h2 h4];exact h4⟩
theorem cZ.fz {S:Nat->Prop}{L:List Blk}{e:TypeId}{lo hi:Nat}{v:AVal}{cs cs':List AVal}{nx:Nat}(h:cZ H L e lo hi v cs)(hS:∀ i,S (H.next+i))(hl:cs'.length=cs.length)
  (hc:∀ i (h:i<cs.length) (h':i<cs'.length),Fz S (ext H L) nx cs[i] cs'[i]):Fz S (ext H L) nx v (.vec cs'.length cs'):=by
 rcases h with ⟨rfl,rfl⟩|⟨i,g,_,_,rfl,h4⟩
 ·obtain rfl:=RT hl;exact .nil
 ·rw[hl];have hi:i<L.length:=by
   rcases RP i L.length with h'|h'
   ·exact h'
   ·rw[RF h']at h4;cases h4
  refine .frz (hS i) (by rw[bk H L i hi];exact h4) (by omega) fun j hj h2 h'=>?_;simp only[Nat.zero_add]at h2 ⊢;exact hc j h2 h'
end Go.Hx
namespace Go.Hx
variable {P:Program} {G:Nat->Option (List AVal)} {H:AHeap}
def vK (P:Program)(s d:TypeId)(x:Bool)(y:Option TypeDesc)(v:AVal):Option AVal :=
 if x=true then (match y,v with
  | some (.int k'),.lit (.int _ a)=>some (.lit (.int k' (k'.wrap a)))
  | _,_=>jP P s d v) else jP P s d v
theorem JZ (s d:TypeId)(v:AVal):jP P s d v=vK P s d (P.underlying s).isSome (P.underlying d) v:=by
 unfold vK;split
 ·rename_i hs;split
  ·rename_i k' k a hd;exact G9 hs hd
  ·rfl
 ·rfl
theorem J0 (s d:TypeId)(k k':IntKind)(a:Int):vK P s d true (some (.int k')) (.lit (.int k a))=some (.lit (.int k' (k'.wrap a))):=rfl
def Ap (P:Program)(d:Option TypeDesc)(cells:List AVal)(i:Int):Option AVal:=match d with
 | some (.array n e)=>if 0<=i/\i<(n:Int) then dW P e cells (i.toNat*P.cellsOf e) else none
 | _=>none
theorem J4 (t:TypeId)(cells:List AVal)(k:IntKind)(i:Int):kV P t (.agg cells) (.lit (.int k i))=Ap P (P.underlying t) cells i:=rfl
theorem J5 (n:Nat)(e:TypeId)(cells:List AVal)(i:Int):Ap P (some (.array n e)) cells i=if 0<=i/\i<(n:Int) then dW P e cells (i.toNat*P.cellsOf e) else none:=rfl
theorem ao {id g:Nat}{e:TypeId}{c:List AVal}(h:H.get id=some (.arr g e c)):H.live id g=some (e,c):=by
 unfold AHeap.live;rw[h];simp
theorem aL (a:Nat)(x:Blk):(H.upd a x).next=H.next:=rfl
theorem jU {L:List Blk}{id g:Nat}(h:id<H.next):(ext H L).live id g=H.live id g:=by
 unfold AHeap.live;rw[dI H L id h]
def mH (H:AHeap)(L:List Blk)(e1 e0:TypeId)(v:AVal)(rows:List (List AVal)):Prop :=
 ∃ cs:List AVal,cZ H L e1 0 L.length v cs/\cs.length=rows.length/\∀ (j:Nat) (r:List AVal) (c:AVal),rows[j]?=some r->cs[j]?=some c->cZ H L e0 0 L.length c r
theorem mH.nil {L:List Blk}{e1 e0:TypeId}:mH H L e1 e0 (.lit (.slice none 0 0)) []:=⟨[],.nil,rfl,fun j r c h=>by simp at h⟩
theorem cZ.lt {L:List Blk}{e:TypeId}{lo hi i g n z:Nat}{cs:List AVal}(h:cZ H L e lo hi (.own (H.next+i) g 0 n z) cs):i<L.length/\L[i]?=some (.arr g e cs)/\n=cs.length/\z=1:=by
 rcases h with ⟨h,_⟩|⟨j,g2,_,_,h3,h4⟩
 ·cases h
 ·have:=AVal.own.inj h3;obtain rfl:i=j:=by omega
  obtain⟨_,rfl,_,rfl,rfl⟩:=this;refine⟨?_,h4,rfl,rfl⟩;rcases RP i L.length with h|h
  ·exact h
  ·rw[RF h]at h4;cases h4
theorem cZ.vL {L L':List Blk}{e e':TypeId}{lo hi lo' hi':Nat}{v u:AVal}{cs cs':List AVal}(hv:cZ H L e lo hi v cs)(hu:cZ H L e' lo' hi' u cs')(hne:e≠e')(hh:hi'<=L.length)
  (hp:∀ k,k<L.length->(∀ g n,v≠.own (H.next+k) g 0 n 1)->L'[k]?=L[k]?):cZ H L' e' lo' hi' u cs':=by
 refine hu.keep (Nat.le_refl _) (Nat.le_refl _) fun i g h1 h2 h3=>hp i (by omega) fun g' n he=>?_;rcases hv with ⟨rfl,_⟩|⟨j,g2,_,_,rfl,h4⟩
 ·cases he
 ·have hj:j=i:=by
   have:=AVal.own.inj he;omega
  subst hj;rw[h3]at h4;cases h4;exact hne rfl
theorem cZ.my {L:List Blk}{e:TypeId}{lo hi:Nat}{v:AVal}{cs:List AVal}(hv:cZ H L e lo hi v cs):v.one=true:=by
 rcases hv with ⟨rfl,_⟩|⟨_,_,_,_,rfl,_⟩<;>rfl
theorem cZ.J6 {L:List Blk}{e:TypeId}{lo hi:Nat}{v:AVal}{cs:List AVal}(hv:cZ H L e lo hi v cs):v.cells=[v]:=by
 rcases hv with ⟨rfl,_⟩|⟨_,_,_,_,rfl,_⟩<;>rfl
theorem cZ.other {L L':List Blk}{e e':TypeId}{lo hi lo' hi':Nat}{v u:AVal}{cs cs':List AVal}(hv:cZ H L e lo hi v cs)(hu:cZ H L e' lo' hi' u cs')(hne:e≠e')(hh:hi'<=L.length)
  (hp:∀ k,k<L.length->(∀ g n,v≠.own (H.next+k) g 0 n 1)->L'[k]?=L[k]?):cZ H L' e' lo' hi' u cs':=hv.vL hu hne hh hp
theorem cZ.one {L:List Blk}{e:TypeId}{lo hi:Nat}{v:AVal}{cs:List AVal}(hv:cZ H L e lo hi v cs):v.one=true:=hv.my
theorem cZ.cells {L:List Blk}{e:TypeId}{lo hi:Nat}{v:AVal}{cs:List AVal}(hv:cZ H L e lo hi v cs):v.cells=[v]:=hv.J6
theorem mH.keep {L L':List Blk}{e1 e0:TypeId}{v:AVal}{rows:List (List AVal)}(h:mH H L e1 e0 v rows)(hl:L.length<=L'.length)(hk:∀ i,i<L.length->L'[i]?=L[i]?):mH H L' e1 e0 v rows:=by
 obtain⟨cs,c1,c2,c3⟩:=h;exact⟨cs,c1.keep (Nat.le_refl _) hl fun i _ _ hi _=>hk i hi,c2,fun j r c hr hc=>(c3 j r c hr hc).keep (Nat.le_refl _) hl fun i _ _ hi _=>hk i hi⟩
theorem mH.fz {S:Nat->Prop}{L:List Blk}{e1 e0:TypeId}{v:AVal}{rows rows':List (List AVal)}{nx:Nat}(h:mH H L e1 e0 v rows)(hS:∀ i,S (H.next+i))(hl:rows'.length=rows.length)
  (hr:∀ (j:Nat) (r r':List AVal),rows[j]?=some r->rows'[j]?=some r'->r'.length=r.length/\∀ i (h:i<r.length) (h':i<r'.length),Fz S (ext H L) nx r[i] r'[i]):
  Fz S (ext H L) nx v (.vec rows'.length (rows'.map fun r=>.vec r.length r)):=by
 obtain⟨cs,h1,h2,h3⟩:=h;have:=h1.fz (S:=S) (nx:=nx) (cs':=rows'.map fun r=>.vec r.length r) hS (by simp [h2,hl]) fun i hi hi'=>by
  simp only[RQ];have hi2:i<rows.length:=by omega
  have hi3:i<rows'.length:=by omega
  obtain⟨a1,a2⟩:=hr i rows[i] rows'[i] (Rz hi2) (Rz hi3);exact(h3 i rows[i] cs[i] (Rz hi2) (Rz hi)).fz (S:=S) (nx:=nx) (cs':=rows'[i]) hS a1 a2
 rw[RJ]at this;exact this
theorem kA (H:AHeap)(L L':List Blk):ext (ext H L) L'=ext H (L++L'):=by
 unfold ext;simp only[List.length_append];congr 1
 ·funext j
  by_cases h1:H.next+L.length<=j/\j<H.next+L.length+L'.length
  ·rw[RC h1,RC (by omega),Sb (by omega)];congr 1;omega
  ·rw[RB h1];by_cases h2:H.next<=j/\j<H.next+L.length
   ·rw[RC h2,RC (by omega),Si (by omega)]
   ·rw[RB h2,RB (by omega)]
 ·omega
structure Over (H H2:AHeap):Prop where
 next:H.next<=H2.next
 old:∀ id,id<H.next->H2.get id=H.get id
theorem Over.refl (H:AHeap):Over H H:=⟨Nat.le_refl _,fun _ _=>rfl⟩
theorem Over.trans {H H2 H3:AHeap}(a:Over H H2)(b:Over H2 H3):Over H H3 :=
 ⟨So a.next b.next,fun id h=>(b.old id (RL h a.next)).trans (a.old id h)⟩
theorem Over.ext (H:AHeap)(L:List Blk):Over H (ext H L):=⟨by simp [cJ],fun id h=>dI H L id h⟩
theorem Aq {H H2:AHeap}(hc:Clo H)(ho:Over H H2):FzH (fun id=>H.next<=id) H2 H where
 gone id hs:=by
  cases h:H.get id with
  | none=>rfl
  | some b=>have:=hc.lt id b h;omega
 kept id b hs hb:=by
  have hlt:id<H.next:=TP hs;rw[ho.old id hlt]at hb;have hbb:=hc.below id b hb;refine⟨hlt,b,hb,?_⟩;have hno:∀ i,i<H.next->¬ H.next<=i:=fun i h=>Nat.not_le_of_lt h;cases b with
  | rsv=>trivial
  | mp=>rfl
  | arr g e cells=>exact⟨rfl,rfl,rfl,fun i h _=>.refl (hbb i h) hno⟩
  | loop st pend n env ps asg body=>exact⟨rfl,rfl,rfl,rfl,rfl,rfl,rfl,fun t ht=>.refl (hbb t ht) hno⟩
 none id hs hb:=by
  rw[ho.old id (TP hs)]at hb;exact hb
theorem av.cK {H2:AHeap}(hG:fH G)(hc:Clo H)(ho:Over H H2){K:ARes->AHeap->Prop}{v v':AVal}(hv:Fz (fun id=>H.next<=id) H2 H.next v v')(hk:K (.ret v') H):av P G H K v H2 :=
 ⟨v',H,.freeze hG (Aq hc ho) hv,Nat.le_refl _,hk⟩
theorem Fz.old {H H2:AHeap}{nx:Nat}{v:AVal}(h:Below H.next v)(hn:H.next<=nx):Fz (fun id=>H.next<=id) H2 nx v v:=by
 induction h with
 | lit v=>exact .lit v
 | vec _ ih=>exact .vec rfl fun i h _=>ih i h
 | vptr _ ih=>exact .vptr rfl fun i h _=>ih i h
 | agg _ ih=>exact .agg rfl fun i h _=>ih i h
 | tup _ ih=>exact .tup rfl fun i h _=>ih i h
 | clo _ _ ih1 ih2=>exact .clo rfl rfl (fun i h _=>ih1 i h) fun i h _=>ih2 i h
 | own h=>exact .own (by omega) (by omega)
 | ptr h=>exact .ptr (by omega) (by omega)
 | yld h=>exact .yld (by omega) (by omega)
theorem Fz.aH {S:Nat->Prop}{H:AHeap}{nx:Nat}(rows:List (List Int)):Fz S H nx (.vec rows.length (rows.map ab)) (.vec rows.length (rows.map ab)) :=
 .vec rfl fun i h _=>by simp only[RQ];exact .dT _
theorem Fz.env {S:Nat->Prop}{H:AHeap}{nx:Nat}{args args':List AVal}(hl:args'.length=args.length)(h:∀ i (h:i<args.length) (h':i<args'.length),Fz S H nx args[i] args'[i]):∀ t,Fz S H nx (fQ args t) (fQ args' t):=by
 intro t;rw[vw,vw];by_cases ht:t<args.length
 ·rw[Rz ht,Rz (by omega)];exact h t ht (by omega)
 ·rw[RF (by omega),RF (by omega)];exact .lit _
end Go.Hx
namespace Go.Hx
open Go.ChangeShapes Go.WideShapes Go.RowKit
variable {P:Program} {W:World} {H:Type} {enc:TypeId × Value->H} {spare:Nat->Bool} {held:Bool}
theorem eQ.mono {t:TypeId}{φ ψ:DataW H->List AVal->Prop}(h:eQ enc P W spare held t φ)(hm:∀ d as,φ d as->ψ d as):eQ enc P W spare held t ψ:=fun fuel cs x hx =>
 let ⟨as,h1,h2⟩:=h fuel cs x hx;⟨as,h1,hm _ _ h2⟩
def qa (k:IntKind)(l:List Int):List AVal:=l.map fun n=>.lit (.int k n)
theorem zG {α:Type}{φ:DataW H->List AVal->Prop}{f:α->List AVal}{q:α->Prop}(hφ:∀ d as,φ d as->∃ a,as=f a/\q a):∀ {rows:List (List AVal)} {ds:List (DataW H)},zE φ ds rows ->
  ∃ l:List α,rows=l.map f/\∀ a,a∈l->q a:=by
 intro rows
 induction rows with
 | nil=>intro ds _;exact⟨[],rfl,fun a h=>by cases h⟩
 | cons r rows ih =>
  intro ds h;obtain⟨h1,h2⟩:=h;cases ds with
  | nil=>simp at h1
  | cons d ds =>
   obtain⟨a,ha,hq⟩:=hφ _ _ (h2 0 (by simp) (by simp));obtain⟨l,hl,hq2⟩:=ih (ds:=ds) ⟨by simpa using h1,fun i hi hi'=>h2 (i+1) (by simpa using hi) (by simpa using hi')⟩;refine⟨a :: l,by simp only[List.map_cons,<- hl];simp only[Sl]at ha;rw[ha],fun b hb=>?_⟩;rcases List.mem_cons.1 hb with rfl|hb
   ·exact hq
   ·exact hq2 b hb
theorem Fj {α β:Type}(f:α->β)(l:List α):(l.map fun a=>[f a]).flatten=l.map f:=by
 induction l with
 | nil=>rfl
 | cons a l ih=>simp only[List.map_cons,List.flatten_cons,ih];rfl
theorem rW {t e:TypeId}{k:IntKind}(ht:P.underlying t=some (.slice e))(he:P.underlying e=some (.int k))(hc:P.cellsOf e=1):
  eQ enc P W spare held t fun _ as=>∃ l:List Int,as=[.vec l.length (qa k l)]/\l.length<=maxLen/\∀ c,c∈l->(Lit.int k c).wf=true :=
 (zF ht (by omega) (iP he)).mono fun d as h=>by
  rcases h with ⟨_,rfl⟩|⟨ds,rest,rows,_,rfl,hr,_,hl⟩
  ·exact⟨[],rfl,by decide,fun c h=>by cases h⟩
  ·obtain⟨l,rfl,hq⟩:=zG (f:=fun n=>[AVal.lit (.int k n)]) (q:=fun n=>(Lit.int k n).wf=true) (fun d as ⟨n,_,h2,h3⟩=>⟨n,h2,h3⟩) hr;refine⟨l,?_,by simpa using hl,hq⟩;rw[RJ];congr 2;exact Fj _ l
theorem Fk {r:Reach}{b:Nat}{t:TypeId}{v:Value}{d:DataW H}{ps:List MemPlace}{φ:DataW H->List AVal->Prop}(hop:eQ enc P W spare held t φ)
  (ht:(∃ fs,P.underlying t=some (.struct fs))\/∃ n e,P.underlying t=some (.array n e)) (hval:Value.okWide P W r b t v) (hd:DataW.Trod enc P W 0 spare held t v d ps):
  ∃ as,RelV P iI bU W (.agg as) v/\φ d as:=by
 obtain⟨cs,rfl⟩:∃ cs,v=.agg cs:=by
  unfold Value.okWide at hval;rcases ht with ⟨fs,ht⟩|⟨n,e,ht⟩
  ·rw[ht]at hval;obtain⟨cs,h,_⟩:=hval;exact⟨cs,h⟩
  ·rw[ht]at hval;obtain⟨cs,h,_⟩:=hval;exact⟨cs,h⟩
 obtain⟨fuel,hf⟩:=hd;obtain⟨as,hr,hφ⟩:=hop _ _ _ hf;refine⟨as,?_,hφ⟩;have:=RelV.agg (P:=P) (Γ:=iI) (H:=bU) (w:=W) (cells:=as) (cs:=cs.toList) hr.1 hr.2;simpa using this
theorem Fl {r:Reach}{b:Nat}{t:TypeId}{v:Value}{d:DataW H}{ps:List MemPlace}{φ:DataW H->List AVal->Prop}{ψ:AVal->Prop}(hop:eQ enc P W spare held t φ)(h1:∀ d as,φ d as->∃ a,as=[a]/\ψ a)
  (hno:∀ cs,¬ Value.okWide P W r b t (.agg cs)) (hval:Value.okWide P W r b t v) (hd:DataW.Trod enc P W 0 spare held t v d ps):∃ a,RelV P iI bU W a v/\ψ a:=by
 have hc:v.cells.toList=[v]:=by
  cases v with
  | agg cs=>exact absurd hval (hno cs)
  | _=>rfl
 obtain⟨fuel,hf⟩:=hd;rw[hc]at hf;obtain⟨as,hr,hφ⟩:=hop _ _ _ hf;obtain⟨a,rfl,hψ⟩:=h1 _ _ hφ;exact⟨a,hr.2 0 (by simp) (by simp),hψ⟩
theorem Fm {r:Reach}{b:Nat}{t:TypeId}{k:IntKind}(ht:P.underlying t=some (.int k))(cs:Array Value):¬ Value.okWide P W r b t (.agg cs):=fun h=>by
 obtain⟨n,hn⟩:=okWide_int ht h;cases hn
theorem Fo {r:Reach}{b:Nat}{t:TypeId}{k:IntKind}{v:Value}{d:DataW H}{ps:List MemPlace}(ht:P.underlying t=some (.int k))(hval:Value.okWide P W r b t v)(hd:DataW.Trod enc P W 0 spare held t v d ps):
  ∃ n,RelV P iI bU W (.lit (.int k n)) v/\(Lit.int k n).wf=true:=by
 obtain⟨a,h1,n,rfl,h2⟩:=Fl (ψ:=fun a=>∃ n,a=.lit (.int k n)/\(Lit.int k n).wf=true) (iP ht) (fun d as ⟨n,_,h2,h3⟩=>⟨_,h2,n,rfl,h3⟩) (Fm ht) hval hd;exact⟨n,h1,h2⟩
theorem wf_u8 {n:Int}(h:(Lit.int .u8 n).wf=true):0<=n/\n<=255:=by
 simpa [Lit.wf,IntKind.min,IntKind.max,IntKind.signed,IntKind.bits] using h
end Go.Hx
namespace Go.Hx
attribute [go_sem] List.replicate_one List.flatten_cons List.flatten_nil List.length_append List.append_nil Nat.sub_zero Bool.not_true Bool.not_false
attribute [go_sem] Bool.true_eq_false List.map_eq_nil_iff Ah Int.le_refl decide_true decide_false eq_self List.getElem?_map
attribute [go_sem] FW FX FY FZ F1 F4 F5 F6
attribute [go_sem] F7 F8 F9 Ga Gc Gb Gd Ge
attribute [go_sem] Gf Gg Gh Gi FH FI FJ FK
attribute [go_sem] FL FM FN FO FQ FR FS FT
attribute [go_sem] FU FV lh sb vv eU zL FD
attribute [go_sem] FE Gs Gt HC Ht Hv HA HB
attribute [go_sem] List.getElem?_toArray Option.bind_some HD HE HF HG HH HI
attribute [go_sem] HJ HK HL HM HN HO HP HQ
attribute [go_sem] HR HS HT HU HV HW HX HY
attribute [go_sem] HZ H9 Ic Ie If IK vD IL
attribute [go_sem] IM IN Am IP IQ IR IS IT
attribute [go_sem] IU IV IW IX IY IZ I3 List.set_cons_zero
attribute [go_sem] List.set_cons_succ I4 I5 I6 I7 I8 I9 Ja
attribute [go_sem] Jb Jc Jd Je Jf Jg Jh Ji
attribute [go_sem] Jj Jk Jl Jm Jn Jo Jp
attribute [go_sem] qp vG Jq Jr Js Jt Ju
attribute [go_sem] Jv Jw Jx Jy Jz JA JB JC
attribute [go_sem] JD JE JF JG JH JI JJ JK
attribute [go_sem] JL JM JN JO JP JQ JR JS
attribute [go_sem] JT gI bO aa Int.toNat_natCast Int.natCast_nonneg ab List.all_cons
attribute [go_sem] List.all_nil Bool.and_true Nat.mul_one Ig Ih Ii Ik Il
attribute [go_sem] Im Io Ip Iq Ir Is
attribute [go_sem] Iu Iv Ix Iw
attribute [go_sem] Iy Iz IA IB List.take_succ_cons List.take_zero
attribute [go_sem] List.take_nil List.drop_succ_cons List.drop_zero List.drop_nil List.forall_mem_cons List.not_mem_nil List.mem_cons List.mem_singleton
attribute [go_sem] or_false false_or or_true true_or not_or false_implies implies_true forall_const
attribute [go_sem] Gw Gx Gy Gz GA GC GE GF
attribute [go_sem] GG GH GI GJ GK GL GM GN
attribute [go_sem] GO GP GQ GR GS Bool.false_eq_true GT GU
attribute [go_sem] GV GW GX GY GZ G1
attribute [go_sem] G2 G3 builtin_len builtin_append builtin_copy builtin_min builtin_max zR
attribute [go_sem] zS zU G4 G5 zV zX zY zZ
attribute [go_sem] z4 z5 G6 cJ qd z6 Hg z8
attribute [go_sem] Hl z7 Hn Hh List.map_cons List.map_nil if_true if_false
attribute [go_sem] ne_eq not_false_eq_true not_true_eq_false true_and and_true false_and and_false List.length_cons
attribute [go_sem] List.length_nil Nat.zero_add Nat.add_zero Option.isSome_some List.append_assoc List.cons_append List.nil_append Option.map_some
attribute [go_sem] Option.map_none dp vw List.getElem?_cons_zero List.getElem?_cons_succ List.getElem?_nil Option.getD_some Option.getD_none
attribute [go_sem] Gj Gk Gl Gm Gn Gp Gq Gr
attribute [go_sem] JU JV JW Int.natCast_zero Int.cast_ofNat_Int J4 J5
attribute [go_sem] G7 G8 JZ J0 JX JY aM Nat.le_refl
end Go.Hx
namespace Go.Hx
variable {P:Program} {G:Nat->Option (List AVal)} {H H':AHeap}
def AHeap.cut (H:AHeap)(n:Nat):AHeap:=⟨fun j=>if j<n then H.get j else none,H.next⟩
theorem sD {n id:Nat}(h:id<n):(H.cut n).get id=H.get id:=by simp [AHeap.cut,h]
theorem J7 {n id:Nat}(h:n<=id):(H.cut n).get id=none:=by simp [AHeap.cut,Nat.not_lt.2 h]
theorem Over.cut {B:AHeap}(h:Over B H):Over B (H.cut B.next):=⟨h.next,fun id hi=>(sD hi).trans (h.old id hi)⟩
open Classical in
theorem Fz.dead {S:Nat->Prop}{H:AHeap}{nx:Nat}{v:AVal}(h:Below nx v):Fz S H nx v v:=by
 induction h with
 | lit v=>exact .lit v
 | vec _ ih=>exact .vec rfl fun i h _=>ih i h
 | vptr _ ih=>exact .vptr rfl fun i h _=>ih i h
 | agg _ ih=>exact .agg rfl fun i h _=>ih i h
 | tup _ ih=>exact .tup rfl fun i h _=>ih i h
 | clo _ _ ih1 ih2=>exact .clo rfl rfl (fun i h _=>ih1 i h) fun i h _=>ih2 i h
 | @own id _ _ _ _ h=>by_cases hs:S id;exact .deadOwn h hs;exact .own h hs
 | @ptr id _ _ h=>by_cases hs:S id;exact .deadPtr h hs;exact .ptr h hs
 | @yld id h=>by_cases hs:S id;exact .deadYld h hs;exact .yld h hs
theorem J8 (hc:Clo H)(n:Nat):FzH (fun id=>n<=id) H (H.cut n) where
 gone id hs:=J7 hs
 kept id b hs hb:=by
  have hlt:id<n:=TP hs;have hbb:=hc.below id b hb;refine⟨hc.lt id b hb,b,by rw[sD hlt];exact hb,?_⟩;cases b with
  | rsv=>trivial
  | mp=>rfl
  | arr g e cells=>exact⟨rfl,rfl,rfl,fun i h _=>.dead (hbb i h)⟩
  | loop st pend n env ps asg body=>exact⟨rfl,rfl,rfl,rfl,rfl,rfl,rfl,fun t ht=>.dead (hbb t ht)⟩
 none id hs hb:=by rw[sD (TP hs)];exact hb
def aB (lo:Nat)(H:AHeap)(e:TypeId)(v:AVal)(cs:List AVal):Prop :=
 (v=.lit (.slice none 0 0)/\cs=[])\/∃ id g,lo<=id/\id<H.next/\v=.own id g 0 cs.length 1/\H.get id=some (.arr g e cs)
theorem aB.nil {lo:Nat}{e:TypeId}:aB lo H e (.lit (.slice none 0 0)) []:=.inl ⟨rfl,rfl⟩
theorem aB.keep {lo lo':Nat}{e:TypeId}{v:AVal}{cs:List AVal}(h:aB lo H e v cs)(hl:lo'<=lo)(hn:H.next<=H'.next)(hk:∀ id g,lo<=id->id<H.next->H.get id=some (.arr g e cs)->v=.own id g 0 cs.length 1->H'.get id=H.get id):aB lo' H' e v cs:=by
 rcases h with h|⟨id,g,h1,h2,h3,h4⟩
 ·exact .inl h
 ·exact .inr ⟨id,g,by omega,by omega,h3,by rw[hk id g h1 h2 h4 h3];exact h4⟩
theorem aB.over {lo:Nat}{e:TypeId}{v:AVal}{cs:List AVal}(h:aB lo H e v cs)(ho:Over H H'):aB lo H' e v cs:=h.keep (Nat.le_refl _) ho.next fun id _ _ h2 _ _=>ho.old id h2
theorem aB.one {lo:Nat}{e:TypeId}{v:AVal}{cs:List AVal}(h:aB lo H e v cs):v.one=true:=by
 rcases h with ⟨rfl,_⟩|⟨_,_,_,_,rfl,_⟩<;>rfl
theorem aB.cells {lo:Nat}{e:TypeId}{v:AVal}{cs:List AVal}(h:aB lo H e v cs):v.cells=[v]:=by
 rcases h with ⟨rfl,_⟩|⟨_,_,_,_,rfl,_⟩<;>rfl
theorem aB.fz {S:Nat->Prop}{lo nx:Nat}{e:TypeId}{v:AVal}{cs cs':List AVal}(h:aB lo H e v cs)(hS:∀ i,lo<=i->S i)(hl:cs'.length=cs.length)
  (hc:∀ i (h:i<cs.length) (h':i<cs'.length),Fz S H nx cs[i] cs'[i]):Fz S H nx v (.vec cs'.length cs'):=by
 rcases h with ⟨rfl,rfl⟩|⟨id,g,h1,_,rfl,h4⟩
 ·obtain rfl:=RT hl;exact .nil
 ·rw[hl];refine .frz (hS id h1) h4 (by omega) fun j hj h2 h'=>?_;simp only[Nat.zero_add]at h2 ⊢;exact hc j h2 h'
theorem aB.qq {S:Nat->Prop}{lo nx:Nat}{e:TypeId}{v:AVal}{l:List Int}(h:aB lo H e v (ints l))(hS:∀ i,lo<=i->S i):Fz S H nx v (ab l):=by
 have:=h.fz (S:=S) (nx:=nx) (cs':=ints l) hS rfl fun i hi _=>by simp only[ints,RQ];exact .lit _
 rw[bO]at this;exact this
theorem aB.new {e:TypeId}{cs:List AVal}:aB H.next (ext H [.arr 0 e cs]) e (.own H.next 0 0 cs.length 1) cs :=
 .inr ⟨H.next,0,Nat.le_refl _,by simp [cJ],rfl,by simpa using bk H [.arr 0 e cs] 0 (by simp)⟩
theorem eG {b:Blk}{id:Nat}(h:id<H.next):(ext H [b]).get id=H.get id:=dI H [b] id h
theorem cq {b:Blk}:(ext H [b]).get H.next=some b:=by simpa using bk H [b] 0 (by simp)
theorem Ar {n:Nat}{b:Blk}(h:n=H.next):H.lay n b=some (ext H [b]):=by subst h;exact qd H b
theorem As {t e:TypeId}{lo n:Nat}{v:AVal}{cs src:List AVal}{z:List AVal}(ht:P.underlying t=some (.slice e))(hz:P.cellsOf e=1)(hzero:bT P e=some z)(hx:src.all AVal.one=true)
  (hb:(cs.length+src.length)*P.bytesOf e<=2 ^ 46/\cs.length+src.length<=2 ^ 46) (ho:aB lo H e v cs) (hlo:lo<=H.next) (hn:n=H.next):
  ∃ v' H',bF P H n t t v (.vec src.length src)=some (v',H')/\aB lo H' e v' (cs++src)/\H.next<=H'.next/\(∀ k,k<H.next->(∀ g n,v≠.own k g 0 n 1)->H'.get k=H.get k):=by
 have hsrc:cM H 1 (.vec src.length src)=some (src.length,src):=by
  unfold cM;simp
 by_cases h0:src.length=0
 ·have e0:src=[]:=RT h0;subst e0;refine⟨v,H,?_,?_,Nat.le_refl _,fun _ _ _=>rfl⟩
  ·rcases ho with ⟨rfl,rfl⟩|⟨i,g,h1,h2,rfl,h4⟩
   ·unfold bF;rw[ht];simp only[hzero,hz,Option.bind_some];rw[hsrc];rfl
   ·unfold bF;rw[ht];have hl:=ao h4;simp only[hzero,hz,Option.bind_some,hsrc,hl];rw[RC ⟨trivial,trivial,by omega,hb.1,hb.2,rfl⟩];simp
  ·rw[List.append_nil];exact ho
 rcases ho with ⟨rfl,rfl⟩|⟨i,g,h1,h2,rfl,h4⟩
 ·refine⟨.own H.next 0 0 src.length 1,ext H [.arr 0 e src],?_,.inr ⟨H.next,0,hlo,by simp [cJ],by simp,by simpa using cq⟩,by simp [cJ],fun k hk _=>eG hk⟩;unfold bF;rw[ht];simp only[hzero,hz,Option.bind_some,hsrc];rw[RB h0,RC (by simpa using hb),Ar hn,hn];rfl
 ·refine⟨.own i (g+1) 0 (cs.length+src.length) 1,H.upd i (.arr (g+1) e (cs++src)),?_,.inr ⟨i,g+1,h1,h2,by simp,by rw[aj,RC rfl]⟩,Nat.le_refl _,fun k hk hne=>?_⟩
  ·unfold bF;rw[ht];have hl:=ao h4;simp only[hzero,hz,Option.bind_some,hsrc,hl];rw[RC ⟨trivial,trivial,by omega,hb.1,hb.2,hx⟩,RB h0];simp
  ·rw[aj,RB];rintro rfl;exact hne _ _ rfl
theorem mI {t e:TypeId}{lo n:Nat}{v x:AVal}{cs:List AVal}{z:List AVal}(ht:P.underlying t=some (.slice e))(hz:P.cellsOf e=1)(hzero:bT P e=some z)(hx:x.one=true)
  (hb:(cs.length+1)*P.bytesOf e<=2 ^ 46/\cs.length+1<=2 ^ 46) (ho:aB lo H e v cs) (hlo:lo<=H.next) (hn:n=H.next+1):
  ∃ v' H',bF P (ext H [.arr 0 e [x]]) n t t v (.own H.next 0 0 1 1)=some (v',H')/\aB lo H' e v' (cs++[x])/\H.next<=H'.next/\(∀ k,k<H.next->(∀ g n,v≠.own k g 0 n 1)->H'.get k=H.get k):=by
 have hsrc:cM (ext H [.arr 0 e [x]]) 1 (.own H.next 0 0 1 1)=some (1,[x]):=by
  unfold cM;have:=ao (H:=ext H [.arr 0 e [x]]) (g:=0) (cq (b:=.arr 0 e [x]));simp [this]
 have hne:(ext H [Blk.arr 0 e [x]]).next=H.next+1:=rfl;rcases ho with ⟨rfl,rfl⟩|⟨i,g,h1,h2,rfl,h4⟩
 ·refine⟨.own (H.next+1) 0 0 1 1,ext (ext H [.arr 0 e [x]]) [.arr 0 e [x]],?_,.inr ⟨H.next+1,0,by omega,by simp [cJ],by simp,?_⟩,by simp [cJ];omega,fun k hk _=>?_⟩
  ·unfold bF;rw[ht];simp only[hzero,hz,Option.bind_some,hsrc];rw[RB (by decide),RC (by simpa using hb),Ar (by rw[hn,hne]),hn];rfl
  ·rw[<- hne];exact cq
  ·rw[eG (by rw[hne];omega),eG hk]
 ·have h4':(ext H [.arr 0 e [x]]).get i=some (.arr g e cs):=by rw[eG h2];exact h4
  refine⟨.own i (g+1) 0 (cs.length+1) 1,(ext H [.arr 0 e [x]]).upd i (.arr (g+1) e (cs++[x])),?_,.inr ⟨i,g+1,h1,by rw[aL,hne];omega,by simp,by rw[aj,RC rfl]⟩,by rw[aL,hne];omega,fun k hk hne=>?_⟩
  ·unfold bF;rw[ht];have hl:=ao h4';simp only[hzero,hz,Option.bind_some,hsrc,hl];rw[RC ⟨trivial,trivial,by omega,hb.1,hb.2,by simp [hx]⟩];simp
  ·rw[aj,RB,eG hk];rintro rfl;exact hne _ _ rfl
def iR (lo:Nat)(H:AHeap)(e1 e0:TypeId)(v:AVal)(rows:List (List AVal)):Prop :=
 ∃ cs:List AVal,aB lo H e1 v cs/\cs.length=rows.length/\∀ (j:Nat) (r:List AVal) (c:AVal),rows[j]?=some r->cs[j]?=some c->aB lo H e0 c r
theorem iR.nil {lo:Nat}{e1 e0:TypeId}:iR lo H e1 e0 (.lit (.slice none 0 0)) []:=⟨[],.nil,rfl,fun j r c h=>by simp at h⟩
theorem iR.over {lo:Nat}{e1 e0:TypeId}{v:AVal}{rows:List (List AVal)}(h:iR lo H e1 e0 v rows)(ho:Over H H'):iR lo H' e1 e0 v rows:=by
 obtain⟨cs,c1,c2,c3⟩:=h;exact⟨cs,c1.over ho,c2,fun j r c hr hc=>(c3 j r c hr hc).over ho⟩
theorem iR.fz {S:Nat->Prop}{lo nx:Nat}{e1 e0:TypeId}{v:AVal}{rows rows':List (List AVal)}(h:iR lo H e1 e0 v rows)(hS:∀ i,lo<=i->S i)(hl:rows'.length=rows.length)
  (hr:∀ (j:Nat) (r r':List AVal),rows[j]?=some r->rows'[j]?=some r'->r'.length=r.length/\∀ i (h:i<r.length) (h':i<r'.length),Fz S H nx r[i] r'[i]):
  Fz S H nx v (.vec rows'.length (rows'.map fun r=>.vec r.length r)):=by
 obtain⟨cs,h1,h2,h3⟩:=h;have:=h1.fz (S:=S) (nx:=nx) (cs':=rows'.map fun r=>.vec r.length r) hS (by simp [h2,hl]) fun i hi hi'=>by
  simp only[RQ];have hi2:i<rows.length:=by omega
  have hi3:i<rows'.length:=by omega
  obtain⟨a1,a2⟩:=hr i rows[i] rows'[i] (Rz hi2) (Rz hi3);exact(h3 i rows[i] cs[i] (Rz hi2) (Rz hi)).fz (S:=S) (nx:=nx) (cs':=rows'[i]) hS a1 a2
 rw[RJ]at this;exact this
theorem aB.vL {lo lo':Nat}{e e':TypeId}{v u:AVal}{cs cs':List AVal}(hv:aB lo H e v cs)(hu:aB lo' H e' u cs')(hne:e≠e')(hn:H.next<=H'.next)
  (hp:∀ k,k<H.next->(∀ g n,v≠.own k g 0 n 1)->H'.get k=H.get k):aB lo' H' e' u cs':=by
 refine hu.keep (Nat.le_refl _) hn fun i g h1 h2 h3 _=>hp i h2 fun g' n he=>?_;rcases hv with ⟨rfl,_⟩|⟨j,g2,_,_,rfl,h4⟩
 ·cases he
 ·have:=AVal.own.inj he;obtain rfl:j=i:=this.1;rw[h3]at h4;cases h4;exact hne rfl
attribute [go_sem] Int.reduceToNat Int.reduceLE Int.reduceLT Int.reduceAdd Int.reduceSub Int.reduceMul Int.reduceEq Int.reduceNe Nat.reduceEqDiff Nat.reducePow Nat.reduceDiv Nat.reduceMod Nat.reduceAdd Nat.reduceMul Nat.reduceSub Nat.reduceLT Nat.reduceLeDiff reduceIte reduceCtorEq
end Go.Hx
