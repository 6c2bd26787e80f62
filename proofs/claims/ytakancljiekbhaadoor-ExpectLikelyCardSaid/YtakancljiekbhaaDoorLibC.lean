/-
  An evaluator of code on abstract states, made for the kernel. Own work: no program stands in this text.
-/
import Derived.Test.YtakancljiekbhaaDoorLibB
import Derived.ProofKit
import Derived.SevenTiedAt
import Derived.RecoverIn
import Derived.MakeChecks
import Derived.OpenShut
set_option linter.all false
namespace Go.Hx
inductive BT (α:Type) where
 | nil
 | node (v:Option α) (l r:BT α)
inductive EBlk where
 | arr (gen:Nat) (elem:TypeId) (cells:List AVal)
 | loop (st:LoopState) (pend:Option Code) (n:Nat) (env:BT AVal) (ps:Array Tmp) (asg body:Code)
 | mp (es:List (Int × Int))
structure EH where
 hp:BT EBlk
 nx:Nat
inductive RR where
 | ev (x:AX) (env:BT AVal) (h:EH)
 | ret (v:AVal) (h:EH)
 | panic (h:EH)
abbrev R:=Option RR
noncomputable def eL:BT AVal->Nat->Option AVal :=
 BT.rec (motive:=fun _=>Nat->Option AVal) (fun _=>none) (fun v _ _ gl gr n =>
  Nat.rec (motive:=fun _=>Option AVal) v (fun m _=>Nat.rec (motive:=fun _=>Option AVal) (gl (Nat.div m 2)) (fun _ _=>gr (Nat.div m 2)) (Nat.mod m 2)) n)
noncomputable def aS:BT EBlk->Nat->Option EBlk :=
 BT.rec (motive:=fun _=>Nat->Option EBlk) (fun _=>none) (fun v _ _ gl gr n =>
  Nat.rec (motive:=fun _=>Option EBlk) v (fun m _=>Nat.rec (motive:=fun _=>Option EBlk) (gl (Nat.div m 2)) (fun _ _=>gr (Nat.div m 2)) (Nat.mod m 2)) n)
noncomputable def uz:Nat->Nat->AVal->(BT AVal->R)->R :=
 Nat.rec (motive:=fun _=>Nat->AVal->(BT AVal->R)->R) (fun _ _ _=>none) (fun _ ih n x k =>
  Nat.rec (motive:=fun _=>R) (k (.node (some x) .nil .nil)) (fun m _=>Nat.rec (motive:=fun _=>R) (ih (Nat.div m 2) x fun l=>k (.node none l .nil)) (fun _ _=>ih (Nat.div m 2) x fun r=>k (.node none .nil r)) (Nat.mod m 2)) n)
noncomputable def mQ:BT AVal->Nat->AVal->(BT AVal->R)->R :=
 BT.rec (motive:=fun _=>Nat->AVal->(BT AVal->R)->R) (uz 20) (fun v l r sl sr n x k =>
  Nat.rec (motive:=fun _=>R) (k (.node (some x) l r)) (fun m _=>Nat.rec (motive:=fun _=>R) (sl (Nat.div m 2) x fun l=>k (.node v l r)) (fun _ _=>sr (Nat.div m 2) x fun r=>k (.node v l r)) (Nat.mod m 2)) n)
noncomputable def uA:Nat->Nat->EBlk->(BT EBlk->R)->R :=
 Nat.rec (motive:=fun _=>Nat->EBlk->(BT EBlk->R)->R) (fun _ _ _=>none) (fun _ ih n x k =>
  Nat.rec (motive:=fun _=>R) (k (.node (some x) .nil .nil)) (fun m _=>Nat.rec (motive:=fun _=>R) (ih (Nat.div m 2) x fun l=>k (.node none l .nil)) (fun _ _=>ih (Nat.div m 2) x fun r=>k (.node none .nil r)) (Nat.mod m 2)) n)
noncomputable def gF:BT EBlk->Nat->EBlk->(BT EBlk->R)->R :=
 BT.rec (motive:=fun _=>Nat->EBlk->(BT EBlk->R)->R) (uA 20) (fun v l r sl sr n x k =>
  Nat.rec (motive:=fun _=>R) (k (.node (some x) l r)) (fun m _=>Nat.rec (motive:=fun _=>R) (sl (Nat.div m 2) x fun l=>k (.node v l r)) (fun _ _=>sr (Nat.div m 2) x fun r=>k (.node v l r)) (Nat.mod m 2)) n)
noncomputable def dG (n:Nat)(k:Nat->R):R:=Nat.rec (motive:=fun _=>R) (k 0) (fun m _=>k (Nat.succ m)) n
noncomputable def oh (i:Int)(k:Int->R):R:=Int.rec (motive:=fun _=>R) (fun n=>dG n fun n=>k (.ofNat n)) (fun n=>dG n fun n=>k (.negSucc n)) i
noncomputable def yD (b:Bool)(k:Bool->R):R:=Bool.rec (motive:=fun _=>R) (k false) (k true) b
noncomputable def gG:List AVal->(List AVal->R)->R :=
 List.rec (motive:=fun _=>(List AVal->R)->R) (fun k=>k []) (fun x _ ih k=>ih fun l=>k (x :: l))
noncomputable def uB:List (Int × Int)->(List (Int × Int)->R)->R :=
 List.rec (motive:=fun _=>(List (Int × Int)->R)->R) (fun k=>k []) (fun p _ ih k=>Prod.casesOn (motive:=fun _=>R) p fun a b=>oh a fun a=>oh b fun b=>ih fun l=>k ((a,b) :: l))
noncomputable def yE (v:Value)(k:Value->R):R:=match v with
 | .int i n=>oh n fun n=>k (.int i n)
 | .bool b=>yD b fun b=>k (.bool b)
 | v=>k v
noncomputable def yF (v:Value)(k:AVal->R):R:=yE v fun v=>k (.lit v)
noncomputable def yG (n:Nat)(cs:List AVal)(k:AVal->R):R:=dG n fun n=>gG cs fun cs=>k (.vec n cs)
noncomputable def yH (a b c d e:Nat)(k:AVal->R):R:=dG a fun a=>dG b fun b=>dG c fun c=>dG d fun d=>dG e fun e=>k (.own a b c d e)
noncomputable def yI (a b c:Nat)(k:AVal->R):R:=dG a fun a=>dG b fun b=>dG c fun c=>k (.ptr a b c)
noncomputable def yJ (cs:List AVal)(n:Nat)(k:AVal->R):R:=dG n fun n=>gG cs fun cs=>k (.vptr cs n)
noncomputable def yK (cs:List AVal)(k:AVal->R):R:=gG cs fun cs=>k (.agg cs)
noncomputable def yL (cs:List AVal)(k:AVal->R):R:=gG cs fun cs=>k (.tup cs)
noncomputable def yM (f:FuncId)(a b:List AVal)(k:AVal->R):R:=dG f fun f=>gG a fun a=>gG b fun b=>k (.clo f a b)
noncomputable def yO (n:Nat)(k:AVal->R):R:=dG n fun n=>k (.yld n)
noncomputable def kR:AVal->(AVal->R)->R:=fun v=>AVal.casesOn (motive_1:=fun _=>(AVal->R)->R) v yF yG yH yI yJ yK yL yM yO
noncomputable def aF (env:BT AVal):Env:=fun t=>Option.casesOn (motive:=fun _=>AVal) (eL env t) (.lit undef) fun v=>v
noncomputable def EBlk.kS:EBlk->Blk
 | .arr g e c=>.arr g e c
 | .loop st p n env ps a b=>.loop st p n (aF env) ps a b
 | .mp es=>.mp es
noncomputable def aq (h:EH):AHeap:=⟨fun j=>(aS h.hp j).map EBlk.kS,h.nx⟩
noncomputable def fO (env:BT AVal)(d:Option Tmp)(v:AVal)(k:BT AVal->R):R :=
 Option.casesOn (motive:=fun _=>R) d (k env) fun d=>mQ env d v k
noncomputable def yQ (G:Nat->Option (List AVal))(g:Nat)(k:AVal->R):R :=
 Option.casesOn (motive:=fun _=>R) (G g) (k (.lit (.pointer (some ⟨g,0,none⟩)))) fun cells=>gG cells fun cells=>k (.vptr cells 0)
noncomputable def yR (env:BT AVal)(t:Tmp)(k:AVal->R):R:=Option.casesOn (motive:=fun _=>R) (eL env t) (k (.lit undef)) k
noncomputable def cI (G:Nat->Option (List AVal))(env:BT AVal)(x:Operand)(k:AVal->R):R :=
 Operand.casesOn (motive:=fun _=>R) x (fun t=>yR env t k) (fun v=>k (.lit v)) (fun g=>yQ G g k) (fun f=>k (.clo f [] []))
noncomputable def mS (G:Nat->Option (List AVal))(env:BT AVal)(l:List Operand):(List AVal->R)->R :=
 List.rec (motive:=fun _=>(List AVal->R)->R) (fun k=>k []) (fun x _ ih k=>cI G env x fun x=>ih fun l=>k (x :: l)) l
inductive OR where
 | fail
 | val (v:AVal)
 | eff (v:AVal) (r g:Nat) (e:TypeId) (cells:List AVal) (fresh:Bool)
 | effM (v:AVal) (r:Nat) (es:List (Int × Int)) (fresh:Bool)
noncomputable def OR.opt (o:Option AVal):OR:=Option.casesOn (motive:=fun _=>OR) o .fail .val
noncomputable def ss (k:IntKind)(i:Int):Int :=
 match k with
 | .i64=>Int.casesOn (motive:=fun _=>Int) i
   (fun n=>Bool.casesOn (motive:=fun _=>Int) (Nat.ble n 9223372036854775807) (IntKind.i64.wrap (.ofNat n)) (.ofNat n))
   (fun n=>Bool.casesOn (motive:=fun _=>Int) (Nat.ble n 9223372036854775807) (IntKind.i64.wrap (.negSucc n)) (.negSucc n))
 | k=>k.wrap i
noncomputable def su (a b:Int):Bool :=
 Int.casesOn (motive:=fun _=>Bool) a
  (fun m=>Int.casesOn (motive:=fun _=>Bool) b (fun n=>Nat.ble (Nat.succ m) n) fun _=>false)
  (fun m=>Int.casesOn (motive:=fun _=>Bool) b (fun _=>true) fun n=>Nat.ble (Nat.succ n) m)
noncomputable def sx (a b:Int):Bool :=
 Int.casesOn (motive:=fun _=>Bool) a
  (fun m=>Int.casesOn (motive:=fun _=>Bool) b (fun n=>Nat.beq m n) fun _=>false)
  (fun m=>Int.casesOn (motive:=fun _=>Bool) b (fun _=>false) fun n=>Nat.beq m n)
noncomputable def yS (P:Program)(h:EH)(t:TypeId)(a:AVal):Option AVal :=
 match a with
 | .ptr id gen off=>match aS h.hp id with
  | some (.arr g _ cells)=>Bool.casesOn (motive:=fun _=>Option AVal) (Nat.beq g gen) none (eR P t cells off)
  | _=>none
 | .vptr cells off=>eR P t cells off
 | _=>none
noncomputable def qd (P:Program)(h:EH)(t:TypeId)(a v:AVal):OR :=
 match a with
 | .ptr id gen off=>match aS h.hp id with
  | some (.arr g e cells)=>Bool.casesOn (motive:=fun _=>OR) (Nat.beq g gen) .fail
    (if v.cells.length=P.cellsOf t/\v.cells.all AVal.one=true/\off+v.cells.length<=cells.length then .eff (.lit undef) id g e (setAt cells off v.cells) false else .fail)
  | _=>.fail
 | _=>.fail
noncomputable def sy (h:EH)(f:FP)(r:Option (AVal × AHeap)):OR :=
 match r with
 | none=>.fail
 | some (v,H')=>match f.eff with
  | []=>.val v
  | r :: _=>match H'.get r with
   | some (.arr g e c)=>.eff v r g e c (Nat.beq r h.nx)
   | some (.mp es)=>.effM v r es (Nat.beq r h.nx)
   | _=>.fail
noncomputable def yU (h:EH)(k:AVal->EH->R)(o:OR):R :=
 OR.casesOn (motive:=fun _=>R) o none (fun v=>kR v fun v=>k v h)
  (fun v r g e c fresh=>dG r fun r=>dG g fun g=>gG c fun c=>gF h.hp r (EBlk.arr g e c) fun hp=>kR v fun v=>k v ⟨hp,Bool.casesOn (motive:=fun _=>Nat) fresh h.nx (Nat.succ h.nx)⟩)
  (fun v r es fresh=>dG r fun r=>uB es fun es=>gF h.hp r (EBlk.mp es) fun hp=>kR v fun v=>k v ⟨hp,Bool.casesOn (motive:=fun _=>Nat) fresh h.nx (Nat.succ h.nx)⟩)
structure GD where
 z:AVal
 ok:AVal->Bool
structure EP where
 P:Program
 G:Nat->Option (List AVal)
 gd:FuncId->Option GD
  /-- What is known already of a function's calls. -/
 known:FuncId->Option (List (List AVal × AVal))
  /-- What a call of a function without a body comes to. -/
 ext:FuncId->Option (List AVal->Option AVal):=fun _=>none
noncomputable def bX (f:AVal->Option (AVal × List Nat))(l:List AVal):Option (List AVal × List Nat) :=
 List.rec (motive:=fun _=>Option (List AVal × List Nat)) (some ([],[])) (fun x _ r=>match f x,r with
  | some (y,a),some (l,b)=>some (y :: l,a++b)
  | _,_=>none) l
noncomputable def iC (h:EH)(fuel:Nat):AVal->Option (AVal × List Nat) :=
 Nat.rec (motive:=fun _=>AVal->Option (AVal × List Nat)) (fun _=>none) (fun _ ih v=>match v with
  | .lit v=>some (.lit v,[])
  | .vec n c=>(bX ih c).map fun p=>(.vec n p.1,p.2)
  | .vptr c o=>(bX ih c).map fun p=>(.vptr p.1 o,p.2)
  | .agg c=>(bX ih c).map fun p=>(.agg p.1,p.2)
  | .tup c=>(bX ih c).map fun p=>(.tup p.1,p.2)
  | .clo f a b=>match bX ih a,bX ih b with
   | some p,some q=>some (.clo f p.1 q.1,p.2++q.2)
   | _,_=>none
  | .own id g o l z=>match aS h.hp id with
   | some (.arr g' _ cells)=>if g'=g/\o+l*z<=cells.length then (bX ih ((cells.drop o).take (l*z))).map fun p=>(.vec l p.1,id :: p.2) else none
   | _=>none
  | .ptr id g o=>match aS h.hp id with
   | some (.arr g' _ (x :: cells))=>if g'=g then (bX ih (x :: cells)).map fun p=>(.vptr p.1 o,id :: p.2) else none
   | _=>none
  | .yld _=>none) fuel
noncomputable def kT (f:AVal->Option AVal)(l:List AVal):Option (List AVal) :=
 List.rec (motive:=fun _=>Option (List AVal)) (some []) (fun x _ r=>match f x,r with
  | some y,some l=>some (y :: l)
  | _,_=>none) l
noncomputable def oo (h:EH)(fuel:Nat):AVal->Option AVal :=
 Nat.rec (motive:=fun _=>AVal->Option AVal) (fun _=>none) (fun _ ih v=>match v with
  | .lit v=>some (.lit v)
  | .agg c=>(kT ih c).map .agg
  | .tup c=>(kT ih c).map .tup
  | .own id g o l z=>match aS h.hp id with
   | some (.arr g' _ cells)=>if g'=g/\o+l*z<=cells.length then (kT ih ((cells.drop o).take (l*z))).map (.vec l) else none
   | _=>none
  | _=>none) fuel
noncomputable def fY (f:AVal->AVal->Bool)(a:List AVal):List AVal->Bool :=
 List.rec (motive:=fun _=>List AVal->Bool) (fun b=>match b with|[]=>true|_=>false) (fun x _ ih b=>match b with
  | []=>false
  | y :: b=>match f x y with|true=>ih b|false=>false) a
noncomputable def yV (ih:AVal->AVal->Bool)(a b:AVal):Bool:=match a,b with
 | .lit (.int k x),.lit (.int k' y)=>decide (k=k') && sx x y
 | .lit (.bool x),.lit (.bool y)=>x == y
 | .lit (.slice none 0 0),.lit (.slice none 0 0)=>true
 | .vec n c,.vec m d=>Nat.beq n m && fY ih c d
 | .vptr c n,.vptr d m=>Nat.beq n m && fY ih c d
 | .agg c,.agg d=>fY ih c d
 | .tup c,.tup d=>fY ih c d
 | .clo f a b,.clo g c d=>Nat.beq f g && (fY ih a c && fY ih b d)
 | _,_=>false
noncomputable def qf (fuel:Nat):AVal->AVal->Bool:=Nat.rec (motive:=fun _=>AVal->AVal->Bool) (fun _ _=>false) (fun _ ih=>yV ih) fuel
noncomputable def fg (l:List Nat)(n:Nat):Bool:=List.rec (motive:=fun _=>Bool) false (fun x _ ih=>Bool.rec (motive:=fun _=>Bool) ih true (Nat.beq x n)) l
noncomputable def yW (f:Nat->Bool)(l:List Nat):Bool:=List.rec (motive:=fun _=>Bool) true (fun x _ ih=>Bool.rec (motive:=fun _=>Bool) false ih (f x)) l
abbrev KF:=AVal->List Nat->Option (List Nat)
noncomputable def kg (f:KF)(l:List AVal):List Nat->Option (List Nat) :=
 List.rec (motive:=fun _=>List Nat->Option (List Nat)) (fun acc=>some acc) (fun x _ ih acc=>match f x acc with
  | some acc=>ih acc
  | none=>none) l
noncomputable def qg (h:EH)(lo:Nat)(kp:List Nat)(rc:KF)(id:Nat)(acc:List Nat):Option (List Nat) :=
 match Nat.blt id lo with
 | true=>match fg kp id with
  | true=>some acc
  | false=>none
 | false=>match fg acc id with
  | true=>some acc
  | false=>match aS h.hp id with
   | some (.arr _ _ cells)=>kg rc cells (id :: acc)
   | _=>none
noncomputable def kU (h:EH)(lo:Nat)(kp:List Nat)(fuel:Nat):KF :=
 Nat.rec (motive:=fun _=>KF) (fun _ _=>none) (fun _ ih v acc=>match v with
  | .lit _=>some acc
  | .vec 0 []=>some acc
  | .agg c=>kg ih c acc
  | .tup c=>kg ih c acc
  | .clo _ a b=>match kg ih a acc with
   | some acc=>kg ih b acc
   | none=>none
  | .own id _ _ _ _=>qg h lo kp ih id acc
  | .ptr id _ _=>qg h lo kp ih id acc
  | _=>none) fuel
abbrev CF:=AVal->List Nat->(List Nat->R)->R
noncomputable def kV (f:CF)(l:List AVal):List Nat->(List Nat->R)->R :=
 List.rec (motive:=fun _=>List Nat->(List Nat->R)->R) (fun acc k=>k acc) (fun x _ ih acc k=>f x acc fun acc=>ih acc k) l
noncomputable def uC (f:CF)(acc:List Nat)(k:List Nat->R)(b:Option EBlk):R:=match b with
 | some (.arr _ _ cells)=>kV f cells acc k
 | _=>k acc
noncomputable def yX (h:EH)(f:CF)(v:AVal)(acc:List Nat)(k:List Nat->R):R:=match v with
 | .vec _ c=>kV f c acc k
 | .vptr c _=>kV f c acc k
 | .agg c=>kV f c acc k
 | .tup c=>kV f c acc k
 | .clo _ a b=>kV f a acc fun acc=>kV f b acc k
 | .own id _ _ _ _=>uC f acc k (aS h.hp id)
 | .ptr id _ _=>uC f acc k (aS h.hp id)
 | _=>k acc
noncomputable def uD (h:EH)(fuel:Nat):CF:=Nat.rec (motive:=fun _=>CF) (fun _ acc k=>k acc) (fun _ ih v acc k=>match kU h 0 [] 40 v acc with
 | some acc=>k acc
 | none=>yX h ih v acc k) fuel
noncomputable def kh (h:EH)(kp:List Nat)(fuel:Nat):AVal->Option (AVal × List Nat) :=
 Nat.rec (motive:=fun _=>AVal->Option (AVal × List Nat)) (fun _=>none) (fun _ ih v=>match v with
  | .lit v=>some (.lit v,[])
  | .vec n c=>(bX ih c).map fun p=>(.vec n p.1,p.2)
  | .vptr c o=>(bX ih c).map fun p=>(.vptr p.1 o,p.2)
  | .agg c=>(bX ih c).map fun p=>(.agg p.1,p.2)
  | .tup c=>(bX ih c).map fun p=>(.tup p.1,p.2)
  | .clo f a b=>match bX ih a,bX ih b with
   | some p,some q=>some (.clo f p.1 q.1,p.2++q.2)
   | _,_=>none
  | .own id g o l z=>match fg kp id with
   | true=>some (.own id g o l z,[])
   | false=>match aS h.hp id with
    | some (.arr g' _ cells)=>if g'=g/\o+l*z<=cells.length then (bX ih ((cells.drop o).take (l*z))).map fun p=>(.vec l p.1,id :: p.2) else none
    | _=>none
  | .ptr id g o=>match fg kp id with
   | true=>some (.ptr id g o,[])
   | false=>match aS h.hp id with
    | some (.arr g' _ (x :: cells))=>if g'=g then (bX ih (x :: cells)).map fun p=>(.vptr p.1 o,id :: p.2) else none
    | _=>none
  | .yld _=>none) fuel
noncomputable def yY (h:EH)(l:List Nat)(k:BT EBlk->R):BT EBlk->R :=
 List.rec (motive:=fun _=>BT EBlk->R) (fun t=>k t) (fun id _ ih t=>match aS h.hp id with
  | some b=>gF t id b ih
  | none=>none) l
noncomputable def yZ (a b:Value):Bool:=match a,b with
 | .int k x,.int k' y=>decide (k=k') && sx x y
 | .bool x,.bool y=>x == y
 | .slice none 0 0,.slice none 0 0=>true
 | .pointer none,.pointer none=>true
 | _,_=>false
noncomputable def y6 (ih:AVal->AVal->Bool)(a b:AVal):Bool:=match a,b with
 | .lit x,.lit y=>yZ x y
 | .vec n c,.vec m d=>Nat.beq n m && fY ih c d
 | .agg c,.agg d=>fY ih c d
 | .tup c,.tup d=>fY ih c d
 | .clo f a b,.clo g c d=>Nat.beq f g && (fY ih a c && fY ih b d)
 | .own a b c d e,.own a' b' c' d' e'=>Nat.beq a a' && (Nat.beq b b' && (Nat.beq c c' && (Nat.beq d d' && Nat.beq e e')))
 | .ptr a b c,.ptr a' b' c'=>Nat.beq a a' && (Nat.beq b b' && Nat.beq c c')
 | _,_=>false
noncomputable def y7 (fuel:Nat):AVal->AVal->Bool:=Nat.rec (motive:=fun _=>AVal->AVal->Bool) (fun _ _=>false) (fun _ ih=>y6 ih) fuel
noncomputable def y8 (a b:Option EBlk):Bool:=match a,b with
 | some (.arr g e c),some (.arr g' e' c')=>Nat.beq g g' && (Nat.beq e e' && fY (y7 40) c c')
 | _,_=>false
noncomputable def zb (h':EH)(lv:List Nat)(t:BT EBlk)(k:BT EBlk->R)(id:Nat):R:=match fg lv id with
 | true=>match aS h'.hp id with
  | some b=>gF t id b k
  | none=>none
 | false=>gF t id (.arr 0 0 []) k
noncomputable def uE (h':EH)(lv:List Nat)(lo n:Nat):BT EBlk->(BT EBlk->R)->R :=
 Nat.rec (motive:=fun _=>BT EBlk->(BT EBlk->R)->R) (fun t k=>k t) (fun i ih t k=>dG (Nat.add lo i) (zb h' lv t fun t=>ih t k)) n
noncomputable def uF (k:BT AVal->R)(l:List AVal):Nat->BT AVal->R :=
 List.rec (motive:=fun _=>Nat->BT AVal->R) (fun _ t=>k t) (fun v _ ih i t=>mQ t i v fun t=>dG (Nat.succ i) fun i=>ih i t) l
noncomputable def qh (h:EH):Option Nat->Bool
 | none=>true
 | some id=>match aS h.hp id with|some (.loop ..)=>true|_=>false
abbrev ki:=Option Nat->Nat->Code->BT AVal->EH->R
section step
variable (E:EP) (ih:ki)
noncomputable def uG (nx:Nat)(v:AVal)(h':EH):R:=Bool.rec (motive:=fun _=>R) none (kR v fun v=>some (.ret v h')) (Nat.ble nx h'.nx)
noncomputable def CE (rs:List ResultVar)(nx:Nat)(r:R):R:=match r with
 | some (.ev .normal env h')=>match eI E.P (aq h') (aF env) rs with
  | some vs=>uG nx (iz vs) h'
  | none=>none
 | some (.ev .ret env h')=>match eI E.P (aq h') (aF env) rs with
  | some vs=>uG nx (iz vs) h'
  | none=>none
 | some (.ev .panic _ h')=>Bool.rec (motive:=fun _=>R) none (some (.panic h')) (Nat.ble nx h'.nx)
 | _=>none
def CG (fn : Func) (c : Code) : Bool := fits fn.ntmps c && !(fn.name == "runtime.NumGoroutine")
noncomputable def uH (fn:Func)(c:Code)(args:List AVal)(h:EH):R :=
 Bool.rec (motive:=fun _=>R) none (Bool.rec (motive:=fun _=>R) none (uF (fun env=>CE E fn.results.toList h.nx (ih none fn.ntmps c env h)) args 0 .nil) (Nat.ble args.length fn.ntmps)) (CG fn c)
noncomputable def mT (f:FuncId)(args:List AVal)(h:EH):R :=
 Option.rec (motive:=fun _=>R) none (fun fn=>Option.rec (motive:=fun _=>R) none (fun c=>uH E ih fn c args h) fn.body) (E.P.funcs[f]?)
noncomputable def ze (f:FuncId)(args:List AVal):Option AVal:=match mT E ih f args ⟨.nil,0⟩ with
 | some (.ret v h')=>oo h' 40 v
 | _=>none
noncomputable def uI (args:List AVal)(l:List (List AVal × AVal)):Option AVal :=
 List.rec (motive:=fun _=>Option AVal) none (fun p _ ih=>Bool.casesOn (motive:=fun _=>Option AVal) (fY (qf 40) p.1 args) ih (some p.2)) l
noncomputable def zf (f:FuncId)(args:List AVal):Option (Option AVal):=match mT E ih f args ⟨.nil,0⟩ with
 | some (.ret v h')=>match oo h' 40 v with
  | some u=>some (some u)
  | none=>none
 | some (.panic _)=>some none
 | _=>none
noncomputable def CH (z:GD)(h:EH)(r:Option (Option AVal)):R:=match r with
 | some (some u)=>Bool.rec (motive:=fun _=>R) none (some (.ret (.tup [u,.lit (.int .i64 0)]) h)) (z.ok u)
 | some none=>some (.ret (.tup [z.z,.lit (.int .i64 6)]) h)
 | none=>none
noncomputable def CI (z:GD)(args:List AVal)(h:EH):R:=match args with
 | [.clo g [] cap]=>match bX (iC h 40) cap with
  | some p=>Bool.rec (motive:=fun _=>R) none (CH z h (zf E ih g p.1)) (p.2.all fun r=>Nat.blt r h.nx)
  | none=>none
 | _=>none
noncomputable def uJ (k:BT AVal->R):List Tmp->List AVal->BT AVal->R
 | p :: ps,v :: vs,e=>mQ e p v fun e=>uJ k ps vs e
 | [],[],e=>k e
 | _,_,_=>none
noncomputable def sC (id:Nat)(st:LoopState)(pend:Option Code)(b:Bool)(h2:EH):R:=match aS h2.hp id with
 | some (.loop _ _ n env ps asg body)=>gF h2.hp id (EBlk.loop st pend n env ps asg body) fun hp=>some (.ret (.lit (.bool b)) ⟨hp,h2.nx⟩)
 | _=>none
noncomputable def endRound (id:Nat)(r:R):R:=match r with
 | some (.ev .normal _ h2)=>sC id .ready none true h2
 | some (.ev .ret _ h2)=>sC id .done (some .ret) false h2
 | some (.ev (.exit i) _ h2)=>sC id .done (some (.exit i)) false h2
 | _=>none
noncomputable def CJ (id n:Nat)(body:Code)(r:R):R:=match r with
 | some (.ev .normal e h1)=>match aS h1.hp id with
  | some (.loop .ready pend n2 env2 ps2 asg2 body2)=>gF h1.hp id (EBlk.loop .busy pend n2 env2 ps2 asg2 body2) fun hp1=>endRound id (ih (some id) n body e ⟨hp1,h1.nx⟩)
  | _=>none
 | _=>none
def CK (v:Option AVal)(b n:Nat):Bool:=match v with
 | none=>true
 | some _=>Nat.blt b n
noncomputable def okB:BT AVal->Nat->Nat->Nat->Bool :=
 BT.rec (motive:=fun _=>Nat->Nat->Nat->Bool) (fun _ _ _=>true) (fun v _ _ fl fr a b n=>CK v b n && (fl (Nat.mul 2 a) (Nat.add a b) n && fr (Nat.mul 2 a) (Nat.add (Nat.mul 2 a) b) n))
noncomputable def CL (env:BT AVal)(n:Nat)(ps:Array Tmp)(asg body:Code):Bool:=okB env 1 0 n && (fits n asg && (fits n body && ps.toList.all fun p=>decide (p<n)))
noncomputable def zg (id:Nat)(args:List AVal)(h:EH):R :=
 match aS h.hp id with
 | some (.loop .ready _ n env ps asg body) =>
  Bool.rec (motive:=fun _=>R) none (uJ (fun e=>CJ ih id n body (ih (some id) n asg e h)) ps.toList args env) (CL env n ps asg body)
 | _=>none
noncomputable def CM (f:FuncId)(args:List AVal)(h:EH)(l:List (List AVal × AVal)):R :=
 match bX (iC h 40) args with
 | none=>none
 | some p=>match uI p.1 l with
  | some v=>some (.ret v h)
  | none=>mT E ih f args h
noncomputable def zh (f:FuncId)(first cap args:List AVal)(h:EH):R :=
 match E.gd f with
 | none=>gG (first++args++cap) fun args=>match E.known f with
  | none=>mT E ih f args h
  | some l=>CM E ih f args h l
 | some z=>gG (first++args++cap) fun args=>CI E ih z args h
noncomputable def CN (e:List AVal->Option AVal)(fc args:List AVal)(h:EH):R:=match fc with
 | []=>gG args fun args=>match e args with
  | some r=>kR r fun r=>some (.ret r h)
  | none=>none
 | _=>none
noncomputable def uK (fv:AVal)(args:List AVal)(h:EH):R :=
 match fv with
 | .clo f first cap=>match E.ext f with
  | none=>zh E ih f first cap args h
  | some e=>CN e (first++cap) args h
 | .yld id=>zg ih id args h
 | _=>none
noncomputable def CO (rd:Option Nat)(d:Option Tmp)(k:BT AVal->EH->R)(env:BT AVal)(r:R):R:=match r with
 | some (.ret v h')=>Bool.casesOn (motive:=fun _=>R) (qh h' rd) none (fO env d v fun env=>k env h')
 | some (.panic h')=>Bool.casesOn (motive:=fun _=>R) (qh h' rd) none (some (.ev .panic env h'))
 | _=>none
noncomputable def dK (d:Option Tmp)(k:BT AVal->EH->R)(env:BT AVal)(o:OR)(h:EH):R:=yU h (fun v h=>fO env d v fun env=>k env h) o
noncomputable def sD (d:Option Tmp)(k:BT AVal->EH->R)(env:BT AVal)(h:EH)(kd:IntKind)(i:Int):R:=oh i fun i=>fO env d (.lit (.int kd i)) fun env=>k env h
noncomputable def kW (d:Option Tmp)(k:BT AVal->EH->R)(env:BT AVal)(h:EH)(b:Bool):R:=yD b fun b=>fO env d (.lit (.bool b)) fun env=>k env h
abbrev bZ:=EP->ki->Option Nat->Option Tmp->(BT AVal->EH->R)->BT AVal->EH->R
end step
noncomputable def mU (x:Operand):bZ:=fun E _ _ d k env h=>cI E.G env x fun v=>fO env d v fun env=>k env h
noncomputable def uL (e:TypeId)(x:Operand):bZ:=fun E _ _ d k env h=>cI E.G env x fun v=>dK d k env (.eff (.ptr h.nx 0 0) h.nx 0 e v.cells true) h
noncomputable def uM (t:TypeId)(parts:Array (Nat × Operand)):bZ:=fun E _ _ d k env h =>
 mS E.G env (parts.toList.map (·.2)) fun vs=>dK d k env (.opt (pE E.P t ((parts.toList.map (·.1)).zip vs))) h
noncomputable def uN (t:TypeId)(len:Nat)(parts:Array (Nat × Operand)):bZ:=fun E _ _ d k env h =>
 mS E.G env (parts.toList.map (·.2)) fun vs=>dK d k env (sy h ⟨[h.nx],[]⟩ (jW E.P (aq h) h.nx t len ((parts.toList.map (·.1)).zip vs))) h
noncomputable def uO (t:TypeId)(a:Operand):bZ:=fun E _ _ d k env h=>cI E.G env a fun a=>dK d k env (.opt (yS E.P h t a)) h
noncomputable def uP (t:TypeId)(a x:Operand):bZ:=fun E _ _ d k env h =>
 Bool.rec (motive:=fun _=>R) none (cI E.G env a fun a=>cI E.G env x fun v=>dK d k env (qd E.P h t a v) h) (E.P.underlying t).isSome
abbrev kj:=IntKind->Int->Int->Option Tmp->(BT AVal->EH->R)->BT AVal->EH->R
noncomputable def MR:kj:=fun kd a b d k env h=>sD d k env h kd (ss kd (Int.add a b))
noncomputable def MS:kj:=fun kd a b d k env h=>sD d k env h kd (ss kd (Int.sub a b))
noncomputable def MT:kj:=fun kd a b d k env h=>sD d k env h kd (ss kd (Int.mul a b))
noncomputable def MU:kj:=fun _ a b d k env h=>kW d k env h (su a b)
noncomputable def MV:kj:=fun _ a b d k env h=>kW d k env h (su b a)
noncomputable def MW:kj:=fun _ a b d k env h=>kW d k env h (su b a).not
noncomputable def MX:kj:=fun _ a b d k env h=>kW d k env h (su a b).not
noncomputable def MY:kj:=fun _ a b d k env h=>kW d k env h (sx a b)
noncomputable def MZ:kj:=fun _ a b d k env h=>kW d k env h (sx a b).not
noncomputable def sF (op:BinOp):Option kj:=match op with
 | .add=>some MR|.sub=>some MS|.mul=>some MT|.lss=>some MU|.gtr=>some MV|.leq=>some MW|.geq=>some MX|.eql=>some MY|.neq=>some MZ
 | _=>none
def oq:IntKind->Nat
 | .i8=>0|.i16=>1|.i32=>2|.i64=>3|.u8=>4|.u16=>5|.u32=>6|.u64=>7
noncomputable def uQ (E:EP)(op:BinOp)(t:TypeId)(x y:Operand)(a b:AVal)(d:Option Tmp)(k:BT AVal->EH->R)(env:BT AVal)(h:EH):R:=dK d k env (.opt (aU E.P op t x y a b)) h
noncomputable def CP (E:EP)(op:BinOp)(t:TypeId)(x y:Operand)(a b:AVal)(d:Option Tmp)(k:BT AVal->EH->R)(env:BT AVal)(h:EH):R:=match iY (aq h) op a b with
 | none=>uQ E op t x y a b d k env h
 | some true=>Bool.rec (motive:=fun _=>R) none (kW d k env h (op == .neq)) (lT (E.P.underlying t))
 | some false=>none
noncomputable def CQ (E:EP)(op:BinOp)(t:TypeId)(x y:Operand)(a b:AVal)(d:Option Tmp)(k:BT AVal->EH->R)(env:BT AVal)(h:EH):R :=
 match a,b with
 | .lit (.int kd a),.lit (.int kd' b)=>Bool.rec (motive:=fun _=>R) (uQ E op t x y (.lit (.int kd a)) (.lit (.int kd' b)) d k env h) (Option.rec (motive:=fun _=>R) (uQ E op t x y (.lit (.int kd a)) (.lit (.int kd' b)) d k env h) (fun f=>f kd a b d k env h) (sF op)) (Nat.beq (oq kd) (oq kd'))
 | a,b=>CP E op t x y a b d k env h
noncomputable def uR (op:BinOp)(t:TypeId)(x y:Operand)(_:TypeId):bZ:=fun E _ _ d k env h=>cI E.G env x fun a=>cI E.G env y fun b=>CQ E op t x y a b d k env h
noncomputable def uS (fn:Fn)(first cap:Array Operand):bZ:=fun E _ _ d k env h =>
 match fn with
 | .func f=>mS E.G env first.toList fun a=>mS E.G env cap.toList fun b=>fO env d (.clo f a b) fun env=>k env h
 | _=>none
noncomputable def uT (t:TypeId)(x i:Operand):bZ:=fun E _ _ d k env h=>cI E.G env x fun x=>cI E.G env i fun i=>dK d k env (.opt (pW E.P (aq h) t x i)) h
noncomputable def ot (E:EP)(env:BT AVal)(h:EH)(o:Op):OR:=sy h (bB E.P E.G (aF env) h.nx o) (aj E.P E.G (aF env) (aq h) h.nx o)
noncomputable def fZ (o:Op):bZ:=fun E _ _ d k env h=>dK d k env (ot E env h o) h
noncomputable def zi (x:Operand):bZ:=fun E _ _ _ _ env h=>match ah E.G (aF env) x with
 | .lit (.iface _ _)=>some (.ev .panic env h)
 | _=>none
noncomputable def zj (fv:Operand)(args:Array Operand):bZ:=fun E ih rd d k env h =>
 mS E.G env args.toList fun args=>cI E.G env fv fun fv=>CO rd d k env (uK E ih fv args h)
noncomputable def sG:bZ:=fun _ _ _ _ _ _ _=>none
noncomputable def sH {α:Type}(_:α):bZ:=sG
noncomputable def qi {α β:Type}(_:α)(_:β):bZ:=sG
noncomputable def M0 {α β γ:Type}(_:α)(_:β)(_:γ):bZ:=sG
noncomputable def M3 {α β γ δ:Type}(_:α)(_:β)(_:γ)(_:δ):bZ:=sG
noncomputable def sI (v:AVal)(r:Nat)(fresh:Bool)(b:Option Blk):OR:=match b with
 | some (.arr g e c)=>.eff v r g e c fresh
 | _=>.fail
noncomputable def uU (r:Nat)(fresh:Bool)(o:Option (AVal × AHeap)):OR:=match o with
 | some (v,H')=>sI v r fresh (H'.get r)
 | none=>.fail
noncomputable def uV (c a b:Operand):bZ:=fun E _ _ d k env h=>cI E.G env c fun c=>match c with
 | .lit (.bool t)=>Bool.rec (motive:=fun _=>R) (cI E.G env b fun v=>fO env d v fun env=>k env h) (cI E.G env a fun v=>fO env d v fun env=>k env h) t
 | _=>none
noncomputable def uW (e:TypeId):bZ:=fun E _ _ d k env h=>match bW E.P e with
 | some z=>dK d k env (.eff (.ptr h.nx 0 0) h.nx 0 e z true) h
 | none=>none
noncomputable def uX (x:Operand):bZ:=fun E _ _ d k env h=>cI E.G env x fun x=>dK d k env (.opt (jY (aq h) x)) h
noncomputable def uY (op:UnOp)(_:TypeId)(x:Operand):bZ:=fun E _ _ d k env h=>cI E.G env x fun x=>dK d k env (.opt (rH E.P op x)) h
noncomputable def uZ (s t:TypeId)(x:Operand):bZ:=fun E _ _ d k env h=>cI E.G env x fun x=>dK d k env (.opt (jX E.P (aq h) s t x)) h
noncomputable def M4 (t:TypeId)(x:Operand):bZ:=fZ (.makeInterface t x)
noncomputable def va (t:TypeId)(l c:Operand):bZ:=fun E _ _ d k env h=>cI E.G env l fun l=>cI E.G env c fun c=>dK d k env (uU h.nx true (jz E.P (aq h) h.nx t l c)) h
noncomputable def zk (G:Nat->Option (List AVal))(env:BT AVal)(x:Option Operand)(k:Option AVal->R):R:=match x with
 | none=>k none
 | some x=>cI G env x fun v=>k (some v)
noncomputable def vb (t:TypeId)(x:Operand)(l u m:Option Operand):bZ:=fun E _ _ d k env h=>match m with
 | none=>cI E.G env x fun x=>zk E.G env l fun l=>zk E.G env u fun u=>dK d k env (.opt (lu E.P (aq h) t x l u)) h
 | some _=>none
noncomputable def vd (t:TypeId)(x:Operand)(f:Nat):bZ:=fun E _ _ d k env h=>cI E.G env x fun x=>dK d k env (.opt (pV E.P (aq h) t f x)) h
noncomputable def ve (t:TypeId)(x:Operand)(f:Nat):bZ:=fun E _ _ d k env h=>cI E.G env x fun x=>dK d k env (.opt (B8 E.P t f x)) h
noncomputable def vf (t:TypeId)(x i:Operand):bZ:=fun E _ _ d k env h=>cI E.G env x fun x=>cI E.G env i fun i=>dK d k env (.opt (mG E.P t x i)) h
noncomputable def vg (t:Operand)(i:Nat):bZ:=fun E _ _ d k env h=>cI E.G env t fun t=>dK d k env (.opt (lH t i)) h
noncomputable def vh (t:TypeId)(x:Operand):bZ:=fun E _ _ d k env h=>cI E.G env x fun x=>dK d k env (.opt (lC E.P (aq h) t x)) h
noncomputable def CR (E:EP)(t u:TypeId)(s x:AVal)(d:Option Tmp)(k:BT AVal->EH->R)(env:BT AVal)(h:EH):R:=match s with
 | .own id g o l z=>match bM E.P (aq h) h.nx t u s x with
  | some (.own _ g' o' l' z',H')=>Bool.rec (motive:=fun _=>R) (dK d k env (sI (.own id g' o' l' z') id false (H'.get id)) h) (dK d k env (.val (.own id g o l z)) h) (Nat.beq g' g)
  | _=>none
 | s=>match bM E.P (aq h) h.nx t u s x with
  | some (.own id' g' o' l' z',H')=>dK d k env (sI (.own id' g' o' l' z') h.nx true (H'.get h.nx)) h
  | some (.lit v,_)=>dK d k env (.val (.lit v)) h
  | _=>none
noncomputable def vj (t u:TypeId)(s x:Operand):bZ:=fun E _ _ d k env h=>cI E.G env s fun s=>cI E.G env x fun x=>CR E t u s x d k env h
noncomputable def qj (c:Call)(b:Builtin):bZ:=match b,c.argTypes.toList,c.args.toList with
 | .len,[t],[x]=>vh t x
 | .append,[t,u],[s,x]=>vj t u s x
 | _,_,_=>fZ (.call c)
noncomputable def CS (c:Call):bZ:=match c.callee with
 | .value fv=>zj fv c.args
 | .builtin b=>qj c b
 | _=>sG
noncomputable def M5 (t:TypeId)(m a x:Operand):bZ:=fZ (.insert t m a x)
noncomputable def M6 (t:TypeId)(x:Option Operand):bZ:=fZ (.makeMap t x)
noncomputable def M7 (t:TypeId)(x i:Operand)(ok:Bool):bZ:=fZ (.lookup t x i ok)
noncomputable def M8 (t:TypeId)(m a x:Operand):bZ:=fZ (.mapUpdate t m a x)
noncomputable def M9 (t:TypeId)(m a:Operand):bZ:=fZ (.mapEntry t m a)
noncomputable def Na (t:TypeId)(m a x:Operand):bZ:=fZ (.entryStore t m a x)
noncomputable def vk:Op->bZ :=
 Op.rec (motive:=fun _=>bZ) mU mU uV uW uL uM uN M5 uO uP sH sH uX uR uY uZ qi M4 uS
  M6 qi va vb vd ve uT vf M7 M8 M9 Na qi qi sH M3 vg CS sH sH zi qi M0 qi
section step
variable (E:EP) (ih:ki)
noncomputable def zm (all:Array Oper)(ρ:Env)(yes no:R)(jw:Nat × Bool):R :=
 match (all[jw.1]?).bind (·.dst) with
 | some d=>match ρ d with
  | .lit (.bool b)=>Bool.rec (motive:=fun _=>R) no yes (b == jw.2)
  | .lit _=>no
  | _=>none
 | none=>no
noncomputable def qk (all:Array Oper)(ρ:Env)(g:Option (Nat × Bool))(yes no:R):R:=Option.rec (motive:=fun _=>R) yes (zm all ρ yes no) g
noncomputable def qm (rd:Option Nat)(all:Array Oper)(l:List Oper):BT AVal->EH->R :=
 List.rec (motive:=fun _=>BT AVal->EH->R) (fun env h=>some (.ev .normal env h)) (fun o _ ihr env h =>
  qk all (aF env) o.guard (vk o.op E ih rd o.dst ihr env h) (fO env o.dst (.lit undef) fun env=>ihr env h)) l
def Nb (bs:List Nat)(o:Oper):Nat:=(tY o).foldl (fun b j=>b ||| (2 ^ j ||| dE bs j)) 0
def mV:List Oper->List Nat->List Nat
 | [],bs=>bs
 | o :: l,bs=>mV l (bs++[Nb bs o])
def sJ (bs:List Nat):Nat->Nat
 | 0=>0
 | k+1=>if dE bs k=2 ^ k - 1 then sJ bs k else k+1
def zn (b:Nat)(f:FP)(acc:List (Nat × FP)):Bool:=acc.all fun p=>b.testBit p.1 || (f.eff.all fun r=>!p.2.rs.contains r) && p.2.eff.all fun r=>!f.rs.contains r
noncomputable def CT (e:List AVal->Option AVal)(fc args:List AVal)(h:EH)(k:AVal->FP->EH->R):R:=match fc with
 | []=>gG args fun args=>match e args with
  | some v=>k v ⟨[],[]⟩ h
  | none=>none
 | _=>none
noncomputable def CU (h h':EH)(kp fz:List Nat)(v:AVal)(k:AVal->FP->EH->R):R :=
 match Nat.ble h.nx h'.nx,yW (fun id=>y8 (aS h.hp id) (aS h'.hp id)) kp,kU h' h.nx kp 40 v [] with
 | true,true,some lv=>uE h' lv h.nx (Nat.sub h'.nx h.nx) h.hp fun hp=>dG h'.nx fun nx=>k v ⟨Ev.tP h.nx nx,kp++fz⟩ ⟨hp,nx⟩
 | _,_,_=>none
noncomputable def CV (f:FuncId)(kp fz:List Nat)(all:List AVal)(h:EH)(k:AVal->FP->EH->R)(hp:BT EBlk):R:=match mT E ih f all ⟨hp,h.nx⟩ with
 | some (.ret v h')=>CU h h' kp fz v k
 | _=>none
noncomputable def CW (f:FuncId)(all:List AVal)(h:EH)(k:AVal->FP->EH->R)(kp:List Nat):R:=match bX (kh h kp 40) all with
 | some p=>Bool.rec (motive:=fun _=>R) none (yY h kp (CV E ih f kp p.2 p.1 h k) .nil) (p.2.all fun r=>Nat.blt r h.nx)
 | none=>none
noncomputable def vm (f:FuncId)(all:List AVal)(h:EH)(k:AVal->FP->EH->R):R:=kV (uD h 40) all [] (CW E ih f all h k)
noncomputable def CX (f:FuncId)(all:List AVal)(h:EH)(k:AVal->FP->EH->R)(l:List (List AVal × AVal)):R:=match bX (iC h 40) all with
 | none=>vm E ih f all h k
 | some p=>match uI p.1 l with
  | some v=>Bool.rec (motive:=fun _=>R) none (k v ⟨[],p.2⟩ h) (p.2.all fun r=>Nat.blt r h.nx)
  | none=>vm E ih f all h k
noncomputable def CY (f:FuncId)(first cap args:List AVal)(h:EH)(k:AVal->FP->EH->R):R:=match E.gd f with
 | some _=>none
 | none=>gG (first++args++cap) fun all=>match E.known f with
  | none=>vm E ih f all h k
  | some l=>CX E ih f all h k l
noncomputable def zp (fv:AVal)(args:List AVal)(h:EH)(k:AVal->FP->EH->R):R:=match fv with
 | .clo f first cap=>match E.ext f with
  | none=>CY E ih f first cap args h k
  | some e=>CT e (first++cap) args h k
 | _=>none
abbrev qo:=List (Nat × FP)->BT AVal->EH->R
noncomputable def vn (d:Option Tmp)(b i:Nat)(acc:List (Nat × FP))(k:qo)(env:BT AVal)(f:FP)(o:OR)(h:EH):R :=
 Bool.casesOn (motive:=fun _=>R) (zn b f acc) none (yU h (fun v h=>fO env d v fun env=>k (dU i f acc) env h) o)
noncomputable def CZ (d:Option Tmp)(b i:Nat)(acc:List (Nat × FP))(k:qo)(env:BT AVal)(v:AVal)(f:FP)(h:EH):R :=
 Bool.casesOn (motive:=fun _=>R) (zn b f acc) none (kR v fun v=>fO env d v fun env=>k (dU i f acc) env h)
noncomputable def vp (o:Oper)(b i:Nat)(acc:List (Nat × FP))(k:qo)(env:BT AVal)(h:EH):R:=match o.op with
 | .call c=>match c.callee with
  | .value fv=>mS E.G env c.args.toList fun args=>cI E.G env fv fun fv=>zp E ih fv args h (CZ o.dst b i acc k env)
  | _=>vn o.dst b i acc k env (bB E.P E.G (aF env) h.nx (.call c)) (ot E env h (.call c)) h
 | .panic _=>none
 | op=>vn o.dst b i acc k env (bB E.P E.G (aF env) h.nx op) (ot E env h op) h
noncomputable def vq (all:Array Oper)(tail:BT AVal->EH->R)(l:List Oper):List Nat->Nat->qo :=
 List.rec (motive:=fun _=>List Nat->Nat->qo) (fun _ _ _ env h=>tail env h) (fun o _ ihr bs i acc env h=>match bs with
  | []=>none
  | b :: bs=>qk all (aF env) o.guard (vp E ih o b i acc (ihr bs (i+1)) env h) (fO env o.dst (.lit undef) fun env=>ihr bs (i+1) acc env h)) l
noncomputable def vr (rd:Option Nat)(ops:Array Oper)(bs:List Nat)(K:Nat)(env:BT AVal)(h:EH):R :=
 Bool.casesOn (motive:=fun _=>R) (rY ops (bs.take K) K) none (vq E ih ops (qm E ih rd ops (ops.toList.drop K)) (ops.toList.take K) (bs.take K) 0 [] env h)
noncomputable def sK (rd:Option Nat)(n:Nat)(b:Code)(r:R):R:=match r with
 | some (.ev .normal e h)=>ih rd n b e h
 | r=>r
noncomputable def zq (id:Nat)(r:R):R:=match r with
 | some (.ev (.exit i) e h)=>Bool.casesOn (motive:=fun _=>R) (Nat.beq i id) (some (.ev (.exit i) e h)) (some (.ev .normal e h))
 | r=>r
noncomputable def qp (r:R):R:=match r with
 | some (.ev (.goto _) _ _)=>none
 | r=>r
noncomputable def zu (v:AVal)(x y:R):R:=match v with
 | .lit (.bool b)=>Bool.casesOn (motive:=fun _=>R) b y x
 | _=>none
noncomputable def endLoop (env:BT AVal)(h2:EH)(pend:Option Code)(hp3:BT EBlk):R:=match pend with
 | none=>some (.ev .normal env ⟨hp3,h2.nx⟩)
 | some .ret=>some (.ev .ret env ⟨hp3,h2.nx⟩)
 | some (.exit i)=>some (.ev (.exit i) env ⟨hp3,h2.nx⟩)
 | _=>none
noncomputable def C0 (rd:Option Nat)(env:BT AVal)(id:Nat)(r:R):R:=match r with
 | some (.ret _ h2)=>Bool.casesOn (motive:=fun _=>R) (qh h2 rd) none (match aS h2.hp id with
  | some (.loop .busy ..)=>none
  | some (.loop _ pend n2 env2 ps2 asg2 body2)=>gF h2.hp id (EBlk.loop .exhausted pend n2 env2 ps2 asg2 body2) fun hp3=>endLoop env h2 pend hp3
  | _=>none)
 | some (.panic h2)=>Bool.casesOn (motive:=fun _=>R) (qh h2 rd) none (some (.ev .panic env h2))
 | _=>none
noncomputable def zw (rd:Option Nat)(n:Nat)(env:BT AVal)(h:EH)(ps:Array Tmp)(asg body:Code)(v:AVal):R:=match v with
 | .clo g first cap=>gF h.hp h.nx (EBlk.loop .ready none n env ps asg body) fun hp1=>C0 rd env h.nx (gG (first++[.yld h.nx]++cap) fun args=>mT E ih g args ⟨hp1,Nat.succ h.nx⟩)
 | _=>none
end step
abbrev gS:=EP->ki->Option Nat->Nat->BT AVal->EH->R
noncomputable def C2:gS:=fun _ _ _ _ env h=>some (.ev .normal env h)
noncomputable def Nc (_:Nat):gS:=C2
noncomputable def Nd (i:Nat):gS:=fun _ _ _ _ env h=>some (.ev (.exit i) env h)
noncomputable def Nf:gS:=fun _ _ _ _ env h=>some (.ev .ret env h)
noncomputable def Ng (_:Nat):gS:=fun _ _ _ _ _ _=>none
noncomputable def Nh (_:String):gS:=fun _ _ _ _ _ _=>none
noncomputable def Ni (_:Nat)(ops:Array Oper)(dr:Bool):gS:=fun E ih rd _ env h =>
 Bool.rec (motive:=fun _=>R) (qm E ih rd ops ops.toList env h) (vr E ih rd ops (mV ops.toList []) (sJ (mV ops.toList []) ops.toList.length) env h) dr
noncomputable def Nj (a b:Code):gS:=fun _ ih rd n env h=>sK ih rd n b (ih rd n a env h)
noncomputable def Nk (x:Operand)(a b:Code):gS:=fun E ih rd n env h=>zu (ah E.G (aF env) x) (ih rd n a env h) (ih rd n b env h)
noncomputable def Nm (id:Nat)(b:Code):gS:=fun _ ih rd n env h=>zq id (ih rd n b env h)
noncomputable def Nn (b:Code):gS:=fun _ ih rd n env h=>qp (sK ih rd n (.loop b) (ih rd n b env h))
noncomputable def No (b:Code):gS:=fun _ ih rd n env h=>qp (ih rd n b env h)
noncomputable def Np (f:Operand)(ps:Array Tmp)(asg body:Code):gS:=fun E ih rd n env h=>zw E ih rd n env h ps asg body (ah E.G (aF env) f)
noncomputable def Nq:Code->gS:=fun c=>Code.casesOn (motive:=fun _=>gS) c C2 Ni Nj Nk Nm Nn Np Nd No Nc Ng Nf Nh
noncomputable def C3 (E:EP)(ih:ki)(rd:Option Nat)(n:Nat)(c:Code)(env:BT AVal)(h:EH):R:=Nq c E ih rd n env h
noncomputable def C4 (E:EP)(fuel:Nat):ki:=Nat.rec (motive:=fun _=>ki) (fun _ _ _ _ _=>none) (fun _ ih=>C3 E ih) fuel
noncomputable def C5 (E:EP)(fuel:Nat)(f:FuncId)(args:List AVal):Option AVal:=ze E (C4 E fuel) f args
end Go.Hx
namespace Go.Hx
variable {P:Program} {G:Nat->Option (List AVal)}
theorem iD (n:Nat)(k:Nat->R):dG n k=k n:=by cases n<;>rfl
theorem vt (n:Int)(k:Int->R):oh n k=k n:=by
 cases n with
 | ofNat n=>show dG n (fun n=>k (.ofNat n))=_;rw[iD]
 | negSucc n=>show dG n (fun n=>k (.negSucc n))=_;rw[iD]
theorem C6 (n:Bool)(k:Bool->R):yD n k=k n:=by cases n<;>rfl
theorem jd (l:List AVal):∀ (k:List AVal->R),gG l k=k l:=by
 induction l with
 | nil=>intro k;rfl
 | cons x l ih=>intro k;exact ih _
theorem Nr (v:Value)(k:Value->R):yE v k=k v:=by
 unfold yE;split
 ·rw[vt]
 ·rw[C6]
 ·rfl
theorem Ns (l:List (Int × Int)):∀ (k:List (Int × Int)->R),uB l k=k l:=by
 induction l with
 | nil=>intro k;rfl
 | cons p l ih =>
  intro k;obtain⟨a,b⟩:=p;show (oh a fun a=>oh b fun b=>uB l fun l=>k ((a,b) :: l))=_;rw[vt,vt,ih]
theorem qq (v:AVal)(k:AVal->R):kR v k=k v:=by
 cases v with
 | lit v=>show yF v k=_;unfold yF;rw[Nr]
 | vec n cs=>show yG n cs k=_;unfold yG;rw[iD,jd]
 | own a b c d e=>show yH a b c d e k=_;unfold yH;simp only[iD]
 | ptr a b c=>show yI a b c k=_;unfold yI;simp only[iD]
 | vptr cs n=>show yJ cs n k=_;unfold yJ;rw[iD,jd]
 | agg cs=>show yK cs k=_;unfold yK;rw[jd]
 | tup cs=>show yL cs k=_;unfold yL;rw[jd]
 | clo f a b=>show yM f a b k=_;unfold yM;simp only[iD,jd]
 | yld n=>show yO n k=_;unfold yO;rw[iD]
theorem vu (n:Nat):eL .nil n=none:=rfl
theorem Nt (v:Option AVal)(l r:BT AVal):eL (.node v l r) 0=v:=rfl
theorem kX (v:Option AVal)(l r:BT AVal)(m:Nat):eL (.node v l r) (m+1)=if m % 2=0 then eL l (m / 2) else eL r (m / 2):=by
 show Nat.rec (motive:=fun _=>Option AVal) (eL l (m / 2)) (fun _ _=>eL r (m / 2)) (m % 2)=_;rcases WT m with h|h<;>rw[h]<;>rfl
theorem zx (n:Nat):aS .nil n=none:=rfl
theorem l9 (v:Option EBlk)(l r:BT EBlk)(m:Nat):aS (.node v l r) (m+1)=if m % 2=0 then aS l (m / 2) else aS r (m / 2):=by
 show Nat.rec (motive:=fun _=>Option EBlk) (aS l (m / 2)) (fun _ _=>aS r (m / 2)) (m % 2)=_;rcases WT m with h|h<;>rw[h]<;>rfl
theorem mW {m n:Nat}(h:m % 2=n % 2):m / 2=n / 2↔m=n:=by omega
theorem Nu:∀ (f n:Nat) (x:AVal) (k:BT AVal->R) (r:RR),uz f n x k=some r->∃ t,k t=some r/\∀ m,eL t m=if m=n then some x else none:=by
 intro f
 induction f with
 | zero=>intro n x k r h;cases h
 | succ f ih =>
  intro n x k r h;cases n with
  | zero =>
   refine⟨_,h,fun m=>?_⟩;cases m with
   | zero=>rfl
   | succ m=>rw[kX];simp [vu]
  | succ n =>
   have h':Nat.rec (motive:=fun _=>R) (uz f (n / 2) x fun l=>k (.node none l .nil)) (fun _ _=>uz f (n / 2) x fun r=>k (.node none .nil r)) (n % 2)=some r:=h;rcases WT n with h2|h2<;>rw[h2]at h'
   ·obtain⟨t,h3,h4⟩:=ih _ _ _ _ h';refine⟨_,h3,fun m=>?_⟩;cases m with
    | zero=>rw[Vw (by omega)];rfl
    | succ m =>
     rw[kX,h4,vu];split
     ·rename_i hm;simp only[WO,mW (hm.trans h2.symm)]
     ·rename_i hm;rw[Vw];rintro hmn;have:m=n:=(by omega);exact hm (this ▸ h2)
   ·obtain⟨t,h3,h4⟩:=ih _ _ _ _ h';refine⟨_,h3,fun m=>?_⟩;cases m with
    | zero=>rw[Vw (by omega)];rfl
    | succ m =>
     rw[kX,h4,vu];split
     ·rename_i hm;rw[Vw];rintro hmn;have:m=n:=(by omega);omega
     ·rename_i hm;have hm':m % 2=n % 2:=(by omega);simp only[WO,mW hm']
theorem zy:∀ (t:BT AVal) (n:Nat) (x:AVal) (k:BT AVal->R) (r:RR),mQ t n x k=some r->∃ t',k t'=some r/\∀ m,eL t' m=if m=n then some x else eL t m:=by
 intro t
 induction t with
 | nil=>intro n x k r h;exact Nu 20 n x k r h
 | node v l r ihl ihr =>
  intro n x k rr h;cases n with
  | zero =>
   refine⟨_,h,fun m=>?_⟩;cases m with
   | zero=>rfl
   | succ m=>rw[kX,kX];simp
  | succ n =>
   have h':Nat.rec (motive:=fun _=>R) (mQ l (n / 2) x fun l=>k (.node v l r)) (fun _ _=>mQ r (n / 2) x fun r=>k (.node v l r)) (n % 2)=some rr:=h;rcases WT n with h2|h2<;>rw[h2]at h'
   ·obtain⟨t,h3,h4⟩:=ihl _ _ _ _ h';refine⟨_,h3,fun m=>?_⟩;cases m with
    | zero=>rw[Vw (by omega)];rfl
    | succ m =>
     rw[kX,kX,h4];split
     ·rename_i hm;simp only[WO,mW (hm.trans h2.symm)]
     ·rename_i hm;rw[Vw];rintro hmn;have:m=n:=(by omega);exact hm (this ▸ h2)
   ·obtain⟨t,h3,h4⟩:=ihr _ _ _ _ h';refine⟨_,h3,fun m=>?_⟩;cases m with
    | zero=>rw[Vw (by omega)];rfl
    | succ m =>
     rw[kX,kX,h4];split
     ·rename_i hm;rw[Vw];rintro hmn;have:m=n:=(by omega);omega
     ·rename_i hm;have hm':m % 2=n % 2:=(by omega);simp only[WO,mW hm']
theorem Nv:∀ (f n:Nat) (x:EBlk) (k:BT EBlk->R) (r:RR),uA f n x k=some r->∃ t,k t=some r/\∀ m,aS t m=if m=n then some x else none:=by
 intro f
 induction f with
 | zero=>intro n x k r h;cases h
 | succ f ih =>
  intro n x k r h;cases n with
  | zero =>
   refine⟨_,h,fun m=>?_⟩;cases m with
   | zero=>rfl
   | succ m=>rw[l9];simp [zx]
  | succ n =>
   have h':Nat.rec (motive:=fun _=>R) (uA f (n / 2) x fun l=>k (.node none l .nil)) (fun _ _=>uA f (n / 2) x fun r=>k (.node none .nil r)) (n % 2)=some r:=h;rcases WT n with h2|h2<;>rw[h2]at h'
   ·obtain⟨t,h3,h4⟩:=ih _ _ _ _ h';refine⟨_,h3,fun m=>?_⟩;cases m with
    | zero=>rw[Vw (by omega)];rfl
    | succ m =>
     rw[l9,h4,zx];split
     ·rename_i hm;simp only[WO,mW (hm.trans h2.symm)]
     ·rename_i hm;rw[Vw];rintro hmn;have:m=n:=(by omega);exact hm (this ▸ h2)
   ·obtain⟨t,h3,h4⟩:=ih _ _ _ _ h';refine⟨_,h3,fun m=>?_⟩;cases m with
    | zero=>rw[Vw (by omega)];rfl
    | succ m =>
     rw[l9,h4,zx];split
     ·rename_i hm;rw[Vw];rintro hmn;have:m=n:=(by omega);omega
     ·rename_i hm;have hm':m % 2=n % 2:=(by omega);simp only[WO,mW hm']
theorem mX:∀ (t:BT EBlk) (n:Nat) (x:EBlk) (k:BT EBlk->R) (r:RR),gF t n x k=some r->∃ t',k t'=some r/\∀ m,aS t' m=if m=n then some x else aS t m:=by
 intro t
 induction t with
 | nil=>intro n x k r h;exact Nv 20 n x k r h
 | node v l r ihl ihr =>
  intro n x k rr h;cases n with
  | zero =>
   refine⟨_,h,fun m=>?_⟩;cases m with
   | zero=>rfl
   | succ m=>rw[l9,l9];simp
  | succ n =>
   have h':Nat.rec (motive:=fun _=>R) (gF l (n / 2) x fun l=>k (.node v l r)) (fun _ _=>gF r (n / 2) x fun r=>k (.node v l r)) (n % 2)=some rr:=h;rcases WT n with h2|h2<;>rw[h2]at h'
   ·obtain⟨t,h3,h4⟩:=ihl _ _ _ _ h';refine⟨_,h3,fun m=>?_⟩;cases m with
    | zero=>rw[Vw (by omega)];rfl
    | succ m =>
     rw[l9,l9,h4];split
     ·rename_i hm;simp only[WO,mW (hm.trans h2.symm)]
     ·rename_i hm;rw[Vw];rintro hmn;have:m=n:=(by omega);exact hm (this ▸ h2)
   ·obtain⟨t,h3,h4⟩:=ihr _ _ _ _ h';refine⟨_,h3,fun m=>?_⟩;cases m with
    | zero=>rw[Vw (by omega)];rfl
    | succ m =>
     rw[l9,l9,h4];split
     ·rename_i hm;rw[Vw];rintro hmn;have:m=n:=(by omega);omega
     ·rename_i hm;have hm':m % 2=n % 2:=(by omega);simp only[WO,mW hm']
theorem vv (env:BT AVal)(t:Tmp):aF env t=(eL env t).getD (.lit undef):=by
 unfold aF;cases eL env t<;>rfl
theorem C7 {env env':BT AVal}{d:Nat}{v:AVal}(h:∀ m,eL env' m=if m=d then some v else eL env m):aF env'=aH (aF env) (some d) v:=by
 funext t
 simp only[vv,h,aH];split<;>rfl
theorem ma {env:BT AVal}{d:Option Tmp}{v:AVal}{k:BT AVal->R}{r:RR}(h:fO env d v k=some r):∃ env',k env'=some r/\aF env'=aH (aF env) d v:=by
 cases d with
 | none=>exact⟨env,h,rfl⟩
 | some d =>
  obtain⟨t,h1,h2⟩:=zy _ _ _ _ _ h;exact⟨t,h1,C7 h2⟩
theorem cZ (env:BT AVal)(x:Operand)(k:AVal->R):cI G env x k=k (ah G (aF env) x):=by
 cases x with
 | tmp t =>
  show yR env t k=_;unfold yR;simp only[ah,vv];cases eL env t<;>rfl
 | const v=>rfl
 | global g =>
  show yQ G g k=_;unfold yQ;simp only[ah];cases G g with
  | none=>rfl
  | some c=>exact jd _ _
 | func f=>rfl
theorem qs (env:BT AVal)(l:List Operand):∀ (k:List AVal->R),mS G env l k=k (l.map (ah G (aF env))):=by
 induction l with
 | nil=>intro k;rfl
 | cons x l ih =>
  intro k;show cI G env x (fun x=>mS G env l fun l=>k (x :: l))=_;rw[cZ,ih];rfl
theorem C8 (env:BT AVal)(x:Option Operand)(k:Option AVal->R):zk G env x k=k (x.map (ah G (aF env))):=by
 cases x with
 | none=>rfl
 | some x=>exact cZ _ _ _
def qt (o:OR)(h:EH)(v:AVal)(H':AHeap):Prop :=
 match o with
 | .fail=>False
 | .val u=>v=u/\H'=aq h
 | .eff u r g e c fr=>v=u/\H'=⟨fun j=>if j=r then some (.arr g e c) else (aq h).get j,if fr then h.nx+1 else h.nx⟩
 | .effM u r es fr=>v=u/\H'=⟨fun j=>if j=r then some (.mp es) else (aq h).get j,if fr then h.nx+1 else h.nx⟩
theorem vw {h:EH}{hp:BT EBlk}{r nx:Nat}{b:EBlk}(hs:∀ m,aS hp m=if m=r then some b else aS h.hp m):aq ⟨hp,nx⟩=⟨fun j=>if j=r then some b.kS else (aq h).get j,nx⟩:=by
 unfold aq;congr 1
 funext j
 show Option.map EBlk.kS (aS hp j)=_;rw[hs];split<;>rfl
theorem C9 {o:Option AVal}{h:EH}{v:AVal}{H':AHeap}(hr:qt (.opt o) h v H'):o=some v/\H'=aq h:=by
 cases o with
 | none=>exact hr.elim
 | some u=>exact⟨by rw[hr.1],hr.2⟩
theorem zz (k:IntKind)(i:Int):ss k i=k.wrap i:=by
 unfold ss;split
 ·have hr:∀ j:Int,-9223372036854775808<=j->j<=9223372036854775807->IntKind.i64.wrap j=j:=fun j h1 h2=>Vt j (by omega);cases i with
  | ofNat n =>
   show Bool.casesOn (motive:=fun _=>Int) (Nat.ble n 9223372036854775807) _ _=_;cases hb:Nat.ble n 9223372036854775807 with
   | false=>rfl
   | true =>
    have:=WG hb;exact(hr (Int.ofNat n) (by simp only[X7];omega) (by simp only[X7];omega)).symm
  | negSucc n =>
   show Bool.casesOn (motive:=fun _=>Int) (Nat.ble n 9223372036854775807) _ _=_;cases hb:Nat.ble n 9223372036854775807 with
   | false=>rfl
   | true =>
    have:=WG hb;exact(hr (Int.negSucc n) (by omega) (by omega)).symm
 ·rfl
theorem vz (a b:Int):su a b=decide (a<b):=by
 cases a with
 | ofNat m=>cases b with
  | ofNat n =>
   show Nat.ble (m+1) n=_;rw[XC,Nat.ble_eq,WW];simp;omega
  | negSucc n =>
   show false=_
   symm
   rw[WS];simp only[X7];omega
 | negSucc m=>cases b with
  | ofNat n =>
   show true=_
   symm
   rw[WW];simp only[X7];omega
  | negSucc n =>
   show Nat.ble (n+1) m=_;rw[XC,Nat.ble_eq,WW];omega
theorem vA (a b:Int):sx a b=decide (a=b):=by
 cases a with
 | ofNat m=>cases b with
  | ofNat n =>
   show Nat.beq m n=_;rw[XC,WW];constructor
   ·intro h;rw[VO h]
   ·intro h;rw[Int.ofNat.inj h];exact XB n
  | negSucc n =>
   show false=_
   symm
   rw[WS];intro h;cases h
 | negSucc m=>cases b with
  | ofNat n =>
   show false=_
   symm
   rw[WS];intro h;cases h
  | negSucc n =>
   show Nat.beq m n=_;rw[XC,WW];constructor
   ·intro h;rw[VO h]
   ·intro h;rw[Int.negSucc.inj h];exact XB n
theorem zC {d:Option Tmp}{k:BT AVal->EH->R}{env:BT AVal}{h:EH}{kd:IntKind}{i:Int}{r:RR}(hr:sD d k env h kd i=some r):∃ env',aF env'=aH (aF env) d (.lit (.int kd i))/\k env' h=some r:=by
 unfold sD at hr;rw[vt]at hr;obtain⟨env',h1,h2⟩:=ma hr;exact⟨env',h2,h1⟩
theorem ou {d:Option Tmp}{k:BT AVal->EH->R}{env:BT AVal}{h:EH}{b:Bool}{r:RR}(hr:kW d k env h b=some r):∃ env',aF env'=aH (aF env) d (.lit (.bool b))/\k env' h=some r:=by
 unfold kW at hr;rw[C6]at hr;obtain⟨env',h1,h2⟩:=ma hr;exact⟨env',h2,h1⟩
theorem Da (a b:Int):(decide (b<a)).not=decide (a<=b):=by
 rw[XC];simp
theorem Nw {op:BinOp}{t:TypeId}{x y:Operand}{f:kj}(hf:sF op=some f){kd:IntKind}{a b:Int}{d:Option Tmp}{k:BT AVal->EH->R}{env:BT AVal}{h:EH}{r:RR}
  (hr:f kd a b d k env h=some r):
  ∃ v env',aU P op t x y (.lit (.int kd a)) (.lit (.int kd b))=some v/\aF env'=aH (aF env) d v/\k env' h=some r:=by
 unfold sF at hf;split at hf
 ·cases hf;obtain⟨env',h1,h2⟩:=zC hr;exact⟨_,env',B9,by rw[h1,zz];rfl,h2⟩
 ·cases hf;obtain⟨env',h1,h2⟩:=zC hr;exact⟨_,env',Ca,by rw[h1,zz];rfl,h2⟩
 ·cases hf;obtain⟨env',h1,h2⟩:=zC hr;exact⟨_,env',Cb,by rw[h1,zz];rfl,h2⟩
 ·cases hf;obtain⟨env',h1,h2⟩:=ou hr;exact⟨_,env',Cc,by rw[h1,vz],h2⟩
 ·cases hf;obtain⟨env',h1,h2⟩:=ou hr;exact⟨_,env',Ce,by rw[h1,vz],h2⟩
 ·cases hf;obtain⟨env',h1,h2⟩:=ou hr;exact⟨_,env',Cd,by rw[h1,vz,Da],h2⟩
 ·cases hf;obtain⟨env',h1,h2⟩:=ou hr;exact⟨_,env',Cf,by rw[h1,vz,Da],h2⟩
 ·cases hf;obtain⟨env',h1,h2⟩:=ou hr;exact⟨_,env',Cg,by rw[h1,vA],h2⟩
 ·cases hf;obtain⟨env',h1,h2⟩:=ou hr;exact⟨_,env',Ch,by rw[h1,vA],h2⟩
 ·cases hf
theorem Nx {a b:IntKind}(h:Nat.beq (oq a) (oq b)=true):a=b:=by
 have:=VO h;cases a<;>cases b<;>first|rfl|simp [oq]at this
theorem Ny {h:EH}{t:TypeId}{a v:AVal}(hr:yS P h t a=some v):fy P (aq h) t a=some v:=by
 unfold yS at hr;split at hr
 ·rename_i id gen off;split at hr
  ·rename_i g e cells hg;show (match (aq h).get id with|some (.arr g _ cells)=>if g=gen then eR P t cells off else none|_=>none)=some v;have:(aq h).get id=some (.arr g e cells):=(by show Option.map EBlk.kS (aS h.hp id)=_;rw[hg];rfl);rw[this];cases hb:Nat.beq g gen with
   | false=>rw[hb]at hr;cases hr
   | true =>
    rw[hb]at hr;simp only;rw[Vx (VO hb)];exact hr
  ·cases hr
 ·exact hr
 ·cases hr
theorem Nz {h:EH}{t:TypeId}{a x v:AVal}{H':AHeap}(hr:qt (qd P h t a x) h v H'):v=.lit undef/\ir P (aq h) t a x=some H':=by
 unfold qd at hr;split at hr
 ·rename_i id gen off;split at hr
  ·rename_i g e cells hg;have hget:(aq h).get id=some (.arr g e cells):=(by show Option.map EBlk.kS (aS h.hp id)=_;rw[hg];rfl);cases hb:Nat.beq g gen with
   | false=>rw[hb]at hr;exact hr.elim
   | true =>
    rw[hb]at hr;simp only at hr;split at hr
    ·rename_i hc;refine⟨hr.1,?_⟩;have hgg:=VO hb;show (match (aq h).get id with|some (.arr g e cells)=>if g=gen/\x.cells.length=P.cellsOf t/\x.cells.all AVal.one=true/\off+x.cells.length<=cells.length then some ((aq h).upd id (.arr g e (setAt cells off x.cells))) else none|_=>none)=some H';rw[hget];simp only;rw[Vx ⟨hgg,hc⟩,hr.2];rfl
    ·exact hr.elim
  ·exact hr.elim
 ·exact hr.elim
def VH (h:EH):Prop:=∀ id b,aS h.hp id=some b->id<h.nx
theorem VH.wf {h:EH}(hv:VH h):fA (aq h):=fun id b hb=>by
 have hb':Option.map EBlk.kS (aS h.hp id)=some b:=hb;cases hg:aS h.hp id with
 | none=>rw[hg]at hb';cases hb'
 | some x=>exact hv id x hg
def ow (o:OR)(h:EH):Prop :=
 match o with
 | .eff _ r _ _ _ fr=>if fr then r=h.nx else r<h.nx
 | .effM _ r _ fr=>if fr then r=h.nx else r<h.nx
 | _=>True
theorem Db {h:EH}{k:AVal->EH->R}{o:OR}{r:RR}(hv:VH h)(hok:ow o h)(hr:yU h k o=some r):∃ v h',qt o h v (aq h')/\VH h'/\k v h'=some r:=by
 cases o with
 | fail=>cases hr
 | val v =>
  have hr':kR v (fun v=>k v h)=some r:=hr;rw[qq]at hr';exact⟨v,h,⟨rfl,rfl⟩,hv,hr'⟩
 | eff v r' g e c fr =>
  have hr':(dG r' fun r'=>dG g fun g=>gG c fun c=>gF h.hp r' (.arr g e c) fun hp=>kR v fun v=>k v ⟨hp,Bool.casesOn (motive:=fun _=>Nat) fr h.nx (Nat.succ h.nx)⟩)=some r:=hr;rw[iD,iD,jd]at hr';obtain⟨hp,h1,h2⟩:=mX _ _ _ _ _ hr';rw[qq]at h1;refine⟨v,_,⟨rfl,?_⟩,?_,h1⟩
  ·rw[vw h2];cases fr<;>rfl
  ·intro id b hb;rw[h2]at hb;cases fr with
   | false =>
    have hlt:r'<h.nx:=hok;show id<h.nx;split at hb
    ·omega
    ·exact hv id b hb
   | true =>
    have hlt:r'=h.nx:=hok;show id<h.nx+1;split at hb
    ·omega
    ·have:=hv id b hb;omega
 | effM v r' es fr =>
  have hr':(dG r' fun r'=>uB es fun es=>gF h.hp r' (.mp es) fun hp=>kR v fun v=>k v ⟨hp,Bool.casesOn (motive:=fun _=>Nat) fr h.nx (Nat.succ h.nx)⟩)=some r:=hr;rw[iD,Ns]at hr';obtain⟨hp,h1,h2⟩:=mX _ _ _ _ _ hr';rw[qq]at h1;refine⟨v,_,⟨rfl,?_⟩,?_,h1⟩
  ·rw[vw h2];cases fr<;>rfl
  ·intro id b hb;rw[h2]at hb;cases fr with
   | false =>
    have hlt:r'<h.nx:=hok;show id<h.nx;split at hb
    ·omega
    ·exact hv id b hb
   | true =>
    have hlt:r'=h.nx:=hok;show id<h.nx+1;split at hb
    ·omega
    ·have:=hv id b hb;omega
def Plain (P:Program)(G:Nat->Option (List AVal))(o:Op)(d:Option Tmp)(k:BT AVal->EH->R)(env:BT AVal)(h:EH)(r:RR):Prop :=
 ∃ v env' h',aj P G (aF env) (aq h) h.nx o=some (v,aq h')/\VH h'/\aF env'=aH (aF env) d v/\k env' h'=some r
theorem jF {o:Op}{d:Option Tmp}{k:BT AVal->EH->R}{env:BT AVal}{x:OR}{h:EH}{r:RR}(hv:VH h)(hok:ow x h)(hrel:∀ v H',qt x h v H'->aj P G (aF env) (aq h) h.nx o=some (v,H'))
  (hr:dK d k env x h=some r):Plain P G o d k env h r:=by
 obtain⟨v,h',h1,h2,h3⟩:=Db hv hok hr;obtain⟨env',h4,h5⟩:=ma h3;exact⟨v,env',h',hrel _ _ h1,h2,h5,h4⟩
theorem sL {o:Op}{d:Option Tmp}{k:BT AVal->EH->R}{env:BT AVal}{v:AVal}{h:EH}{r:RR}(hv:VH h)(hrel:aj P G (aF env) (aq h) h.nx o=some (v,aq h))
  (hr:fO env d v (fun env=>k env h)=some r):Plain P G o d k env h r:=by
 obtain⟨env',h4,h5⟩:=ma hr;exact⟨v,env',h,hrel,hv,h5,h4⟩
theorem Dc (o:Option AVal)(h:EH):ow (.opt o) h:=by cases o<;>trivial
theorem iE {o:Op}{d:Option Tmp}{k:BT AVal->EH->R}{env:BT AVal}{x:Option AVal}{h:EH}{r:RR}(hv:VH h)(hrel:aj P G (aF env) (aq h) h.nx o=x.map fun v=>(v,aq h))
  (hr:dK d k env (.opt x) h=some r):Plain P G o d k env h r :=
 jF hv (Dc _ _) (fun v H' hx=>by
  obtain⟨h1,h2⟩:=C9 hx;rw[hrel,h1,h2];rfl) hr
theorem Dd (ρ:Env)(id:Nat)(o:Op):(bB P G ρ id o).eff=[]\/∃ r,(bB P G ρ id o).eff=[r]:=by
 have hid:∀ v:AVal,aI v=[]\/∃ r,aI v=[r]:=fun v=>by cases v<;>first|exact .inl rfl|exact .inr ⟨_,rfl⟩
 have hb:∀ (b:Builtin) (ats:List TypeId) (args:List AVal),(iZ P id b ats args).eff=[]\/∃ r,(iZ P id b ats args).eff=[r]:=fun b ats args=>by
  unfold iZ;split
  ·split
   ·exact hid _
   ·exact .inr ⟨_,rfl⟩
  ·exact hid _
  ·exact hid _
  ·exact .inl rfl
  ·exact .inl rfl
 have hidM:∀ v:AVal,dv v=[]\/∃ r,dv v=[r]:=fun v=>by cases v<;>first|exact .inl rfl|exact .inr ⟨_,rfl⟩
 unfold bB;split<;>first|exact .inl rfl|exact .inr ⟨_,rfl⟩|exact hid _|exact hidM _|skip
 split
 ·exact hb _ _ _
 ·exact .inl rfl
theorem vB {E:EP}{env:BT AVal}{h:EH}{o:Op}(hv:VH h):ow (ot E env h o) h/\∀ v H',qt (ot E env h o) h v H'->aj E.P E.G (aF env) (aq h) h.nx o=some (v,H'):=by
 unfold ot sy;split
 ·exact⟨trivial,fun _ _ h=>h.elim⟩
 ·rename_i u H2 hop;obtain⟨e,al,h1,h2,h3,h4,h5,_⟩:=ye (hv.wf) hop;split
  ·rename_i hf;refine⟨trivial,fun v H' hx=>?_⟩;have he:e=none:=by
    cases e with
    | none=>rfl
    | some kb =>
     have h3':=(h3 kb.1 kb.2 rfl).1;have hf':(bB E.P E.G (aF env) (aq h).next o).eff=[]:=hf;rw[hf']at h3';cases h3'
   have hal:al=false:=by
    cases al with
    | false=>rfl
    | true =>
     obtain⟨b,hb⟩:=h4 rfl;rw[he]at hb;cases hb
   obtain⟨rfl,rfl⟩:=hx;subst he;subst hal;rw[hop];congr 2;have h1':H2.get=(aq h).get:=h1;have h2':H2.next=(aq h).next:=h2;cases H2;simp only at h1' h2';rw[h1',h2']
  ·rename_i r l hf;split
   ·rename_i g e' c hg;have hf':(bB E.P E.G (aF env) (aq h).next o).eff=r :: l:=hf;have hl:l=[]:=by
     rcases Dd (P:=E.P) (G:=E.G) (aF env) (aq h).next o with h6|⟨r',h6⟩
     ·rw[hf']at h6;cases h6
     ·rw[hf']at h6;cases h6;rfl
    subst hl;have key:H2=⟨fun j=>if j=r then some (.arr g e' c) else (aq h).get j,if al then (aq h).next+1 else (aq h).next⟩/\(if al=true then r=h.nx else r<h.nx):=by
     cases e with
     | none =>
      have hal:al=false:=by
       cases al with
       | false=>rfl
       | true=>obtain⟨b,hb⟩:=h4 rfl;cases hb
      subst hal;have h1':H2.get=(aq h).get:=h1;have h2':H2.next=(aq h).next:=h2;have hgr:(aq h).get r=some (.arr g e' c):=(by rw[<- h1'];exact hg);refine⟨?_,hv.wf r _ hgr⟩;cases H2;simp only at h1' h2';rw[h1',h2'];congr 1
      funext j
      split
      ·rename_i hj;rw[hj,hgr]
      ·rfl
     | some kb =>
      obtain⟨kk,b⟩:=kb;obtain⟨h7,h8⟩:=h3 kk b rfl;rw[hf']at h7;have hkk:kk=r:=(by simpa using h7);subst hkk;have hb:b=.arr g e' c:=by
       rw[h1]at hg;simp only[dT,if_true]at hg;exact Option.some.inj hg
      subst hb;refine⟨?_,?_⟩
      ·cases H2;simp only at h1 h2;rw[h1,h2];rfl
      ·cases al with
       | true =>
        obtain⟨b,hb⟩:=h4 rfl;simp only[Option.some.injEq,Prod.mk.injEq]at hb;exact hb.1
       | false=>exact h5 _ (h8 rfl)
    have hbeq:Nat.beq r h.nx=al:=by
     cases al with
     | true=>rw[show r=h.nx from key.2];exact XB _
     | false =>
      have:r<h.nx:=key.2;cases hb:Nat.beq r h.nx with
      | false=>rfl
      | true=>have:=VO hb;omega
    rw[hbeq];refine⟨?_,fun v H' hx=>?_⟩
    ·have:=key.2;cases al<;>exact this
    ·obtain⟨rfl,rfl⟩:=hx;rw[hop,key.1];rfl
   ·rename_i es hg;have hf':(bB E.P E.G (aF env) (aq h).next o).eff=r :: l:=hf;have hl:l=[]:=by
     rcases Dd (P:=E.P) (G:=E.G) (aF env) (aq h).next o with h6|⟨r',h6⟩
     ·rw[hf']at h6;cases h6
     ·rw[hf']at h6;cases h6;rfl
    subst hl;have key:H2=⟨fun j=>if j=r then some (.mp es) else (aq h).get j,if al then (aq h).next+1 else (aq h).next⟩/\(if al=true then r=h.nx else r<h.nx):=by
     cases e with
     | none =>
      have hal:al=false:=by
       cases al with
       | false=>rfl
       | true=>obtain⟨b,hb⟩:=h4 rfl;cases hb
      subst hal;have h1':H2.get=(aq h).get:=h1;have h2':H2.next=(aq h).next:=h2;have hgr:(aq h).get r=some (.mp es):=(by rw[<- h1'];exact hg);refine⟨?_,hv.wf r _ hgr⟩;cases H2;simp only at h1' h2';rw[h1',h2'];congr 1
      funext j
      split
      ·rename_i hj;rw[hj,hgr]
      ·rfl
     | some kb =>
      obtain⟨kk,b⟩:=kb;obtain⟨h7,h8⟩:=h3 kk b rfl;rw[hf']at h7;have hkk:kk=r:=(by simpa using h7);subst hkk;have hb:b=.mp es:=by
       rw[h1]at hg;simp only[dT,if_true]at hg;exact Option.some.inj hg
      subst hb;refine⟨?_,?_⟩
      ·cases H2;simp only at h1 h2;rw[h1,h2];rfl
      ·cases al with
       | true =>
        obtain⟨b,hb⟩:=h4 rfl;simp only[Option.some.injEq,Prod.mk.injEq]at hb;exact hb.1
       | false=>exact h5 _ (h8 rfl)
    have hbeq:Nat.beq r h.nx=al:=by
     cases al with
     | true=>rw[show r=h.nx from key.2];exact XB _
     | false =>
      have:r<h.nx:=key.2;cases hb:Nat.beq r h.nx with
      | false=>rfl
      | true=>have:=VO hb;omega
    rw[hbeq];refine⟨?_,fun v H' hx=>?_⟩
    ·have:=key.2;cases al<;>exact this
    ·obtain⟨rfl,rfl⟩:=hx;rw[hop,key.1];rfl
   ·exact⟨trivial,fun _ _ h=>h.elim⟩
theorem mY {E:EP}{ih:ki}{rd:Option Nat}{o:Op}{d:Option Tmp}{k:BT AVal->EH->R}{env:BT AVal}{h:EH}{r:RR}(hv:VH h)(hr:fZ o E ih rd d k env h=some r):Plain E.P E.G o d k env h r :=
 jF hv (vB hv).1 (vB hv).2 hr
end Go.Hx
namespace Go.Hx
variable {E:EP} {ih:ki} {rd:Option Nat} {d:Option Tmp} {k:BT AVal->EH->R} {env:BT AVal} {h:EH} {r:RR}
theorem De {v:AVal}{g:Nat}{e:TypeId}{c:List AVal}:ow (.eff v h.nx g e c true) h:=rfl
theorem Df (parts:Array (Nat × Operand))(f:Operand->AVal):(parts.toList.map (·.1)).zip ((parts.toList.map (·.2)).map f)=parts.toList.map fun p=>(p.1,f p.2):=by
 induction parts.toList with
 | nil=>rfl
 | cons p l ih=>simp only[List.map_cons,XQ,ih]
theorem zD {H H':AHeap}{b:Blk}(h:H.lay H.next b=some H'):H'=⟨fun j=>if j=H.next then some b else H.get j,H.next+1⟩:=by
 unfold AHeap.lay at h;rw[Vx rfl]at h;exact(Option.some.inj h).symm
theorem Dg {x:Option (AVal × AHeap)}{v:AVal}{H':AHeap}(hx:∀ u H2,x=some (u,H2)->∃ g e c,H2=⟨fun j=>if j=h.nx then some (.arr g e c) else (aq h).get j,h.nx+1⟩):
  ow (uU h.nx true x) h/\(qt (uU h.nx true x) h v H'->x=some (v,H')):=by
 unfold uU;split
 ·rename_i u H2;obtain⟨g,e,c,rfl⟩:=hx u H2 rfl;simp only[sI,if_true];refine⟨rfl,fun hr=>?_⟩;obtain⟨rfl,rfl⟩:=hr;rfl
 ·exact⟨trivial,fun hr=>hr.elim⟩
theorem NA {x:Operand}(hv:VH h)(hr:mU x E ih rd d k env h=some r):Plain E.P E.G (.move x) d k env h r:=by
 unfold mU at hr;rw[cZ]at hr;exact sL hv rfl hr
theorem NB {x:Operand}(hv:VH h)(hr:mU x E ih rd d k env h=some r):Plain E.P E.G (.assign x) d k env h r:=by
 unfold mU at hr;rw[cZ]at hr;exact sL hv rfl hr
theorem NC {e:TypeId}{x:Operand}(hv:VH h)(hr:uL e x E ih rd d k env h=some r):Plain E.P E.G (.box e x) d k env h r:=by
 unfold uL at hr;rw[cZ]at hr;refine jF hv De (fun v H' hx=>?_) hr;obtain⟨rfl,rfl⟩:=hx;show ((aq h).lay (aq h).next (.arr 0 e (ah E.G (aF env) x).cells)).map (fun H'=>(AVal.ptr h.nx 0 0,H'))=_;unfold AHeap.lay;rw[Vx rfl];rfl
theorem ND {t:TypeId}{parts:Array (Nat × Operand)}(hv:VH h)(hr:uM t parts E ih rd d k env h=some r):Plain E.P E.G (.build t parts) d k env h r:=by
 unfold uM at hr;rw[qs,Df]at hr;exact iE hv rfl hr
theorem NF {t:TypeId}{len:Nat}{parts:Array (Nat × Operand)}(hv:VH h)(hr:uN t len parts E ih rd d k env h=some r):Plain E.P E.G (.buildSlice t len parts) d k env h r:=by
 unfold uN at hr;rw[qs,Df]at hr;have hform:∀ u H2,jW E.P (aq h) h.nx t len (parts.toList.map fun p=>(p.1,ah E.G (aF env) p.2))=some (u,H2)->∃ e c,H2=⟨fun j=>if j=h.nx then some (.arr 0 e c) else (aq h).get j,h.nx+1⟩:=by
  intro u H2 hb;unfold jW at hb;split at hb
  ·split at hb
   ·simp only[VA,Vu,Prod.mk.injEq]at hb;obtain⟨z,_,c,_,H3,hl,_,rfl⟩:=hb;exact⟨_,_,zD hl⟩
   ·cases hb
  ·cases hb
 refine jF hv ?_ (fun v H' hx=>?_) hr
 ·unfold sy;split
  ·trivial
  ·rename_i u H2 hb;obtain⟨e,c,rfl⟩:=hform _ _ hb;simp only[if_true,show Nat.beq h.nx h.nx=true from XB _];rfl
 ·unfold sy at hx;split at hx
  ·exact hx.elim
  ·rename_i u H2 hb;obtain⟨e,c,rfl⟩:=hform _ _ hb;simp only[if_true,show Nat.beq h.nx h.nx=true from XB _]at hx;obtain⟨rfl,rfl⟩:=hx;exact hb
theorem NG {t:TypeId}{a:Operand}(hv:VH h)(hr:uO t a E ih rd d k env h=some r):Plain E.P E.G (.load t a) d k env h r:=by
 unfold uO at hr;rw[cZ]at hr;refine jF hv (Dc _ _) (fun v H' hx=>?_) hr;obtain⟨h1,rfl⟩:=C9 hx;show (fy E.P (aq h) t (ah E.G (aF env) a)).map _=_;rw[Ny h1];rfl
theorem NH {P:Program}{t:TypeId}{a v:AVal}(hv:VH h):ow (qd P h t a v) h:=by
 unfold qd;split
 ·rename_i id gen off;split
  ·rename_i g e cells hg;cases hb:Nat.beq g gen with
   | false=>trivial
   | true =>
    simp only;split
    ·show id<h.nx;exact hv _ _ hg
    ·trivial
  ·trivial
 ·trivial
theorem NI {t:TypeId}{a x:Operand}(hv:VH h)(hr:uP t a x E ih rd d k env h=some r):Plain E.P E.G (.store t a x) d k env h r:=by
 unfold uP at hr;cases hu:(E.P.underlying t).isSome with
 | false=>rw[hu]at hr;cases hr
 | true =>
  rw[hu]at hr;have hr':(cI E.G env a fun a=>cI E.G env x fun v=>dK d k env (qd E.P h t a v) h)=some r:=hr;rw[cZ,cZ]at hr';refine jF hv ?_ (fun v H' hx=>?_) hr'
  ·exact NH hv
  ·obtain⟨rfl,h2⟩:=Nz hx;show (if (E.P.underlying t).isSome then (ir E.P (aq h) t (ah E.G (aF env) a) (ah E.G (aF env) x)).map (fun H'=>(AVal.lit undef,H')) else none)=_;rw[Vx hu,h2];rfl
def Dh (P:Program)(G:Nat->Option (List AVal))(o:Op)(d:Option Tmp)(k:BT AVal->EH->R)(env:BT AVal)(h:EH)(r:RR):Prop :=
 ∃ op t x y u env',o=.binOp op t x y u/\iY (aq h) op (ah G (aF env) x) (ah G (aF env) y)=some true/\lT (P.underlying t)=true/\aF env'=aH (aF env) d (.lit (.bool (op == .neq)))/\k env' h=some r
theorem NJ {op:BinOp}{t:TypeId}{x y:Operand}{u:TypeId}(hv:VH h)(hr:uR op t x y u E ih rd d k env h=some r):Plain E.P E.G (.binOp op t x y u) d k env h r\/Dh E.P E.G (.binOp op t x y u) d k env h r:=by
 unfold uR at hr;rw[cZ,cZ]at hr;have hop:aj E.P E.G (aF env) (aq h) h.nx (.binOp op t x y u)=(aU E.P op t x y (ah E.G (aF env) x) (ah E.G (aF env) y)).map fun v=>(v,aq h):=rfl;unfold CQ at hr;split at hr
 ·rename_i kd a kd' b ha hb;rw[ha,hb]at hop;left;cases hk:Nat.beq (oq kd) (oq kd') with
  | false=>rw[hk]at hr;exact iE hv hop hr
  | true =>
   rw[hk]at hr;obtain rfl:=Nx hk;have hr':Option.rec (motive:=fun _=>R) (uQ E op t x y (.lit (.int kd a)) (.lit (.int kd b)) d k env h) (fun f=>f kd a b d k env h) (sF op)=some r:=hr;cases hi:sF op with
   | none =>
    rw[hi]at hr';exact iE hv hop hr'
   | some f =>
    rw[hi]at hr';obtain⟨v,env',h1,h2,h3⟩:=Nw (P:=E.P) (t:=t) (x:=x) (y:=y) hi hr';refine⟨v,env',h,?_,hv,h2,h3⟩;rw[hop,h1];rfl
 ·unfold CP at hr;split at hr
  ·exact .inl (iE hv hop hr)
  ·rename_i hn;right;cases hs:lT (E.P.underlying t) with
   | false=>rw[hs]at hr;cases hr
   | true =>
    rw[hs]at hr;obtain⟨env',h1,h2⟩:=ou (show kW d k env h (op == .neq)=some r from hr);exact⟨op,t,x,y,u,env',rfl,hn,hs,h1,h2⟩
  ·cases hr
theorem NK {fn:Fn}{first cap:Array Operand}(hv:VH h)(hr:uS fn first cap E ih rd d k env h=some r):Plain E.P E.G (.makeFunc fn first cap) d k env h r:=by
 unfold uS at hr;split at hr
 ·rw[qs,qs]at hr;exact sL hv rfl hr
 ·cases hr
theorem NL {t:TypeId}{x i:Operand}(hv:VH h)(hr:uT t x i E ih rd d k env h=some r):Plain E.P E.G (.indexAddr t x i) d k env h r:=by
 unfold uT at hr;rw[cZ,cZ]at hr;refine iE hv ?_ hr;simp only[aj,pW];split
 ·rename_i heq;rw[heq]
 ·rename_i hne;split
  ·rename_i heq;exact absurd heq (hne _ _)
  ·rfl
theorem NM {c a b:Operand}(hv:VH h)(hr:uV c a b E ih rd d k env h=some r):Plain E.P E.G (.pick c a b) d k env h r:=by
 unfold uV at hr;rw[cZ]at hr;split at hr
 ·rename_i t hc;have hop:∀ t',ah E.G (aF env) c=.lit (.bool t')->aj E.P E.G (aF env) (aq h) h.nx (.pick c a b)=some (if t' then ah E.G (aF env) a else ah E.G (aF env) b,aq h):=fun t' ht=>by
   simp only[aj,ht]
  cases t with
  | false =>
   have hr':(cI E.G env b fun v=>fO env d v fun env=>k env h)=some r:=hr;rw[cZ]at hr';exact sL hv (hop _ hc) hr'
  | true =>
   have hr':(cI E.G env a fun v=>fO env d v fun env=>k env h)=some r:=hr;rw[cZ]at hr';exact sL hv (hop _ hc) hr'
 ·cases hr
theorem NN {e:TypeId}(hv:VH h)(hr:uW e E ih rd d k env h=some r):Plain E.P E.G (.alloc e) d k env h r:=by
 unfold uW at hr;split at hr
 ·rename_i z hz;refine jF hv De (fun v H' hx=>?_) hr;obtain⟨rfl,rfl⟩:=hx;show ((bW E.P e).bind fun z=>((aq h).lay (aq h).next (.arr 0 e z)).map fun H'=>(AVal.ptr h.nx 0 0,H'))=_;rw[hz];show ((aq h).lay (aq h).next (.arr 0 e z)).map _=_;unfold AHeap.lay;rw[Vx rfl];rfl
 ·cases hr
theorem NO {x:Operand}(hv:VH h)(hr:uX x E ih rd d k env h=some r):Plain E.P E.G (.nilCheck x) d k env h r:=by
 unfold uX at hr;rw[cZ]at hr;exact iE hv rfl hr
theorem NP {op:UnOp}{t:TypeId}{x:Operand}(hv:VH h)(hr:uY op t x E ih rd d k env h=some r):Plain E.P E.G (.unOp op t x) d k env h r:=by
 unfold uY at hr;rw[cZ]at hr;exact iE hv rfl hr
theorem NQ {s t:TypeId}{x:Operand}(hv:VH h)(hr:uZ s t x E ih rd d k env h=some r):Plain E.P E.G (.convert s t x) d k env h r:=by
 unfold uZ at hr;rw[cZ]at hr;exact iE hv rfl hr
theorem NR {t:Operand}{i:Nat}(hv:VH h)(hr:vg t i E ih rd d k env h=some r):Plain E.P E.G (.extract t i) d k env h r:=by
 unfold vg at hr;rw[cZ]at hr;exact iE hv rfl hr
theorem NS {t:TypeId}{x i:Operand}(hv:VH h)(hr:vf t x i E ih rd d k env h=some r):Plain E.P E.G (.index t x i) d k env h r:=by
 unfold vf at hr;rw[cZ,cZ]at hr;exact iE hv rfl hr
theorem NT {t:TypeId}{x:Operand}{f:Nat}(hv:VH h)(hr:ve t x f E ih rd d k env h=some r):Plain E.P E.G (.field t x f) d k env h r:=by
 unfold ve at hr;rw[cZ]at hr;refine iE hv ?_ hr;simp only[aj,B8];cases cf E.P t f with
 | none=>rfl
 | some of =>
  simp only[Option.bind_some];generalize ah E.G (aF env) x=v;cases v with
  | lit v=>cases v<;>rfl
  | _=>rfl
theorem NU {t:TypeId}{x:Operand}{f:Nat}(hv:VH h)(hr:vd t x f E ih rd d k env h=some r):Plain E.P E.G (.fieldAddr t x f) d k env h r:=by
 unfold vd at hr;rw[cZ]at hr;refine iE hv ?_ hr;simp only[aj,pV];cases cf E.P t f with
 | none=>rfl
 | some of =>
  simp only[Option.bind_some];generalize ah E.G (aF env) x=v;cases v with
  | ptr id gen off =>
   show Option.map _ ((aq h).live id gen)=Option.map _ (Option.map _ ((aq h).live id gen));rw[Option.map_map];rfl
  | _=>rfl
theorem NV {t:TypeId}{l c:Operand}(hv:VH h)(hr:va t l c E ih rd d k env h=some r):Plain E.P E.G (.makeSlice t l c) d k env h r:=by
 unfold va at hr;rw[cZ,cZ]at hr;have hform:∀ u H2,jz E.P (aq h) h.nx t (ah E.G (aF env) l) (ah E.G (aF env) c)=some (u,H2)->∃ g e c,H2=⟨fun j=>if j=h.nx then some (.arr g e c) else (aq h).get j,h.nx+1⟩:=by
  intro u H2 hb;unfold jz at hb;split at hb
  ·split at hb
   ·simp only[VA,Vu,Prod.mk.injEq]at hb;obtain⟨z,_,H3,hl,_,rfl⟩:=hb;exact⟨_,_,_,zD hl⟩
   ·cases hb
  ·cases hb
 exact jF hv (Dg (v:=.lit undef) (H':=aq h) hform).1 (fun v H' hx=>(Dg hform).2 hx) hr
theorem NW {t:TypeId}{x:Operand}{l u m:Option Operand}(hv:VH h)(hr:vb t x l u m E ih rd d k env h=some r):Plain E.P E.G (.slice t x l u m) d k env h r:=by
 unfold vb at hr;split at hr
 ·rw[cZ,C8,C8]at hr;exact iE hv rfl hr
 ·cases hr
theorem NX {c:Call}{t:TypeId}{x:Operand}(hb:c.callee=.builtin .len)(ht:c.argTypes.toList=[t])(ha:c.args.toList=[x])(hv:VH h)(hr:vh t x E ih rd d k env h=some r):Plain E.P E.G (.call c) d k env h r:=by
 unfold vh at hr;rw[cZ]at hr;refine iE hv ?_ hr;simp only[aj,hb,ht,ha];rfl
theorem NY {P:Program}{H H':AHeap}{nx:Nat}{t u:TypeId}{id g o l z:Nat}{x v:AVal}(hr:bM P H nx t u (.own id g o l z) x=some (v,H')):
  (v=.own id g o l z/\H'=H)\/∃ l' e c,v=.own id (g+1) 0 l' z/\H'=H.upd id (.arr (g+1) e c)/\∃ e0 c0,H.live id g=some (e0,c0):=by
 unfold bM at hr;split at hr
 ·split at hr
  ·simp only[VA]at hr;obtain⟨_,_,nx',_,ec,hl,hr⟩:=hr;split at hr
   ·split at hr
    ·simp only[Option.some.injEq,Prod.mk.injEq]at hr;exact .inl ⟨hr.1.symm,hr.2.symm⟩
    ·simp only[Option.some.injEq,Prod.mk.injEq]at hr;exact .inr ⟨_,_,_,hr.1.symm,hr.2.symm,ec.1,ec.2,hl⟩
   ·cases hr
  ·cases hr
 ·cases hr
theorem append_nil {P:Program}{H H':AHeap}{t u:TypeId}{s x v:AVal}(hs:∀ a b c d e,s≠.own a b c d e)(hr:bM P H H.next t u s x=some (v,H')):
  (v=.lit (.slice none 0 0)/\H'=H)\/∃ l z e c,v=.own H.next 0 0 l z/\H'=⟨fun j=>if j=H.next then some (.arr 0 e c) else H.get j,H.next+1⟩:=by
 unfold bM at hr;split at hr
 ·split at hr
  ·simp only[VA]at hr;obtain⟨_,_,nx',_,hr⟩:=hr;split at hr
   ·split at hr
    ·simp only[Option.some.injEq,Prod.mk.injEq]at hr;exact .inl ⟨hr.1.symm,hr.2.symm⟩
    ·split at hr
     ·simp only[Vu,Prod.mk.injEq]at hr;obtain⟨H3,hl,h1,rfl⟩:=hr;exact .inr ⟨_,_,_,_,h1.symm,zD hl⟩
     ·cases hr
   ·exact absurd rfl (hs _ _ _ _ _)
   ·cases hr
  ·cases hr
 ·cases hr
theorem NZ {c:Call}{t u:TypeId}{s x:Operand}(hb:c.callee=.builtin .append)(ht:c.argTypes.toList=[t,u])(ha:c.args.toList=[s,x])(hv:VH h)(hr:vj t u s x E ih rd d k env h=some r):Plain E.P E.G (.call c) d k env h r:=by
 unfold vj at hr;rw[cZ,cZ]at hr;have hop:aj E.P E.G (aF env) (aq h) h.nx (.call c)=bM E.P (aq h) h.nx t u (ah E.G (aF env) s) (ah E.G (aF env) x):=by
  simp only[aj,hb,ht,ha];rfl
 generalize ah E.G (aF env) s=sv at hr hop;generalize ah E.G (aF env) x=xv at hr hop;unfold CR at hr;split at hr
 ·rename_i id g o l z;split at hr
  ·rename_i g' o' l' z' H' happ;rename_i id';have happ0:=happ;rcases NY happ with ⟨h1,rfl⟩|⟨l2,e,c2,h1,rfl,e0,c0,hlive⟩
   ·simp only[AVal.own.injEq]at h1;obtain⟨rfl,rfl,rfl,rfl,rfl⟩:=h1;have hb2:Nat.beq g' g'=true:=XB _;rw[hb2]at hr;refine jF (x:=.val (.own id' g' o' l' z')) hv trivial (fun v H'' hx=>?_) hr;obtain⟨rfl,rfl⟩:=hx;rw[hop,happ0]
   ·simp only[AVal.own.injEq]at h1;obtain⟨rfl,rfl,rfl,rfl,rfl⟩:=h1;have hne:Nat.beq (g+1) g=false:=by
     cases hbq:Nat.beq (g+1) g with
     | false=>rfl
     | true=>have:=VO hbq;omega
    rw[hne]at hr;have hr':dK d k env (sI (.own id' (g+1) 0 l' z') id' false (((aq h).upd id' (.arr (g+1) e c2)).get id')) h=some r:=hr;have hget:((aq h).upd id' (.arr (g+1) e c2)).get id'=some (.arr (g+1) e c2):=(by simp [AHeap.upd]);rw[hget]at hr';refine jF (x:=.eff (.own id' (g+1) 0 l' z') id' (g+1) e c2 false) hv ?_ (fun v H'' hx=>?_) hr'
    ·show id'<h.nx;exact jD hv.wf hlive
    ·obtain⟨rfl,rfl⟩:=hx;rw[hop,happ0];rfl
  ·cases hr
 ·rename_i hs;split at hr
  ·rename_i id' g' o' l' z' H' happ;rcases append_nil (H:=aq h) (fun a b c d e he=>hs a b c d e he) happ with ⟨h1,_⟩|⟨l2,z2,e,c2,h1,h2⟩
   ·cases h1
   ·have hget:H'.get h.nx=some (.arr 0 e c2):=by
     rw[h2];show (if h.nx=h.nx then some (Blk.arr 0 e c2) else _)=_;rw[Vx rfl]
    rw[hget]at hr;refine jF (x:=.eff (.own id' g' o' l' z') h.nx 0 e c2 true) hv rfl (fun v H'' hx=>?_) hr;obtain⟨rfl,rfl⟩:=hx;rw[hop,happ,h2];rfl
  ·rename_i v H' happ;rcases append_nil (H:=aq h) (fun a b c d e he=>hs a b c d e he) happ with ⟨h1,h2⟩|⟨l2,z2,e,c2,h1,h2⟩
   ·refine jF (x:=.val (.lit v)) hv trivial (fun v H'' hx=>?_) hr;obtain⟨rfl,rfl⟩:=hx;rw[hop,happ,h2]
   ·cases h1
  ·cases hr
theorem N0 (c:Call)(b:Builtin):(∃ t x,b=.len/\c.argTypes.toList=[t]/\c.args.toList=[x]/\qj c b=vh t x) \/
  (∃ t u s x,b=.append/\c.argTypes.toList=[t,u]/\c.args.toList=[s,x]/\qj c b=vj t u s x)\/qj c b=fZ (.call c):=by
 unfold qj;split
 ·rename_i t x h1 h2;exact .inl ⟨t,x,rfl,h1,h2,rfl⟩
 ·rename_i t u s x h1 h2;exact .inr (.inl ⟨t,u,s,x,rfl,h1,h2,rfl⟩)
 ·exact .inr (.inr rfl)
theorem N1 {o:Op}(hv:VH h)(hr:vk o E ih rd d k env h=some r):
  Plain E.P E.G o d k env h r\/Dh E.P E.G o d k env h r\/(∃ fv args ats,o=.call ⟨.value fv,args,ats⟩/\zj fv args E ih rd d k env h=some r)\/(∃ x,o=.panic x/\zi x E ih rd d k env h=some r):=by
 cases o with
 | move x=>exact .inl (NA hv (show mU x E ih rd d k env h=some r from hr))
 | assign x=>exact .inl (NB hv (show mU x E ih rd d k env h=some r from hr))
 | pick c a b=>exact .inl (NM hv (show uV c a b E ih rd d k env h=some r from hr))
 | alloc e=>exact .inl (NN hv (show uW e E ih rd d k env h=some r from hr))
 | box e x=>exact .inl (NC hv (show uL e x E ih rd d k env h=some r from hr))
 | build t parts=>exact .inl (ND hv (show uM t parts E ih rd d k env h=some r from hr))
 | buildSlice t l parts=>exact .inl (NF hv (show uN t l parts E ih rd d k env h=some r from hr))
 | load t a=>exact .inl (NG hv (show uO t a E ih rd d k env h=some r from hr))
 | store t a x=>exact .inl (NI hv (show uP t a x E ih rd d k env h=some r from hr))
 | nilCheck x=>exact .inl (NO hv (show uX x E ih rd d k env h=some r from hr))
 | binOp op t x y u=>exact(NJ hv (show uR op t x y u E ih rd d k env h=some r from hr)).elim .inl fun h=>.inr (.inl h)
 | unOp op t x=>exact .inl (NP hv (show uY op t x E ih rd d k env h=some r from hr))
 | convert s t x=>exact .inl (NQ hv (show uZ s t x E ih rd d k env h=some r from hr))
 | makeInterface t x=>exact .inl (mY hv (show fZ (.makeInterface t x) E ih rd d k env h=some r from hr))
 | insert t m a x=>exact .inl (mY hv (show fZ (.insert t m a x) E ih rd d k env h=some r from hr))
 | makeMap t x=>exact .inl (mY hv (show fZ (.makeMap t x) E ih rd d k env h=some r from hr))
 | lookup t x i ok=>exact .inl (mY hv (show fZ (.lookup t x i ok) E ih rd d k env h=some r from hr))
 | mapUpdate t m a x=>exact .inl (mY hv (show fZ (.mapUpdate t m a x) E ih rd d k env h=some r from hr))
 | mapEntry t m a=>exact .inl (mY hv (show fZ (.mapEntry t m a) E ih rd d k env h=some r from hr))
 | entryStore t m a x=>exact .inl (mY hv (show fZ (.entryStore t m a x) E ih rd d k env h=some r from hr))
 | makeFunc fn a b=>exact .inl (NK hv (show uS fn a b E ih rd d k env h=some r from hr))
 | makeSlice t l c=>exact .inl (NV hv (show va t l c E ih rd d k env h=some r from hr))
 | slice t x l u m=>exact .inl (NW hv (show vb t x l u m E ih rd d k env h=some r from hr))
 | fieldAddr t x f=>exact .inl (NU hv (show vd t x f E ih rd d k env h=some r from hr))
 | field t x f=>exact .inl (NT hv (show ve t x f E ih rd d k env h=some r from hr))
 | indexAddr t x i=>exact .inl (NL hv (show uT t x i E ih rd d k env h=some r from hr))
 | index t x i=>exact .inl (NS hv (show vf t x i E ih rd d k env h=some r from hr))
 | extract t i=>exact .inl (NR hv (show vg t i E ih rd d k env h=some r from hr))
 | panic x=>exact .inr (.inr (.inr ⟨x,rfl,hr⟩))
 | call c =>
  have hr':CS c E ih rd d k env h=some r:=hr;obtain⟨callee,args,ats⟩:=c;cases callee with
  | value fv=>exact .inr (.inr (.inl ⟨fv,args,ats,rfl,hr'⟩))
  | builtin b =>
   refine .inl ?_;have hr2:qj ⟨.builtin b,args,ats⟩ b E ih rd d k env h=some r:=hr';rcases N0 ⟨.builtin b,args,ats⟩ b with ⟨t,x,rfl,h1,h2,h3⟩|⟨t,u,s,x,rfl,h1,h2,h3⟩|h3
   ·rw[h3]at hr2;exact NX rfl h1 h2 hv hr2
   ·rw[h3]at hr2;exact NZ rfl h1 h2 hv hr2
   ·rw[h3]at hr2;exact mY hv hr2
  | invoke a b=>cases hr'
 | _=>cases hr
end Go.Hx
namespace Go.Hx
theorem ox {f:AVal->Option (AVal × List Nat)}:∀ {l l':List AVal} {rs:List Nat},bX f l=some (l',rs) ->
  l'.length=l.length/\∀ i (_:i<l.length) (_:i<l'.length),∃ ri,f l[i]=some (l'[i],ri)/\∀ r,r∈ri->r∈rs:=by
 intro l
 induction l with
 | nil =>
  intro l' rs h;simp only[bX,Option.some.injEq,Prod.mk.injEq]at h;obtain⟨rfl,rfl⟩:=h;exact⟨rfl,fun i h _=>absurd h (VX _)⟩
 | cons x l ih =>
  intro l' rs h;have h':(match f x,bX f l with|some (y,a),some (l,b)=>some (y :: l,a++b)|_,_=>none)=some (l',rs):=h;split at h'
  ·rename_i y a l2 b h1 h2;simp only[Option.some.injEq,Prod.mk.injEq]at h';obtain⟨rfl,rfl⟩:=h';obtain⟨h3,h4⟩:=ih h2;refine⟨by simp [h3],fun i hi hi'=>?_⟩;cases i with
   | zero=>exact⟨a,h1,fun r hr=>Xi _ hr⟩
   | succ i =>
    obtain⟨ri,h5,h6⟩:=h4 i (by simpa using hi) (by simpa using hi');exact⟨ri,h5,fun r hr=>Xb _ (h6 r hr)⟩
  ·cases h'
theorem mZ {h:EH}{id g:Nat}{e:TypeId}{c:List AVal}(hg:aS h.hp id=some (.arr g e c)):(aq h).get id=some (.arr g e c):=by
 show Option.map EBlk.kS (aS h.hp id)=_;rw[hg];rfl
theorem Di {h:EH}:∀ (fuel:Nat) {v v':AVal} {rs:List Nat},iC h fuel v=some (v',rs)->∀ H2:AHeap,(∀ r,r∈rs->H2.get r=(aq h).get r)->Fz (fun _=>True) H2 0 v v':=by
 intro fuel
 induction fuel with
 | zero=>intro v v' rs h;cases h
 | succ f ih =>
  intro v v' rs hv H2 ha;have list:∀ {l l':List AVal} {rs':List Nat},bX (iC h f) l=some (l',rs')->(∀ r,r∈rs'->H2.get r=(aq h).get r) ->
    l'.length=l.length/\∀ i (_:i<l.length) (_:i<l'.length),Fz (fun _=>True) H2 0 l[i] l'[i]:=fun hm ha'=>by
   obtain⟨h1,h2⟩:=ox hm;exact⟨h1,fun i hi hi'=>let ⟨ri,h3,h4⟩:=h2 i hi hi';ih h3 H2 fun r hr=>ha' r (h4 r hr)⟩
  cases v with
  | lit v =>
   have hv':some (AVal.lit v,[])=some (v',rs):=hv;simp only[Option.some.injEq,Prod.mk.injEq]at hv';obtain⟨rfl,rfl⟩:=hv';exact .lit _
  | vec n c =>
   have hv':(bX (iC h f) c).map (fun p=>(AVal.vec n p.1,p.2))=some (v',rs):=hv;simp only[Vu,Prod.mk.injEq]at hv';obtain⟨⟨c',rs'⟩,h1,rfl,rfl⟩:=hv';obtain⟨h2,h3⟩:=list h1 ha;exact .vec h2 h3
  | vptr c o =>
   have hv':(bX (iC h f) c).map (fun p=>(AVal.vptr p.1 o,p.2))=some (v',rs):=hv;simp only[Vu,Prod.mk.injEq]at hv';obtain⟨⟨c',rs'⟩,h1,rfl,rfl⟩:=hv';obtain⟨h2,h3⟩:=list h1 ha;exact .vptr h2 h3
  | agg c =>
   have hv':(bX (iC h f) c).map (fun p=>(AVal.agg p.1,p.2))=some (v',rs):=hv;simp only[Vu,Prod.mk.injEq]at hv';obtain⟨⟨c',rs'⟩,h1,rfl,rfl⟩:=hv';obtain⟨h2,h3⟩:=list h1 ha;exact .agg h2 h3
  | tup c =>
   have hv':(bX (iC h f) c).map (fun p=>(AVal.tup p.1,p.2))=some (v',rs):=hv;simp only[Vu,Prod.mk.injEq]at hv';obtain⟨⟨c',rs'⟩,h1,rfl,rfl⟩:=hv';obtain⟨h2,h3⟩:=list h1 ha;exact .tup h2 h3
  | clo g a b =>
   have hv':(match bX (iC h f) a,bX (iC h f) b with|some p,some q=>some (AVal.clo g p.1 q.1,p.2++q.2)|_,_=>none)=some (v',rs):=hv;split at hv'
   ·rename_i p q h1 h2;simp only[Option.some.injEq,Prod.mk.injEq]at hv';obtain⟨rfl,rfl⟩:=hv';obtain⟨h3,h4⟩:=list h1 fun r hr=>ha r (Xi _ hr);obtain⟨h5,h6⟩:=list h2 fun r hr=>ha r (Xb _ hr);exact .clo h3 h5 h4 h6
   ·cases hv'
  | own id g o l z =>
   have hv':(match aS h.hp id with|some (.arr g' _ cells)=>if g'=g/\o+l*z<=cells.length then (bX (iC h f) ((cells.drop o).take (l*z))).map fun p=>(AVal.vec l p.1,id :: p.2) else none|_=>none)=some (v',rs):=hv;split at hv'
   ·rename_i g' e cells hg;split at hv'
    ·rename_i hc;obtain⟨rfl,hle⟩:=hc;simp only[Vu,Prod.mk.injEq]at hv';obtain⟨⟨c',rs'⟩,h1,rfl,rfl⟩:=hv';obtain⟨h2,h3⟩:=list h1 fun r hr=>ha r (Wz _ hr);have hlen:((cells.drop o).take (l*z)).length=l*z:=(by simp;omega);refine .frz trivial ((ha id (WX ..)).trans (mZ hg)) (h2.trans hlen) fun i hi h2i hi'=>?_;have:=h3 i (by omega) hi';simpa using this
    ·cases hv'
   ·cases hv'
  | ptr id g o =>
   have hv':(match aS h.hp id with|some (.arr g' _ (x :: cells))=>if g'=g then (bX (iC h f) (x :: cells)).map fun p=>(AVal.vptr p.1 o,id :: p.2) else none|_=>none)=some (v',rs):=hv;split at hv'
   ·rename_i g' e x cells hg;split at hv'
    ·rename_i hc;subst hc;simp only[Vu,Prod.mk.injEq]at hv';obtain⟨⟨c',rs'⟩,h1,rfl,rfl⟩:=hv';obtain⟨h2,h3⟩:=list h1 fun r hr=>ha r (Wz _ hr);exact .pfrz trivial ((ha id (WX ..)).trans (mZ hg)) (by simp) h2 h3
    ·cases hv'
   ·cases hv'
  | yld n=>cases hv
theorem N3 {f:AVal->Option AVal}:∀ {l l':List AVal},kT f l=some l'->l'.length=l.length/\∀ i (_:i<l.length) (_:i<l'.length),f l[i]=some l'[i]:=by
 intro l
 induction l with
 | nil =>
  intro l' h;simp only[kT,Option.some.injEq]at h;subst h;exact⟨rfl,fun i h _=>absurd h (VX _)⟩
 | cons x l ih =>
  intro l' h;have h':(match f x,kT f l with|some y,some l=>some (y :: l)|_,_=>none)=some l':=h;split at h'
  ·rename_i y l2 h1 h2;simp only[Option.some.injEq]at h';subst h';obtain⟨h3,h4⟩:=ih h2;refine⟨by simp [h3],fun i hi hi'=>?_⟩;cases i with
   | zero=>exact h1
   | succ i=>exact h4 i (by simpa using hi) (by simpa using hi')
  ·cases h'
theorem Dj {h:EH}:∀ (fuel:Nat) {v v':AVal},oo h fuel v=some v'->Fresh (aq h) v v':=by
 intro fuel
 induction fuel with
 | zero=>intro v v' h;cases h
 | succ f ih =>
  intro v v' hv;have list:∀ {l l':List AVal},kT (oo h f) l=some l'->l'.length=l.length/\∀ i (_:i<l.length) (_:i<l'.length),Fresh (aq h) l[i] l'[i]:=fun hm=>by
   obtain⟨h1,h2⟩:=N3 hm;exact⟨h1,fun i hi hi'=>ih (h2 i hi hi')⟩
  cases v with
  | lit v =>
   have hv':some (AVal.lit v)=some v':=hv;cases hv';exact .lit _
  | agg c =>
   have hv':(kT (oo h f) c).map AVal.agg=some v':=hv;simp only[Vu]at hv';obtain⟨c',h1,rfl⟩:=hv';obtain⟨h2,h3⟩:=list h1;exact .agg h2 h3
  | tup c =>
   have hv':(kT (oo h f) c).map AVal.tup=some v':=hv;simp only[Vu]at hv';obtain⟨c',h1,rfl⟩:=hv';obtain⟨h2,h3⟩:=list h1;exact .tup h2 h3
  | own id g o l z =>
   have hv':(match aS h.hp id with|some (.arr g' _ cells)=>if g'=g/\o+l*z<=cells.length then (kT (oo h f) ((cells.drop o).take (l*z))).map (AVal.vec l) else none|_=>none)=some v':=hv;split at hv'
   ·rename_i g' e cells hg;split at hv'
    ·rename_i hc;obtain⟨rfl,hle⟩:=hc;simp only[Vu]at hv';obtain⟨c',h1,rfl⟩:=hv';obtain⟨h2,h3⟩:=list h1;have hlen:((cells.drop o).take (l*z)).length=l*z:=(by simp;omega);refine .own (mZ hg) (h2.trans hlen) fun i hi h2i hi'=>?_;have:=h3 i (by omega) hi';simpa using this
    ·cases hv'
   ·cases hv'
  | _=>cases hv
theorem je {f:AVal->AVal->Bool}(hf:∀ x y,f x y=true->x=y):∀ {a b:List AVal},fY f a b=true->a=b:=by
 intro a
 induction a with
 | nil=>intro b h;cases b with
  | nil=>rfl
  | cons=>cases h
 | cons x l ih =>
  intro b h;cases b with
  | nil=>cases h
  | cons y b =>
   have h':(match f x y with|true=>fY f l b|false=>false)=true:=h;split at h'
   ·rename_i hxy;rw[hf _ _ hxy,ih h']
   ·cases h'
theorem Dk:∀ (fuel:Nat) (a b:AVal),qf fuel a b=true->a=b:=by
 intro fuel
 induction fuel with
 | zero=>intro a b h;cases h
 | succ f ih =>
  intro a b h;have h':yV (qf f) a b=true:=h;unfold yV at h';split at h'
  ·simp only[VY,decide_eq_true_eq,vA]at h';rw[h'.1,h'.2]
  ·simp only[beq_iff_eq]at h';rw[h']
  ·rfl
  ·simp only[VY]at h';rw[VO h'.1,je ih h'.2]
  ·simp only[VY]at h';rw[VO h'.1,je ih h'.2]
  ·rw[je ih h']
  ·rw[je ih h']
  ·simp only[VY]at h';rw[VO h'.1,je ih h'.2.1,je ih h'.2.2]
  ·cases h'
theorem Dl {args:List AVal}{v:AVal}:∀ {l:List (List AVal × AVal)},uI args l=some v->(args,v)∈l:=by
 intro l
 induction l with
 | nil=>intro h;cases h
 | cons p l ih =>
  intro h;have h':Bool.casesOn (motive:=fun _=>Option AVal) (fY (qf 40) p.1 args) (uI args l) (some p.2)=some v:=h;cases he:fY (qf 40) p.1 args with
  | true =>
   rw[he]at h';have:=je (Dk 40) he;have h2:p.2=v:=Option.some.inj h';rw[<- this,<- h2];exact WX ..
  | false =>
   rw[he]at h';exact Wz _ (ih h')
theorem N4 {k:BT AVal->R}{r:RR}:∀ {l:List AVal} {i:Nat} {t:BT AVal},uF k l i t=some r->∃ t',k t'=some r/\∀ m,eL t' m=if i<=m/\m<i+l.length then l[m - i]? else eL t m:=by
 intro l
 induction l with
 | nil=>intro i t h;exact⟨t,h,fun m=>by rw[Vw (by simp only[List.length_nil];omega)]⟩
 | cons x l ih =>
  intro i t h;have h':(mQ t i x fun t=>dG (Nat.succ i) fun i=>uF k l i t)=some r:=h;obtain⟨t1,h1,h2⟩:=zy _ _ _ _ _ h';rw[iD]at h1;obtain⟨t',h3,h4⟩:=ih h1;refine⟨t',h3,fun m=>?_⟩;rw[h4,h2];simp only[List.length_cons,Nat.succ_eq_add_one];by_cases hm:m=i
  ·subst hm;rw[Vw (by omega),Vx rfl,Vx (by omega)];simp
  ·rw[Vw hm];by_cases hm2:i+1<=m/\m<i+1+l.length
   ·rw[Vx hm2,Vx (by omega)];have:m - i=(m - (i+1))+1:=(by omega);rw[this,List.getElem?_cons_succ]
   ·rw[Vw hm2,Vw (by omega)]
theorem N5 {k:BT AVal->R}{r:RR}{l:List AVal}(h:uF k l 0 .nil=some r):∃ t,k t=some r/\aF t=gQ l:=by
 obtain⟨t,h1,h2⟩:=N4 h;refine⟨t,h1,funext fun m=>?_⟩;rw[vv,h2];unfold gQ;split
 ·rfl
 ·rename_i hm;rw[VB (by omega),vu]
theorem N6 {k:BT AVal->R}{r:RR}:∀ {ps:List Tmp} {vs:List AVal} {e:BT AVal},uJ k ps vs e=some r->∃ e',k e'=some r/\vs.length=ps.length/\aF e'=lV (aF e) (ps.zip vs):=by
 intro ps
 induction ps with
 | nil =>
  intro vs e h;cases vs with
  | nil=>exact⟨e,h,rfl,rfl⟩
  | cons=>cases h
 | cons p ps ih =>
  intro vs e h;cases vs with
  | nil=>cases h
  | cons v vs =>
   have h':(mQ e p v fun e=>uJ k ps vs e)=some r:=h;obtain⟨t1,h1,h2⟩:=zy _ _ _ _ _ h';obtain⟨e',h3,h4,h5⟩:=ih h1;refine⟨e',h3,by simp [h4],?_⟩;rw[h5,C7 h2];rfl
theorem N7 {n:Nat}:∀ (t:BT AVal) (a b:Nat),okB t a b n=true->∀ j v,eL t j=some v->a*j+b<n:=by
 intro t
 induction t with
 | nil=>intro a b _ j v h;cases h
 | node v l r ihl ihr =>
  intro a b h j u hj;have h':(CK v b n && (okB l (2*a) (a+b) n && okB r (2*a) (2*a+b) n))=true:=h;simp only[VY]at h';obtain⟨h1,h2,h3⟩:=h';cases j with
  | zero =>
   rw[Nt]at hj;rw[hj]at h1;have h4:b<n:=(by rw[<- YF];exact h1);omega
  | succ m =>
   rw[kX]at hj;split at hj
   ·rename_i hm;have:=ihl _ _ h2 _ _ hj;have h4:m=2*(m / 2):=(by omega);generalize m / 2=q at this h4;subst h4;have h5:a*(2*q+1)=2*a*q+a:=(by rw[Xz,Nat.mul_one,<- WM,Xl a 2]);omega
   ·rename_i hm;have:=ihr _ _ h3 _ _ hj;have h4:m=2*(m / 2)+1:=(by omega);generalize m / 2=q at this h4;subst h4;have h5:a*(2*q+1+1)=2*a*q+2*a:=(by rw[show 2*q+1+1=2*q+2 from rfl,Xz,<- WM,Xl a 2]);omega
theorem N8 {env:BT AVal}{n:Nat}(h:okB env 1 0 n=true):eX (aF env) n=aF env:=by
 funext t
 unfold eX;split
 ·rfl
 ·rename_i ht;rw[vv];cases hg:eL env t with
  | none=>rfl
  | some v =>
   have:=N7 env 1 0 h t v hg;omega
end Go.Hx
namespace Go.Hx
theorem kY {l:List Nat}{n:Nat}:fg l n=true↔n∈l:=by
 induction l with
 | nil=>exact⟨fun h=>absurd (show false=true from h) (by decide),fun h=>absurd h (List.not_mem_nil)⟩
 | cons x l ih =>
  have h':fg (x :: l) n=Bool.rec (motive:=fun _=>Bool) (fg l n) true (Nat.beq x n):=rfl;rw[h',List.mem_cons];cases hb:Nat.beq x n with
  | true=>exact⟨fun _=>.inl (VO hb).symm,fun _=>rfl⟩
  | false =>
   refine⟨fun h=>.inr (ih.1 h),?_⟩;rintro(rfl|h)
   ·rw[XB]at hb;cases hb
   ·exact ih.2 h
theorem Dw {l:List Nat}{n:Nat}(h:fg l n=false):n ∉ l:=fun hm=>by rw[kY.2 hm]at h;cases h
theorem Ox {f:Nat->Bool}{l:List Nat}(h:yW f l=true):∀ n,n∈l->f n=true:=by
 induction l with
 | nil=>intro n hn;cases hn
 | cons x l ih =>
  have h':Bool.rec (motive:=fun _=>Bool) false (yW f l) (f x)=true:=h;cases hx:f x with
  | false=>rw[hx]at h';cases h'
  | true =>
   rw[hx]at h';intro n hn;rcases List.mem_cons.1 hn with rfl|hn
   ·exact hx
   ·exact ih h' n hn
def jf (lo:Nat)(kp acc:List Nat):Nat->Prop:=fun j=>(j<lo/\j∈kp)\/(¬ j<lo/\j∈acc)
def qx (h:EH)(lo:Nat)(kp acc:List Nat)(id:Nat):Prop:=¬ id<lo/\∃ g e c,aS h.hp id=some (.arr g e c)/\∀ i (h:i<c.length),Ev.Cln (jf lo kp acc) c[i]
def gU (h:EH)(lo:Nat)(kp acc acc':List Nat):Prop:=(∀ id,id∈acc->id∈acc')/\∀ id,id∈acc'->id∈acc\/qx h lo kp acc' id
theorem jf.mono {lo:Nat}{kp acc acc':List Nat}(hs:∀ id,id∈acc->id∈acc')(id:Nat)(h:jf lo kp acc id):jf lo kp acc' id:=by
 rcases h with h|h
 ·exact .inl h
 ·exact .inr ⟨h.1,hs _ h.2⟩
theorem qx.mono {h:EH}{lo:Nat}{kp acc acc':List Nat}(hs:∀ id,id∈acc->id∈acc'){id:Nat}(hg:qx h lo kp acc id):qx h lo kp acc' id:=by
 obtain⟨h1,g,e,c,h2,h3⟩:=hg;exact⟨h1,g,e,c,h2,fun i hi=>(h3 i hi).mono (jf.mono hs)⟩
theorem gU.refl (h:EH)(lo:Nat)(kp acc:List Nat):gU h lo kp acc acc:=⟨fun _ h=>h,fun _ h=>.inl h⟩
theorem gU.trans {h:EH}{lo:Nat}{kp a b c:List Nat}(h1:gU h lo kp a b)(h2:gU h lo kp b c):gU h lo kp a c:=by
 refine⟨fun id hid=>h2.1 id (h1.1 id hid),fun id hid=>?_⟩;rcases h2.2 id hid with h3|h3
 ·rcases h1.2 id h3 with h4|h4
  ·exact .inl h4
  ·exact .inr (h4.mono h2.1)
 ·exact .inr h3
theorem sN {h:EH}{lo:Nat}{kp:List Nat}{f:KF}(hf:∀ v acc acc',f v acc=some acc'->gU h lo kp acc acc'/\Ev.Cln (jf lo kp acc') v):
  ∀ {l:List AVal} {acc acc':List Nat},kg f l acc=some acc'->gU h lo kp acc acc'/\∀ i (h:i<l.length),Ev.Cln (jf lo kp acc') l[i]:=by
 intro l
 induction l with
 | nil =>
  intro acc acc' hk;have:some acc=some acc':=hk;cases this;exact⟨.refl _ _ _ _,fun i h=>absurd h (VX _)⟩
 | cons x l ih =>
  intro acc acc' hk;have h':(match f x acc with|some acc=>kg f l acc|none=>none)=some acc':=hk;split at h'
  ·rename_i a1 h1;obtain⟨h2,h3⟩:=hf _ _ _ h1;obtain⟨h4,h5⟩:=ih h';refine⟨h2.trans h4,fun i hi=>?_⟩;cases i with
   | zero=>exact h3.mono (jf.mono h4.1)
   | succ i=>exact h5 i (by simpa using hi)
  ·cases h'
theorem Dx {h:EH}{lo:Nat}{kp:List Nat}{f:KF}(hf:∀ v acc acc',f v acc=some acc'->gU h lo kp acc acc'/\Ev.Cln (jf lo kp acc') v)
  {id:Nat} {acc acc':List Nat} (hk:qg h lo kp f id acc=some acc'):gU h lo kp acc acc'/\jf lo kp acc' id:=by
 unfold qg at hk;split at hk
 ·rename_i hlt;rw[YF]at hlt;split at hk
  ·rename_i hm;cases hk;exact⟨.refl _ _ _ _,.inl ⟨hlt,kY.1 hm⟩⟩
  ·cases hk
 ·rename_i hlt;have hlt':¬ id<lo:=fun h=>by rw[<- YF]at h;rw[h]at hlt;cases hlt
  split at hk
  ·rename_i hm;cases hk;exact⟨.refl _ _ _ _,.inr ⟨hlt',kY.1 hm⟩⟩
  ·split at hk
   ·rename_i g e cells hg;obtain⟨⟨h1,h2⟩,h3⟩:=sN hf hk;have hin:id∈acc':=h1 id (WX ..);refine⟨⟨fun j hj=>h1 j (Wz _ hj),fun j hj=>?_⟩,.inr ⟨hlt',hin⟩⟩;rcases h2 j hj with h4|h4
    ·rcases List.mem_cons.1 h4 with rfl|h4
     ·exact .inr ⟨hlt',g,e,cells,hg,h3⟩
     ·exact .inl h4
    ·exact .inr h4
   ·cases hk
theorem Dy {h:EH}{lo:Nat}{kp:List Nat}:∀ (fuel:Nat) (v:AVal) (acc acc':List Nat),kU h lo kp fuel v acc=some acc'->gU h lo kp acc acc'/\Ev.Cln (jf lo kp acc') v:=by
 intro fuel
 induction fuel with
 | zero=>intro v acc acc' h;cases h
 | succ n ih =>
  intro v acc acc' hk;cases v with
  | lit v =>
   have:some acc=some acc':=hk;cases this;exact⟨.refl _ _ _ _,.lit _⟩
  | vec m c =>
   have hk':(match AVal.vec m c with|.vec 0 []=>some acc|_=>none)=some acc':=by
    cases m<;>cases c<;>exact hk
   split at hk'
   ·rename_i he;cases he;cases hk';exact⟨.refl _ _ _ _,.nil⟩
   ·cases hk'
  | agg c =>
   obtain⟨h1,h2⟩:=sN ih (show kg (kU h lo kp n) c acc=some acc' from hk);exact⟨h1,.agg h2⟩
  | tup c =>
   obtain⟨h1,h2⟩:=sN ih (show kg (kU h lo kp n) c acc=some acc' from hk);exact⟨h1,.tup h2⟩
  | clo f a b =>
   have hk':(match kg (kU h lo kp n) a acc with|some acc=>kg (kU h lo kp n) b acc|none=>none)=some acc':=hk;split at hk'
   ·rename_i a1 h1;obtain⟨h2,h3⟩:=sN ih h1;obtain⟨h4,h5⟩:=sN ih hk';exact⟨h2.trans h4,.clo (fun i hi=>(h3 i hi).mono (jf.mono h4.1)) h5⟩
   ·cases hk'
  | own id g o l z =>
   obtain⟨h1,h2⟩:=Dx ih (show qg h lo kp (kU h lo kp n) id acc=some acc' from hk);exact⟨h1,.own h2⟩
  | ptr id g o =>
   obtain⟨h1,h2⟩:=Dx ih (show qg h lo kp (kU h lo kp n) id acc=some acc' from hk);exact⟨h1,.ptr h2⟩
  | vptr=>cases hk
  | yld=>cases hk
theorem ng {h:EH}{f:CF}(hf:∀ v acc k r,f v acc k=some r->∃ acc',k acc'=some r/\gU h 0 [] acc acc'):
  ∀ {l:List AVal} {acc:List Nat} {k:List Nat->R} {r:RR},kV f l acc k=some r->∃ acc',k acc'=some r/\gU h 0 [] acc acc':=by
 intro l
 induction l with
 | nil=>intro acc k r hr;exact⟨acc,hr,.refl _ _ _ _⟩
 | cons x l ih =>
  intro acc k r hr;have h':(f x acc fun acc=>kV f l acc k)=some r:=hr;obtain⟨a1,h1,h2⟩:=hf _ _ _ _ h';obtain⟨a2,h3,h4⟩:=ih h1;exact⟨a2,h3,h2.trans h4⟩
theorem Oy {h:EH}:∀ (fuel:Nat) (v:AVal) (acc:List Nat) (k:List Nat->R) (r:RR),uD h fuel v acc k=some r->∃ acc',k acc'=some r/\gU h 0 [] acc acc':=by
 intro fuel
 induction fuel with
 | zero=>intro v acc k r hr;exact⟨acc,hr,.refl _ _ _ _⟩
 | succ n ih =>
  intro v acc k r hr;have h':(match kU h 0 [] 40 v acc with|some acc=>k acc|none=>yX h (uD h n) v acc k)=some r:=hr;split at h'
  ·rename_i a1 h1;exact⟨a1,h',(Dy 40 v acc a1 h1).1⟩
  ·have blk:∀ b,uC (uD h n) acc k b=some r->∃ acc',k acc'=some r/\gU h 0 [] acc acc':=by
    intro b hb;unfold uC at hb;split at hb
    ·exact ng ih hb
    ·exact⟨acc,hb,.refl _ _ _ _⟩
   unfold yX at h';split at h'
   ·exact ng ih h'
   ·exact ng ih h'
   ·exact ng ih h'
   ·exact ng ih h'
   ·obtain⟨a1,h1,h2⟩:=ng ih h';obtain⟨a2,h3,h4⟩:=ng ih h1;exact⟨a2,h3,h2.trans h4⟩
   ·exact blk _ h'
   ·exact blk _ h'
   ·exact⟨acc,h',.refl _ _ _ _⟩
theorem Oz {h:EH}{kp:List Nat}(hkp:∀ id,id∈kp->id<h.nx):∀ (fuel:Nat) {v v':AVal} {rs:List Nat},kh h kp fuel v=some (v',rs)->∀ H2:AHeap,(∀ r,r∈rs->H2.get r=(aq h).get r)->Fz (fun id=>¬ id∈kp) H2 h.nx v v':=by
 intro fuel
 induction fuel with
 | zero=>intro v v' rs h;cases h
 | succ f ih =>
  intro v v' rs hv H2 ha;have list:∀ {l l':List AVal} {rs':List Nat},bX (kh h kp f) l=some (l',rs')->(∀ r,r∈rs'->H2.get r=(aq h).get r) ->
    l'.length=l.length/\∀ i (_:i<l.length) (_:i<l'.length),Fz (fun id=>¬ id∈kp) H2 h.nx l[i] l'[i]:=fun hm ha'=>by
   obtain⟨h1,h2⟩:=ox hm;exact⟨h1,fun i hi hi'=>let ⟨ri,h3,h4⟩:=h2 i hi hi';ih h3 H2 fun r hr=>ha' r (h4 r hr)⟩
  cases v with
  | lit v =>
   have hv':some (AVal.lit v,[])=some (v',rs):=hv;simp only[Option.some.injEq,Prod.mk.injEq]at hv';obtain⟨rfl,rfl⟩:=hv';exact .lit _
  | vec n c =>
   have hv':(bX (kh h kp f) c).map (fun p=>(AVal.vec n p.1,p.2))=some (v',rs):=hv;simp only[Vu,Prod.mk.injEq]at hv';obtain⟨⟨c',rs'⟩,h1,rfl,rfl⟩:=hv';obtain⟨h2,h3⟩:=list h1 ha;exact .vec h2 h3
  | vptr c o =>
   have hv':(bX (kh h kp f) c).map (fun p=>(AVal.vptr p.1 o,p.2))=some (v',rs):=hv;simp only[Vu,Prod.mk.injEq]at hv';obtain⟨⟨c',rs'⟩,h1,rfl,rfl⟩:=hv';obtain⟨h2,h3⟩:=list h1 ha;exact .vptr h2 h3
  | agg c =>
   have hv':(bX (kh h kp f) c).map (fun p=>(AVal.agg p.1,p.2))=some (v',rs):=hv;simp only[Vu,Prod.mk.injEq]at hv';obtain⟨⟨c',rs'⟩,h1,rfl,rfl⟩:=hv';obtain⟨h2,h3⟩:=list h1 ha;exact .agg h2 h3
  | tup c =>
   have hv':(bX (kh h kp f) c).map (fun p=>(AVal.tup p.1,p.2))=some (v',rs):=hv;simp only[Vu,Prod.mk.injEq]at hv';obtain⟨⟨c',rs'⟩,h1,rfl,rfl⟩:=hv';obtain⟨h2,h3⟩:=list h1 ha;exact .tup h2 h3
  | clo g a b =>
   have hv':(match bX (kh h kp f) a,bX (kh h kp f) b with|some p,some q=>some (AVal.clo g p.1 q.1,p.2++q.2)|_,_=>none)=some (v',rs):=hv;split at hv'
   ·rename_i p q h1 h2;simp only[Option.some.injEq,Prod.mk.injEq]at hv';obtain⟨rfl,rfl⟩:=hv';obtain⟨h3,h4⟩:=list h1 fun r hr=>ha r (Xi _ hr);obtain⟨h5,h6⟩:=list h2 fun r hr=>ha r (Xb _ hr);exact .clo h3 h5 h4 h6
   ·cases hv'
  | own id g o l z =>
   have hv':(match fg kp id with
    | true=>some (AVal.own id g o l z,[])
    | false=>match aS h.hp id with|some (.arr g' _ cells)=>if g'=g/\o+l*z<=cells.length then (bX (kh h kp f) ((cells.drop o).take (l*z))).map fun p=>(AVal.vec l p.1,id :: p.2) else none|_=>none)=some (v',rs):=hv
   split at hv'
   ·rename_i hm;simp only[Option.some.injEq,Prod.mk.injEq]at hv';obtain⟨rfl,rfl⟩:=hv';exact .own (hkp _ (kY.1 hm)) fun h=>h (kY.1 hm)
   ·rename_i hm;split at hv'
    ·rename_i g' e cells hg;split at hv'
     ·rename_i hc;obtain⟨rfl,hle⟩:=hc;simp only[Vu,Prod.mk.injEq]at hv';obtain⟨⟨c',rs'⟩,h1,rfl,rfl⟩:=hv';obtain⟨h2,h3⟩:=list h1 fun r hr=>ha r (Wz _ hr);have hlen:((cells.drop o).take (l*z)).length=l*z:=(by simp;omega);refine .frz (Dw hm) ((ha id (WX ..)).trans (mZ hg)) (h2.trans hlen) fun i hi h2i hi'=>?_;have:=h3 i (by omega) hi';simpa using this
     ·cases hv'
    ·cases hv'
  | ptr id g o =>
   have hv':(match fg kp id with
    | true=>some (AVal.ptr id g o,[])
    | false=>match aS h.hp id with|some (.arr g' _ (x :: cells))=>if g'=g then (bX (kh h kp f) (x :: cells)).map fun p=>(AVal.vptr p.1 o,id :: p.2) else none|_=>none)=some (v',rs):=hv
   split at hv'
   ·rename_i hm;simp only[Option.some.injEq,Prod.mk.injEq]at hv';obtain⟨rfl,rfl⟩:=hv';exact .ptr (hkp _ (kY.1 hm)) fun h=>h (kY.1 hm)
   ·rename_i hm;split at hv'
    ·rename_i g' e x cells hg;split at hv'
     ·rename_i hc;subst hc;simp only[Vu,Prod.mk.injEq]at hv';obtain⟨⟨c',rs'⟩,h1,rfl,rfl⟩:=hv';obtain⟨h2,h3⟩:=list h1 fun r hr=>ha r (Wz _ hr);exact .pfrz (Dw hm) ((ha id (WX ..)).trans (mZ hg)) (by simp) h2 h3
     ·cases hv'
    ·cases hv'
  | yld n=>cases hv
theorem OA {h:EH}{k:BT EBlk->R}{r:RR}:∀ {l:List Nat} {t:BT EBlk},yY h l k t=some r->∃ t',k t'=some r/\∀ m,aS t' m=if m∈l then aS h.hp m else aS t m:=by
 intro l
 induction l with
 | nil=>intro t hr;exact⟨t,hr,fun m=>by rw[Vw (by simp)]⟩
 | cons x l ih =>
  intro t hr;have h':(match aS h.hp x with|some b=>gF t x b (yY h l k)|none=>none)=some r:=hr;split at h'
  ·rename_i b hb;obtain⟨t1,h1,h2⟩:=mX _ _ _ _ _ h';obtain⟨t',h3,h4⟩:=ih h1;refine⟨t',h3,fun m=>?_⟩;rw[h4,h2];by_cases hm:m∈l
   ·rw[Vx hm,Vx (Wz _ hm)]
   ·rw[Vw hm];by_cases hx:m=x
    ·subst hx;rw[Vx rfl,Vx (WX ..),hb]
    ·rw[Vw hx,Vw (by simp [hx,hm])]
  ·cases h'
theorem OB {a b:Value}(h:yZ a b=true):a=b:=by
 unfold yZ at h;split at h
 ·simp only[VY,decide_eq_true_eq,vA]at h;rw[h.1,h.2]
 ·simp only[beq_iff_eq]at h;rw[h]
 ·rfl
 ·rfl
 ·cases h
theorem OC:∀ (fuel:Nat) (a b:AVal),y7 fuel a b=true->a=b:=by
 intro fuel
 induction fuel with
 | zero=>intro a b h;cases h
 | succ f ih =>
  intro a b h;have h':y6 (y7 f) a b=true:=h;unfold y6 at h';split at h'
  ·rw[OB h']
  ·simp only[VY]at h';rw[VO h'.1,je ih h'.2]
  ·rw[je ih h']
  ·rw[je ih h']
  ·simp only[VY]at h';rw[VO h'.1,je ih h'.2.1,je ih h'.2.2]
  ·simp only[VY]at h';rw[VO h'.1,VO h'.2.1,VO h'.2.2.1,VO h'.2.2.2.1,VO h'.2.2.2.2]
  ·simp only[VY]at h';rw[VO h'.1,VO h'.2.1,VO h'.2.2]
  ·cases h'
theorem OD {a b:Option EBlk}(h:y8 a b=true):a=b:=by
 unfold y8 at h;split at h
 ·simp only[VY]at h;rw[VO h.1,VO h.2.1,je (OC 40) h.2.2]
 ·cases h
theorem OE {h':EH}{lv:List Nat}{lo:Nat}:∀ {n:Nat} {t:BT EBlk} {k:BT EBlk->R} {r:RR},uE h' lv lo n t k=some r ->
  ∃ t',k t'=some r/\∀ m,aS t' m=if lo<=m/\m<lo+n then (if fg lv m=true then aS h'.hp m else some (.arr 0 0 [])) else aS t m:=by
 intro n
 induction n with
 | zero=>intro t k r hr;exact⟨t,hr,fun m=>by rw[Vw (by omega)]⟩
 | succ n ih =>
  intro t k r hr;have h1:dG (Nat.add lo n) (zb h' lv t fun t=>uE h' lv lo n t k)=some r:=hr;rw[iD]at h1;have key:∀ b,(if fg lv (lo+n)=true then aS h'.hp (lo+n) else some (.arr 0 0 []))=some b->gF t (lo+n) b (fun t=>uE h' lv lo n t k)=some r ->
    ∃ t',k t'=some r/\∀ m,aS t' m=if lo<=m/\m<lo+(n+1) then (if fg lv m=true then aS h'.hp m else some (.arr 0 0 [])) else aS t m:=by
   intro b hb hs;obtain⟨t1,h2,h3⟩:=mX _ _ _ _ _ hs;obtain⟨t',h4,h5⟩:=ih h2;refine⟨t',h4,fun m=>?_⟩;rw[h5,h3];by_cases hm:m=lo+n
   ·subst hm;rw[Vw (by omega),Vx rfl,Vx (by omega),hb]
   ·rw[Vw hm];by_cases hm2:lo<=m/\m<lo+n
    ·rw[Vx hm2,Vx (⟨hm2.1,by omega⟩:lo<=m/\m<lo+(n+1))]
    ·rw[Vw hm2,Vw (fun hc:lo<=m/\m<lo+(n+1)=>hm2 ⟨hc.1,by omega⟩)]
  unfold zb at h1;split at h1
  ·rename_i hm;split at h1
   ·rename_i b hb;exact key b ((Vx (show fg lv (lo+n)=true from hm)).trans hb) h1
   ·cases h1
  ·rename_i hm;exact key _ (Vw (fun hc=>by rw[show fg lv (lo+n)=false from hm]at hc;cases hc)) h1
end Go.Hx
namespace Go.Hx
def N9 (z:GD):Option AVal->AVal
 | some u=>.tup [u,.lit (.int .i64 0)]
 | none=>.tup [z.z,.lit (.int .i64 6)]
def Dm (P:Program)(G:Nat->Option (List AVal))(f:FuncId)(z:GD):Prop:=∀ g cap cap' (H:AHeap) o,cap'.length=cap.length ->
 (∀ H2:AHeap,(∀ id,id<H.next->H2.get id=H.get id)->∀ i (h:i<cap.length) (h':i<cap'.length),Fz (fun _=>True) H2 0 cap[i] cap'[i]) ->
 (∀ u,o=some u->z.ok u=true)->ae P G g cap' cL (rQ o)->ae P G f [.clo g [] cap] H fun r H'=>r=.ret (N9 z o)/\H'=H
def qu (E:EP):Prop:=∀ f e,E.ext f=some e->∀ args r,e args=some r->∀ (H:AHeap) (K:ARes->AHeap->Prop),K (.ret r) H->aw E.P E.G (.clo f [] []) args H K
theorem qu.none {E:EP}(h:E.ext=fun _=>.none):qu E:=fun f e he=>by rw[h]at he;cases he
structure EOk (E:EP):Prop where
 gok:gE E.G
 mixed:E.P.follows .mixedOrders=true
 known:∀ f l,E.known f=some l->∀ a v,(a,v)∈l->ae E.P E.G f a cL fun r H'=>∃ u,r=.ret u/\Fresh H' u v
 gd:∀ f z,E.gd f=some z->Dm E.P E.G f z
 ext:qu E
def zE:RR->ARes->EH->Prop
 | .ret v h,x,h'=>x=.ret v/\h'=h
 | .panic h,x,h'=>x=.panic/\h'=h
 | _,_,_=>False
def gT (E:EP)(ih:ki):Prop:=∀ rd n c env h r,ih rd n c env h=some r->VH h->fits n c=true ->
 ∃ x env' h',r=.ev x env' h'/\VH h'/\∀ Q:AX->St->Prop,Q x ⟨aF env',aq h'⟩->W E.P E.G n rd c Q ⟨aF env,aq h⟩
theorem W.here {P:Program}{G:Nat->Option (List AVal)}{n:Nat}{rd:Option Nat}{c:Code}{Q:AX->St->Prop}{s s':St}{x:AX}(h:∀ Q:AX->St->Prop,Q x s'->W P G n rd c Q s)(hq:Q x s'):W P G n rd c Q s :=
 (h (fun y t=>y=x/\t=s') ⟨rfl,rfl⟩).mono fun y t ht=>by rw[ht.1,ht.2];exact hq
def zF (E:EP)(f:FuncId)(args:List AVal)(h:EH)(r:RR):Prop :=
 ∃ x h',zE r x h'/\VH h'/\∀ K:ARes->AHeap->Prop,K x (aq h')->ae E.P E.G f args (aq h) K
def zG (E:EP)(fv:AVal)(args:List AVal)(h:EH)(r:RR):Prop :=
 ∃ x h',zE r x h'/\VH h'/\∀ K:ARes->AHeap->Prop,K x (aq h')->aw E.P E.G fv args (aq h) K
section
variable {E:EP} {ih:ki}
theorem gH {b:Bool}{x:R}{r:RR}(h:Bool.rec (motive:=fun _=>R) none x b=some r):b=true/\x=some r:=by
 cases b with
 | false=>cases h
 | true=>exact⟨rfl,h⟩
theorem zH:VH ⟨.nil,0⟩:=fun _ _ h=>by cases h
theorem nf (hI:gT E ih){f:FuncId}{args:List AVal}{h:EH}{r:RR}(hv:VH h)(hr:mT E ih f args h=some r):zF E f args h r:=by
 unfold mT at hr;cases hf:E.P.funcs[f]? with
 | none=>rw[hf]at hr;cases hr
 | some fn =>
  rw[hf]at hr;have hr1:Option.rec (motive:=fun _=>R) none (fun c=>uH E ih fn c args h) fn.body=some r:=hr;cases hb:fn.body with
  | none=>rw[hb]at hr1;cases hr1
  | some c =>
   rw[hb]at hr1;have hr2:uH E ih fn c args h=some r:=hr1;unfold uH at hr2;obtain⟨hok,hr3⟩:=gH hr2;obtain⟨hle,hr4⟩:=gH hr3;have hle:=WG hle;unfold CG at hok;simp only[VY,Yj]at hok;obtain⟨env,hr5,henv⟩:=N5 hr4;have body:∀ K:ARes->AHeap->Prop,W E.P E.G fn.ntmps none c (rW E.P E.G fn.results.toList (aq h) K) ⟨gQ args,aq h⟩->ae E.P E.G f args (aq h) K:=fun K hW=>ae.cX hf hb rfl rfl hok.2 hle hW;unfold CE at hr5;have ret:∀ env' h' vs,eI E.P (aq h') (aF env') fn.results.toList=some vs->uG h.nx (iz vs) h'=some r->VH h'->(∀ Q:AX->St->Prop,(Q .normal ⟨aF env',aq h'⟩/\Q .ret ⟨aF env',aq h'⟩)->W E.P E.G fn.ntmps none c Q ⟨aF env,aq h⟩)->zF E f args h r:=by
    intro env' h' vs hvs he hv' hW;unfold uG at he;obtain⟨hnx,he2⟩:=gH he;rw[qq]at he2;have he3:r=.ret (iz vs) h':=(Option.some.inj he2).symm;subst he3;refine⟨.ret (iz vs),h',⟨rfl,rfl⟩,hv',fun K hK=>body K ?_⟩;rw[<- henv];have hfin:aW (eI E.P (aq h') (aF env') fn.results.toList) fun vs=>av E.P E.G (aq h) K (iz vs) (aq h'):=⟨vs,hvs,av.mk (WG hnx) hK⟩
    exact hW _ ⟨hfin,hfin⟩
   split at hr5
   ·rename_i env' h' hi;obtain⟨x,e2,h2,h3,h4,h5⟩:=hI _ _ _ _ _ _ hi hv hok.1;cases h3;split at hr5
    ·rename_i vs hvs;exact ret _ _ _ hvs hr5 h4 fun Q hq=>h5 Q hq.1
    ·cases hr5
   ·rename_i env' h' hi;obtain⟨x,e2,h2,h3,h4,h5⟩:=hI _ _ _ _ _ _ hi hv hok.1;cases h3;split at hr5
    ·rename_i vs hvs;exact ret _ _ _ hvs hr5 h4 fun Q hq=>h5 Q hq.2
    ·cases hr5
   ·rename_i env' h' hi;obtain⟨x,e2,h2,h3,h4,h5⟩:=hI _ _ _ _ _ _ hi hv hok.1;cases h3;obtain⟨hnx,he2⟩:=gH hr5;have he3:r=.panic h':=(Option.some.inj he2).symm;subst he3;refine⟨.panic,h',⟨rfl,rfl⟩,h4,fun K hK=>body K ?_⟩;rw[<- henv];exact h5 _ ⟨aq h',mJ.refl _ _,WG hnx,hK⟩
   ·cases hr5
theorem Oa (hI:gT E ih){f:FuncId}{args:List AVal}{v:AVal}(hr:ze E ih f args=some v):ae E.P E.G f args cL fun r H'=>∃ u,r=.ret u/\Fresh H' u v:=by
 unfold ze at hr;split at hr
 ·rename_i u h' hc;obtain⟨x,h2,hcr,hv2,hK⟩:=nf hI zH hc;obtain⟨rfl,rfl⟩:=hcr;exact hK _ ⟨u,rfl,Dj _ hr⟩
 ·cases hr
theorem Dn (hI:gT E ih){f:FuncId}{args:List AVal}{o:Option AVal}(hr:zf E ih f args=some o):ae E.P E.G f args cL (rQ o):=by
 unfold zf at hr;split at hr
 ·rename_i u h' hc;obtain⟨x,h2,hcr,_,hK⟩:=nf hI zH hc;obtain⟨rfl,rfl⟩:=hcr;split at hr
  ·rename_i w hw;cases hr;exact hK (rQ (some w)) ⟨u,rfl,Dj _ hw⟩
  ·cases hr
 ·rename_i h' hc;obtain⟨x,h2,hcr,_,hK⟩:=nf hI zH hc;obtain⟨rfl,rfl⟩:=hcr;cases hr;exact hK (rQ none) rfl
 ·cases hr
theorem Do (hE:EOk E){f:FuncId}{args args':List AVal}{rs:List Nat}{v:AVal}{h:EH}(hm:bX (iC h 40) args=some (args',rs))(hc:ae E.P E.G f args' cL fun r H'=>∃ u,r=.ret u/\Fresh H' u v)
  (H2:AHeap) (ha:∀ r,r∈rs->H2.get r=(aq h).get r):ae E.P E.G f args H2 fun r H'=>r=.ret v/\H'=H2:=by
 obtain⟨h1,h2⟩:=ox hm;exact ae.frame hE.gok h1 (fun i hi hi'=>let ⟨ri,h3,h4⟩:=h2 i hi hi';Di 40 h3 H2 fun r hr=>ha r (h4 r hr)) hc
theorem Ob (hE:EOk E)(hI:gT E ih){f:FuncId}{first cap args:List AVal}{h:EH}{r:RR}(hv:VH h)(hr:zh E ih f first cap args h=some r):zF E f (first++args++cap) h r:=by
 unfold zh at hr;split at hr
 ·rw[jd]at hr;split at hr
  ·exact nf hI hv hr
  ·rename_i l hl;unfold CM at hr;split at hr
   ·cases hr
   ·rename_i p hm;split at hr
    ·rename_i v hk;have:r=.ret v h:=(Option.some.inj hr).symm;subst this;refine⟨.ret v,h,⟨rfl,rfl⟩,hv,fun K hK=>?_⟩;exact(Do hE hm (hE.known f l hl _ _ (Dl hk)) (aq h) fun _ _=>rfl).mono fun x H' ⟨h1,h2⟩=>by rw[h1,h2];exact hK
    ·exact nf hI hv hr
 ·rename_i z hz;rw[jd]at hr;unfold CI at hr;split at hr
  ·rename_i g cap2 heq;rw[heq];split at hr
   ·rename_i p hm;obtain⟨hlt,hr⟩:=gH hr;have hview:∀ H2:AHeap,(∀ id,id<(aq h).next->H2.get id=(aq h).get id)->∀ i (h:i<cap2.length) (h':i<p.1.length),Fz (fun _=>True) H2 0 cap2[i] p.1[i]:=fun H2 ha i hi hi'=>by
     obtain⟨_,h2⟩:=ox hm;obtain⟨ri,h3,h4⟩:=h2 i hi hi';refine Di 40 h3 H2 fun r hr=>ha r ?_;have:=V1.1 hlt r (h4 r hr);rw[YF]at this;exact this
    unfold CH at hr;split at hr
    ·rename_i u hgo;obtain⟨hok,hr⟩:=gH hr;have:r=.ret (.tup [u,.lit (.int .i64 0)]) h:=(Option.some.inj hr).symm;subst this;refine⟨_,h,⟨rfl,rfl⟩,hv,fun K hK=>?_⟩;exact(hE.gd f z hz g cap2 p.1 (aq h) (some u) (ox hm).1 hview (fun _ h=>by cases h;exact hok) (Dn hI hgo)).mono fun x H' ⟨h1,h2⟩=>by rw[h1,h2];exact hK
    ·rename_i hgo;have:r=.ret (.tup [z.z,.lit (.int .i64 6)]) h:=(Option.some.inj hr).symm;subst this;refine⟨_,h,⟨rfl,rfl⟩,hv,fun K hK=>?_⟩;exact(hE.gd f z hz g cap2 p.1 (aq h) none (ox hm).1 hview (fun _ h=>by cases h) (Dn hI hgo)).mono fun x H' ⟨h1,h2⟩=>by rw[h1,h2];exact hK
    ·cases hr
   ·cases hr
  ·cases hr
theorem sM {h:EH}{id:Nat}{st:LoopState}{pend:Option Code}{n:Nat}{env:BT AVal}{ps:Array Tmp}{asg body:Code}(hg:aS h.hp id=some (.loop st pend n env ps asg body)):
  (aq h).get id=some (.loop st pend n (aF env) ps asg body):=by
 show Option.map EBlk.kS (aS h.hp id)=_;rw[hg];rfl
theorem VH.set {h:EH}(hv:VH h){hp:BT EBlk}{id:Nat}{b:EBlk}(hs:∀ m,aS hp m=if m=id then some b else aS h.hp m)(hid:id<h.nx):VH ⟨hp,h.nx⟩:=by
 intro j x hj;rw[hs]at hj;show j<h.nx;split at hj
 ·omega
 ·exact hv _ _ hj
theorem zI {h:EH}{hp:BT EBlk}{id:Nat}{b:EBlk}(hs:∀ m,aS hp m=if m=id then some b else aS h.hp m):aq ⟨hp,h.nx⟩=(aq h).upd id b.kS:=by
 rw[vw (nx:=h.nx) hs];rfl
theorem Oc (hI:gT E ih){id:Nat}{args:List AVal}{h:EH}{r:RR}(hv:VH h)(hr:zg ih id args h=some r):zG E (.yld id) args h r:=by
 unfold zg at hr;split at hr
 ·rename_i pend n env ps asg body hg;obtain ⟨hok,hr1⟩:=gH hr;unfold CL at hok;simp only [VY] at hok;obtain ⟨hokB,hf1,hf2,hps⟩:=hok;obtain ⟨e0,hr2,hlen,he0⟩:=N6 hr1;have hget:=sM hg;have hid : id<h.nx:=hv _ _ hg
    -- the rule of a round
  have rule:∀ K:ARes->AHeap->Prop,W E.P E.G n (some id) asg (Cv E.P E.G n id body K) ⟨aF e0,aq h⟩->aw E.P E.G (.yld id) args (aq h) K:=fun K hW=>by
   refine aw.yld hget (by simpa using hlen) hps ?_;rw[N8 hokB,<- he0];exact hW
  unfold CJ at hr2;split at hr2
  ·rename_i e1 h1 hi;obtain⟨x,e2,h2,h3,h4,h5⟩:=hI _ _ _ _ _ _ hi hv hf1;cases h3;split at hr2
   ·rename_i pend2 n2 env2 ps2 asg2 body2 hg1;obtain ⟨hp1,hr3,hs1⟩:=mX _ _ _ _ _ hr2;have hget1:=sM hg1;have hv1 : VH ⟨hp1,h1.nx⟩:=h4.set hs1 (h4 _ _ hg1);have hup1:=zI (h:=h1) hs1;have mk : ∀ (x2 : AX) (e3 : BT AVal) (h3 : EH) (st : LoopState) (pd : Option Code) (b : Bool),ih (some id) n body e1 ⟨hp1,h1.nx⟩=some (.ev x2 e3 h3)→sC id st pd b h3=some r →
      (∀ K:ARes->AHeap->Prop,yp id K x2 ⟨aF e3,aq h3⟩=aW (mP st pd ((aq h3).get id)) fun blk=>K (.ret (.lit (.bool b))) ((aq h3).upd id blk))->zG E (.yld id) args h r:=by
     intro x2 e3 h3 st pd b hi2 hre hq;obtain⟨x',e',h',h6,h7,h8⟩:=hI _ _ _ _ _ _ hi2 hv1 hf2;cases h6;unfold sC at hre;split at hre
     ·rename_i n3 env3 ps3 asg3 body3 hg3;obtain⟨hp3,hr4,hs3⟩:=mX _ _ _ _ _ hre;have hr5:r=.ret (.lit (.bool b)) ⟨hp3,h3.nx⟩:=(Option.some.inj hr4).symm;subst hr5;have hup3:=zI (h:=h3) hs3;refine⟨_,_,⟨rfl,rfl⟩,h7.set hs3 (h7 _ _ hg3),fun K hK=>rule K (h5 _ ?_)⟩;refine⟨_,by rw[hget1];rfl,?_⟩;have hbusy:(aq h1).upd id (.loop .busy pend2 n2 (aF env2) ps2 asg2 body2)=aq ⟨hp1,h1.nx⟩:=hup1.symm;show W E.P E.G n (some id) body (yp id K) ⟨aF e1,(aq h1).upd id (.loop .busy pend2 n2 (aF env2) ps2 asg2 body2)⟩;rw[hbusy];refine h8 _ ?_;rw[hq];refine⟨.loop st pd n3 (aF env3) ps3 asg3 body3,by rw[sM hg3];rfl,?_⟩;rw[hup3]at hK;exact hK
     ·cases hre
    unfold endRound at hr3;split at hr3
    ·rename_i e3 h3 hi2;exact mk _ _ _ _ _ _ hi2 hr3 fun _=>rfl
    ·rename_i e3 h3 hi2;exact mk _ _ _ _ _ _ hi2 hr3 fun _=>rfl
    ·rename_i i e3 h3 hi2;exact mk _ _ _ _ _ _ hi2 hr3 fun _=>rfl
    ·cases hr3
   ·cases hr2
  ·cases hr2
 ·cases hr
theorem Od (hE:EOk E)(hI:gT E ih){fv:AVal}{args:List AVal}{h:EH}{r:RR}(hv:VH h)(hr:uK E ih fv args h=some r):zG E fv args h r:=by
 unfold uK at hr;split at hr
 ·rename_i f first cap
  split at hr
  ·obtain⟨x,h',h1,h2,h3⟩:=Ob hE hI hv hr;exact⟨x,h',h1,h2,fun K hK=>aw.clo (h3 K hK)⟩
  ·rename_i e he;unfold CN at hr;split at hr
   ·rename_i hfc;obtain⟨rfl,rfl⟩:=Y2.1 hfc;rw[jd]at hr;split at hr
    ·rename_i v hv2;rw[qq]at hr;have:r=.ret v h:=(Option.some.inj hr).symm;subst this;exact⟨_,h,⟨rfl,rfl⟩,hv,fun K hK=>hE.ext f e he _ _ hv2 _ _ hK⟩
    ·cases hr
   ·cases hr
 ·exact Oc hI hv hr
 ·cases hr
theorem vC {h:EH}{rd:Option Nat}(hr:qh h rd=true):eH (aq h) rd:=by
 unfold qh at hr;split at hr
 ·trivial
 ·rename_i id;split at hr
  ·rename_i st pend n env ps asg body hg;exact⟨st,pend,n,aF env,ps,asg,body,sM hg⟩
  ·cases hr
abbrev Rest (r:RR)(KQ:(AX->St->Prop)->St->Prop)(env:BT AVal)(h:EH):Prop :=
 ∃ x e2 h2,r=.ev x e2 h2/\VH h2/\∀ Q:AX->St->Prop,Q x ⟨aF e2,aq h2⟩->KQ Q ⟨aF env,aq h⟩
theorem Oe {P:Program}{H:AHeap}{op:BinOp}{t:TypeId}{x y:Operand}{a b v:AVal}(h:aU P op t x y a b=some v):iY H op a b=none:=by
 cases hn:iY H op a b with
 | none=>rfl
 | some c =>
  exfalso;unfold iY at hn;unfold aU at h;split at hn
  ·cases a<;>simp_all [AVal.cj]
  ·cases a<;>simp_all [AVal.cj]
  ·cases hn
theorem Of {P:Program}{G:Nat->Option (List AVal)}{rd:Option Nat}{Q:AX->St->Prop}{o:Oper}{K:St->Prop}{s:St}{v:AVal}{H':AHeap}(hop:aj P G s.ρ s.H s.H.next o.op=some (v,H'))(hk:K ⟨aH s.ρ o.dst v,H'⟩):aM P G rd Q o K s:=by
 unfold aM;split
 ·rename_i h;rw[h]at hop;simp [aj]at hop
 ·rename_i h;rw[h]at hop;simp [aj]at hop
 ·rename_i op t x y u h;rw[h]at hop;have hb:(aU P op t x y (ah G s.ρ x) (ah G s.ρ y)).map (fun v=>(v,s.H))=some (v,H'):=hop;simp only[Vu,Prod.mk.injEq]at hb;obtain⟨v',hb1,_,_⟩:=hb;rw[Oe hb1];exact⟨(v,H'),hop,hk⟩
 ·exact⟨(v,H'),hop,hk⟩
theorem Og (hE:EOk E)(hI:gT E ih){rd:Option Nat}{o:Oper}{k:BT AVal->EH->R}{env:BT AVal}{h:EH}{r:RR}{KQ:(AX->St->Prop)->St->Prop}(hv:VH h)
  (hk:∀ env' h',VH h'->k env' h'=some r->Rest r KQ env' h') (hr:vk o.op E ih rd o.dst k env h=some r):Rest r (fun Q=>aM E.P E.G rd Q o (KQ Q)) env h:=by
 rcases N1 hv hr with ⟨v,env',h',hop,hv',he,hkr⟩|⟨op,t,x,y,u,env',hop,hn,hs,he,hkr⟩|⟨fv,args,ats,hop,hrv⟩|⟨x,hop,hrp⟩
 ·obtain⟨x,e2,h2,h3,h4,h5⟩:=hk _ _ hv' hkr;refine⟨x,e2,h2,h3,h4,fun Q hq=>Of (v:=v) (H':=aq h') hop ?_⟩;have:=h5 Q hq;rw[he]at this;exact this
 ·obtain⟨x',e2,h2,h3,h4,h5⟩:=hk _ _ hv hkr;refine⟨x',e2,h2,h3,h4,fun Q hq=>?_⟩;unfold aM;rw[hop];simp only;rw[hn];refine⟨hs,fun b hb=>?_⟩;have hb':=hb rfl;subst hb';have:=h5 Q hq;rw[he]at this;cases hnq:(op == BinOp.neq)<;>rw[hnq]at this<;>exact this
 ·unfold zj at hrv;rw [qs,cZ] at hrv;unfold CO at hrv;have key : ∀ {x : ARes} {h' : EH} {r0 : RR},uK E ih (ah E.G (aF env) fv) (args.toList.map (ah E.G (aF env))) h=some r0→zE r0 x h'→VH h'∧∀ (Q : AX→St→Prop),(eH (aq h') rd∧match (x : ARes) with
    | .ret v=>KQ Q ⟨aH (aF env) o.dst v,aq h'⟩
    | .panic=>Q .panic ⟨aF env,aq h'⟩)->aM E.P E.G rd Q o (KQ Q) ⟨aF env,aq h⟩:=by
   intro x h' r0 happ hc;obtain⟨x2,h2,hc2,hv2,hK⟩:=Od hE hI hv happ;have hx:x2=x/\h2=h':=by
    cases r0 with
    | ret v h0=>exact⟨hc2.1.trans hc.1.symm,hc2.2.trans hc.2.symm⟩
    | panic h0=>exact⟨hc2.1.trans hc.1.symm,hc2.2.trans hc.2.symm⟩
    | ev=>exact hc.elim
   obtain⟨rfl,rfl⟩:=hx;refine⟨hv2,fun Q hq=>?_⟩;unfold aM;rw[hop];exact hK _ hq
  split at hrv
  ·rename_i v h' happ;obtain⟨hrd,hrv2⟩:=gH hrv;obtain⟨hv',hq⟩:=key happ (x:=.ret v) (h':=h') ⟨rfl,rfl⟩;obtain⟨env',h1,h2⟩:=ma hrv2;obtain⟨x,e2,h3,h4,h5,h6⟩:=hk _ _ hv' h1;refine⟨x,e2,h3,h4,h5,fun Q hQ=>hq Q ⟨vC hrd,?_⟩⟩;have:=h6 Q hQ;rw[h2]at this;exact this
  ·rename_i h' happ;obtain⟨hrd,hrv2⟩:=gH hrv;obtain⟨hv',hq⟩:=key happ (x:=.panic) (h':=h') ⟨rfl,rfl⟩;exact⟨.panic,env,h',(Option.some.inj hrv2).symm,hv',fun Q hQ=>hq Q ⟨vC hrd,hQ⟩⟩
  ·cases hrv
 ·unfold zi at hrp;split at hrp
  ·rename_i t v heq;refine⟨.panic,env,h,(Option.some.inj hrp).symm,hv,fun Q hq=>?_⟩;unfold aM;rw[hop];exact⟨⟨t,v,heq⟩,hq⟩
  ·cases hrp
theorem Dp {all:Array Oper}{ρ:Env}{o:Oper}{yes no:R}{r:RR}(hr:qk all ρ o.guard yes no=some r):(eV all ρ o=some true/\yes=some r)\/(eV all ρ o=some false/\no=some r):=by
 unfold qk at hr;unfold eV;cases hg:o.guard with
 | none=>rw[hg]at hr;exact .inl ⟨rfl,hr⟩
 | some jw =>
  obtain⟨j,want⟩:=jw;rw[hg]at hr;have hr2:zm all ρ yes no (j,want)=some r:=hr;unfold zm at hr2;simp only at hr2 ⊢;split at hr2
  ·rename_i d hd;rw[hd];simp only;split at hr2
   ·rename_i b hb;rw[hb];cases hbw:b == want with
    | true=>rw[hbw]at hr2;exact .inl ⟨by show some (b == want)=_;rw[hbw],hr2⟩
    | false=>rw[hbw]at hr2;exact .inr ⟨by show some (b == want)=_;rw[hbw],hr2⟩
   ·rename_i v hnb hb;rw[hb];exact .inr ⟨by cases v<;>first|rfl|exact absurd rfl (hnb _),hr2⟩
   ·cases hr2
  ·rename_i hd;rw[hd];exact .inr ⟨rfl,hr2⟩
theorem Dq (hE:EOk E)(hI:gT E ih){rd:Option Nat}{all:Array Oper}{r:RR}:∀ (l:List Oper) (env:BT AVal) (h:EH),VH h->qm E ih rd all l env h=some r->Rest r (fun Q=>dI E.P E.G rd Q all l) env h:=by
 intro l
 induction l with
 | nil=>exact fun env h hv hr=>⟨.normal,env,h,(Option.some.inj hr).symm,hv,fun Q hq=>hq⟩
 | cons o l ihl =>
  intro env h hv hr;have hr1:qk all (aF env) o.guard (vk o.op E ih rd o.dst (qm E ih rd all l) env h) (fO env o.dst (.lit undef) fun env=>qm E ih rd all l env h)=some r:=hr;rcases Dp hr1 with ⟨hw,hr2⟩|⟨hw,hr2⟩
  ·obtain⟨x,e2,h2,h3,h4,h5⟩:=Og hE hI (KQ:=fun Q=>dI E.P E.G rd Q all l) hv (fun env' h' hv' hk=>ihl env' h' hv' hk) hr2;exact⟨x,e2,h2,h3,h4,fun Q hq=>⟨true,hw,h5 Q hq⟩⟩
  ·obtain⟨env',h1,h2⟩:=ma hr2;obtain⟨x,e2,h2',h3,h4,h5⟩:=ihl env' h hv h1;refine⟨x,e2,h2',h3,h4,fun Q hq=>⟨false,hw,?_⟩⟩;have:=h5 Q hq;rw[h2]at this;exact this
theorem qv {I:Machine->Prop}{P:Program}{m t m1:Machine}(h:StepsIn I P m t)(hs:step P m=.next m1)(hne:m≠t):StepsIn I P m1 t:=by
 cases h with
 | refl=>exact absurd rfl hne
 | head hI h' h'' =>
  rw[hs]at h';cases h';exact h''
theorem vD {b b':Frame}{a a':Act}{k k':List Item}{cs cs':List Frame}{w w':World}(h:k≠k'):lone (b.atR a k) cs w≠lone (b'.atR a' k') cs' w':=by
 intro he;simp only[lone,Machine.mk.injEq,Array.mk.injEq,List.cons.injEq,Goroutine.mk.injEq,Frame.atR,Frame.mk.injEq]at he;exact h he.2.1.1.1.2.2.1
theorem Dr {b b':Frame}{a a':Act}{k k':List Item}{cs cs':List Frame}{w w':World}{u:FrameMode}(h:u≠.run):lone (b.atR a k) cs w≠lone { b'.atR a' k' with mode:=u } cs' w':=by
 intro he;simp only[lone,Machine.mk.injEq,Array.mk.injEq,List.cons.injEq,Goroutine.mk.injEq,Frame.atR,Frame.mk.injEq]at he;exact h he.2.1.1.1.2.2.2.2.1.symm
theorem Oh {id:Nat}:∀ {k k':List Item},exitTo id k=some k'->k'.length<=k.length:=by
 intro k
 induction k with
 | nil=>intro k' h;cases h
 | cons x k ih =>
  intro k' h;have hle:exitTo id k=some k'->k'.length<=(x :: k).length:=fun h=>Nat.le_succ_of_le (ih h);cases x with
  | inBlock id' =>
   simp only[exitTo]at h;split at h
   ·cases h;simp
   ·exact hle h
  | _=>exact hle h
theorem W.Oi {P:Program}{G:Nat->Option (List AVal)}{n:Nat}{rd:Option Nat}{c:Code}{Q:AX->St->Prop}{s:St}(hQ:∀ l s,¬ Q (.goto l) s)(h:W P G n rd c (iu (W P G n rd (.loop c) Q) Q) s):W P G n rd (.loop c) Q s:=by
 intro wb Γ a w rb hs hr b k cs hro hb hrm;have h0:(lone (b.atR a (.code (.loop c) :: k)) cs w).fenced P (dS rb):=fenced_calm hb hrm rfl;obtain⟨e,a₁,w₁,⟨x,s₁,Γ₁,hx,hq,hs₁,E₁,hn₁,hr₁,hf₁⟩,harr⟩:=h wb Γ a w rb hs hr b (.inLoop c :: k) cs hro hb hrm;cases e with
 | normal =>
  cases x with
  | normal =>
   obtain⟨e,a₂,w₂,hp,harr₂⟩:=hq wb Γ₁ a₁ w₁ rb hs₁ hr₁ b k cs hro hb hrm;have hp':=hp.step E₁ hn₁ hf₁ fun t ht=>ht;refine⟨e,a₂,w₂,hp',?_⟩;have start:StepsIn (Machine.fenced P (dS rb)) P (lone (b.atR a (.code (.loop c) :: k)) cs w) (lone (b.atR a₁ (.code c :: .inLoop c :: k)) cs w₁) :=
    .head h0 stepR_loop (StepsIn.trans harr (.one (fenced_calm hb hrm rfl) stepR_inLoop))
   obtain⟨y,s₂,Γ₂,hy,hq₂,_⟩:=hp;have hl:∀ (k':List Item),k'.length<=k.length->Item.code (.loop c) :: k≠k':=fun k' hk' he=>by subst he;simp only[List.length_cons]at hk';omega
   cases e with
   | normal=>exact start.trans (qv harr₂ stepR_loop (vD (hl _ (Nat.le_refl _))))
   | exit id =>
    refine⟨fun k' hk'=>start.trans (qv (harr₂.1 k' hk') stepR_loop (vD (hl _ (Oh hk')))),fun hr2 hk'=>?_⟩;obtain⟨k₁,h1,h2⟩:=harr₂.2 hr2 hk';exact⟨k₁,h1,start.trans (qv h2 stepR_loop (vD (k':=.code (.exit id) :: k₁) (fun he=>by cases he)))⟩
   | goto l=>cases y with
    | goto l'=>exact absurd hq₂ (hQ _ _)
    | _=>exact hy.elim
   | ret =>
    refine⟨fun hr2=>?_,fun hr2=>?_⟩
    ·obtain⟨todo,h1⟩:=harr₂.1 hr2;exact⟨todo,start.trans (qv h1 stepR_loop (Dr (fun he=>by cases he)))⟩
    ·obtain⟨k₁,h1⟩:=harr₂.2 hr2;exact⟨k₁,start.trans (qv h1 stepR_loop (vD (k':=.code .ret :: k₁) (fun he=>by cases he)))⟩
   | panic ch =>
    obtain⟨todo,h1⟩:=harr₂;exact⟨todo,start.trans (qv h1 stepR_loop (Dr (fun he=>by cases he)))⟩
   | outgrown=>cases y<;>exact hy.elim
  | _=>exact hx.elim
 | exit id=>cases x with
  | exit j=>exact⟨_,a₁,w₁,⟨.exit j,s₁,Γ₁,hx,hq,hs₁,E₁,hn₁,hr₁,hf₁⟩,.of_steps (.one h0 stepR_loop) (.pass (x:=.inLoop c) rfl (fun _ _=>.inl (by simp)) harr)⟩
  | _=>exact hx.elim
 | goto id=>cases x with
  | goto j=>exact⟨_,a₁,w₁,⟨.goto j,s₁,Γ₁,hx,hq,hs₁,E₁,hn₁,hr₁,hf₁⟩,.of_steps (.one h0 stepR_loop) (.pass (x:=.inLoop c) rfl (fun _ _=>.inl (by simp)) harr)⟩
  | _=>exact hx.elim
 | ret=>cases x with
  | ret=>exact⟨_,a₁,w₁,⟨.ret,s₁,Γ₁,hx,hq,hs₁,E₁,hn₁,hr₁,hf₁⟩,.of_steps (.one h0 stepR_loop) (.pass (x:=.inLoop c) rfl (fun _ _=>.inl (by simp)) harr)⟩
  | _=>exact hx.elim
 | panic ch=>cases x with
  | panic=>exact⟨_,a₁,w₁,⟨.panic,s₁,Γ₁,hx,hq,hs₁,E₁,hn₁,hr₁,hf₁⟩,.of_steps (.one h0 stepR_loop) (.pass (x:=.inLoop c) rfl (fun _ _=>.inl (by simp)) harr)⟩
  | _=>exact hx.elim
 | outgrown=>cases x<;>exact hx.elim
theorem Ds {b:Nat}{f:FP}{acc:List (Nat × FP)}(h:zn b f acc=true):gv b f acc:=by
 intro p hp hb;have:=V1.1 h p hp;rw[hb,Y1,VY,V1,V1]at this;refine⟨fun r hr hr2=>?_,fun r hr hr2=>?_⟩
 ·have:=this.1 r hr;simp [hr2]at this
 ·have:=this.2 r hr;simp [hr2]at this
theorem mH.Oj {P:Program}{G:Nat->Option (List AVal)}{fv:AVal}{args:List AVal}{H:AHeap}{v:AVal}{rs:List Nat}(h1:∀ r,r∈rs->r<H.next)
  (h2:∀ H2:AHeap,(∀ r,r∈rs->H2.get r=H.get r)->aw P G fv args H2 fun r H3=>r=.ret v/\H3=H2):Ev.mH P G fv args H v (fun _=>none) 0 ⟨[],rs⟩ :=
 ⟨h1,fun r (hr:false=true)=>absurd hr (by decide),fun c hc=>absurd hc (VX _),fun H2 ha _ _=>h2 H2 ha⟩
def qw (E:EP)(fv:AVal)(args:List AVal)(h:EH)(k:AVal->FP->EH->R)(r:RR):Prop :=
 ∃ v e n fp h2,k v fp h2=some r/\VH h2/\aq h2=⟨Ev.cW e (aq h).get,(aq h).next+n⟩/\Ev.mH E.P E.G fv args (aq h) v e n fp
theorem qw.pure {fv:AVal}{args:List AVal}{h:EH}{k:AVal->FP->EH->R}{r:RR}{v:AVal}{rs:List Nat}(hv:VH h)(hk:k v ⟨[],rs⟩ h=some r)(h1:∀ r,r∈rs->r<(aq h).next)
  (h2:∀ H2:AHeap,(∀ r,r∈rs->H2.get r=(aq h).get r)->aw E.P E.G fv args H2 fun r H3=>r=.ret v/\H3=H2):qw E fv args h k r :=
 ⟨v,_,0,_,h,hk,hv,rfl,mH.Oj h1 h2⟩
theorem Du {l:List Nat}{n:Nat}(h:(l.all fun r=>Nat.blt r n)=true):∀ r,r∈l->r<n:=fun r hr=>by
 have:=V1.1 h r hr;rw[YF]at this;exact this
theorem zJ (hE:EOk E)(hI:gT E ih){f:FuncId}{first cap args:List AVal}{h:EH}{k:AVal->FP->EH->R}{r:RR}(hv:VH h)(hr:vm E ih f (first++args++cap) h k=some r):qw E (.clo f first cap) args h k r:=by
 obtain⟨kp,hr1,hinv⟩:=ng (fun v acc k r=>Oy 40 v acc k r) hr;have hgood:∀ id,id∈kp->qx h 0 [] kp id:=fun id hid=>(hinv.2 id hid).resolve_left (List.not_mem_nil);have hkn:∀ id,id∈kp->id<h.nx:=fun id hid=>let ⟨_,g,e,c,hg,_⟩:=hgood id hid;hv id _ hg
 unfold CW at hr1;split at hr1
 ·rename_i p hp;obtain⟨hfz,hr2⟩:=gH hr1;obtain⟨hp1,hr3,hget⟩:=OA hr2;have hvs:VH ⟨hp1,h.nx⟩:=by
   intro id b hb;have hb':aS hp1 id=some b:=hb;rw[hget]at hb';split at hb'
   ·exact hv id b hb'
   ·cases hb'
  unfold CV at hr3;split at hr3
  ·rename_i v h' hc;obtain⟨x,h2,hcr,hv2,hK⟩:=nf hI hvs hc;obtain⟨rfl,rfl⟩:=hcr;unfold CU at hr3;split at hr3
   ·rename_i lv hle hsame hlv;obtain⟨hi2,hcl⟩:=Dy 40 v [] lv hlv;have hgl:∀ id,id∈lv->qx h2 h.nx kp lv id:=fun id hid=>(hi2.2 id hid).resolve_left (List.not_mem_nil);have hln:∀ id,id∈lv->id<h2.nx:=fun id hid=>let ⟨_,g,e,c,hg,_⟩:=hgl id hid;hv2 id _ hg
    have hle':h.nx<=h2.nx:=WG hle;obtain⟨t',hr4,hnew⟩:=OE hr3;rw[iD]at hr4;have hKin:∀ id,jf h.nx kp lv id->(id∈kp\/(h.nx<=id/\id<h2.nx/\fg lv id=true)):=by
     rintro id (⟨h1,h3⟩|⟨h1,h3⟩)
     ·exact .inl h3
     ·exact .inr ⟨by omega,hln id h3,kY.2 h3⟩
    obtain⟨hm1,hm2⟩:=ox hp;have hE1:=Ev.mH.mk (P:=E.P) (G:=E.G) (f:=f) (first:=first) (cap:=cap) (args:=args) (args':=p.1) (v:=v) (H:=aq h) (aq ⟨hp1,h.nx⟩) (aq h2) (fun id=>id∈kp) (fg lv) (kp++p.2) hE.gok
     (fun r hr=>by
      rcases VP.1 hr with hr|hr
      ·exact hkn r hr
      ·exact Du hfz r hr)
     rfl hle'
     (fun id hid=>by
      obtain⟨_,g,e,c,hg,hcc⟩:=hgood id hid;refine⟨Xi _ hid,?_,?_,g,e,c,mZ hg,fun i hi=>(hcc i hi).mono fun j hj=>hj.elim (fun h=>absurd h.1 (VX _)) fun h=>h.2⟩
      ·show Option.map _ (aS hp1 id)=Option.map _ (aS h.hp id);rw[hget,Vx hid]
      ·show Option.map _ (aS h2.hp id)=Option.map _ (aS h.hp id);rw[<- OD (Ox hsame id hid)])
     (fun id hid=>by
      show Option.map _ (aS hp1 id)=none;rw[hget,Vw hid];rfl)
     hm1
     (fun H2 ha i hi hi'=>by
      obtain⟨ri,h3,h4⟩:=hm2 i hi hi';exact Oz hkn 40 h3 H2 fun r hr=>ha r (Xb _ (h4 r hr)))
     (hK _ ⟨rfl,rfl⟩)
     (hcl.mono hKin)
     (fun id h1 h3 h4=>by
      obtain⟨_,g,e,c,hg,hcc⟩:=hgl id (kY.1 h4);exact⟨g,e,c,mZ hg,fun i hi=>(hcc i hi).mono hKin⟩)
    refine⟨v,_,_,_,⟨t',h2.nx⟩,hr4,?_,?_,hE1⟩
    ·intro id b hb;have hb':aS t' id=some b:=hb;rw[hnew]at hb';show id<h2.nx;split at hb'
     ·rename_i hc;have:Nat.sub h2.nx h.nx=h2.nx - h.nx:=rfl;rw[this]at hc;omega
     ·have:=hv id b hb';omega
    ·have hget2:(aq ⟨t',h2.nx⟩).get=Ev.cW (Ev.j8 (aq h).next (aq h2).next (fg lv) (aq h2).get) (aq h).get:=by
      funext m
      show Option.map EBlk.kS (aS t' m)=_;rw[hnew];have hsub:h.nx+Nat.sub h2.nx h.nx=h2.nx:=by
       have:Nat.sub h2.nx h.nx=h2.nx - h.nx:=rfl;omega
      rw[hsub];unfold Ev.cW Ev.j8;by_cases hc:h.nx<=m/\m<h2.nx
      ·rw[Vx hc,Vx (show (aq h).next<=m/\m<(aq h2).next from hc)];by_cases hm:fg lv m=true
       ·obtain⟨_,g,e,c,hg,hcc⟩:=hgl m (kY.1 hm);rw[Vx hm,Vx hm,mZ hg,hg];rfl
       ·rw[Vw hm,Vw hm];rfl
      ·rw[Vw hc,Vw (show ¬ ((aq h).next<=m/\m<(aq h2).next) from hc)];rfl
     have hnx:(aq ⟨t',h2.nx⟩).next=(aq h).next+((aq h2).next - (aq h).next):=by
      show h2.nx=h.nx+(h2.nx - h.nx)
      omega
     calc aq ⟨t',h2.nx⟩=⟨(aq ⟨t',h2.nx⟩).get,(aq ⟨t',h2.nx⟩).next⟩:=rfl
      _=_:=by rw[hget2,hnx]
   ·cases hr3
  ·cases hr3
 ·cases hr1
theorem Ol (hE:EOk E)(hI:gT E ih){fv:AVal}{args:List AVal}{h:EH}{k:AVal->FP->EH->R}{r:RR}(hv:VH h)(hr:zp E ih fv args h k=some r):qw E fv args h k r:=by
 unfold zp at hr;split at hr
 ·rename_i f first cap
  split at hr
  ·unfold CY at hr;split at hr
   ·cases hr
   ·rw[jd]at hr;split at hr
    ·exact zJ hE hI hv hr
    ·rename_i l hl;unfold CX at hr;split at hr
     ·exact zJ hE hI hv hr
     ·rename_i p hm;split at hr
      ·rename_i v hf;obtain⟨hlt,hr2⟩:=gH hr;exact qw.pure hv hr2 (Du hlt) fun H2 ha=>aw.clo (Do hE hm (hE.known f l hl p.1 v (Dl hf)) H2 ha)
      ·exact zJ hE hI hv hr
  ·rename_i e he;unfold CT at hr;split at hr
   ·rename_i hfc;obtain⟨rfl,rfl⟩:=Y2.1 hfc;rw[jd]at hr;split at hr
    ·rename_i v hv2;exact qw.pure hv hr (fun r hr=>by cases hr) fun H2 _=>hE.ext f e he _ _ hv2 _ _ ⟨rfl,rfl⟩
    ·cases hr
   ·cases hr
 ·cases hr
theorem Om (hE:EOk E)(hI:gT E ih){o:Oper}{b i:Nat}{acc:List (Nat × FP)}{k:qo}{env:BT AVal}{h:EH}{r:RR}{KQ:(AX->St->Prop)->List (Nat × FP)->St->Prop}(hv:VH h)
  (hk:∀ acc env' h',VH h'->k acc env' h'=some r->Rest r (fun Q=>KQ Q acc) env' h') (hr:vp E ih o b i acc k env h=some r):
  Rest r (fun Q s=>Ev.ct E.P E.G o (fun f s'=>gv b f acc/\KQ Q (dU i f acc) s') s) env h:=by
 have gen:∀ {op:Op},o.op=op->vn o.dst b i acc k env (bB E.P E.G (aF env) h.nx op) (ot E env h op) h=some r->(∀ fv args ats,op≠.call ⟨.value fv,args,ats⟩) ->
   Rest r (fun Q s=>Ev.ct E.P E.G o (fun f s'=>gv b f acc/\KQ Q (dU i f acc) s') s) env h:=by
  intro op hop hd hne;unfold vn at hd;obtain⟨hap,hd2⟩:=gH hd;obtain⟨v,h',h1,h2,h3⟩:=Db hv (vB hv).1 hd2;obtain⟨env',h4,h5⟩:=ma h3;obtain⟨x,e2,h6,h7,h8,h9⟩:=hk _ _ _ h2 h4;refine⟨x,e2,h6,h7,h8,fun Q hq=>?_⟩;have hopA:=(vB hv).2 _ _ h1;have hq2:=h9 Q hq;rw[h5]at hq2;unfold Ev.ct;split
  ·rename_i hop2;exact absurd (hop.symm.trans hop2) (hne _ _ _)
  ·refine⟨(v,aq h'),by rw[hop];exact hopA,?_⟩;rw[hop];exact⟨Ds hap,hq2⟩
 unfold vp at hr;split at hr
 ·rename_i c hop;split at hr
  ·rename_i fv hc;rw[qs,cZ]at hr;obtain⟨v,e,n,fp,h2,hr2,hv2,hH,hec⟩:=Ol hE hI hv hr;unfold CZ at hr2;obtain⟨hap,hd2⟩:=gH hr2;rw[qq]at hd2;obtain⟨env',h4,h5⟩:=ma hd2;obtain⟨x,e2,h6,h7,h8,h9⟩:=hk _ _ _ hv2 h4;refine⟨x,e2,h6,h7,h8,fun Q hq=>?_⟩;have hq2:=h9 Q hq;rw[h5,hH]at hq2;obtain⟨callee,args,ats⟩:=c;simp only at hc;subst hc;unfold Ev.ct;rw[hop];exact⟨v,e,n,fp,hec,Ds hap,hq2⟩
  ·rename_i hne;refine gen hop hr fun fv args ats he=>?_;have he2:c=⟨.value fv,args,ats⟩:=Op.call.inj he;exact hne fv (by rw[he2])
 ·cases hr
 ·rename_i op hne1 hne2;exact gen rfl hr fun fv args ats he=>hne1 _ he
theorem On (hE:EOk E)(hI:gT E ih){all:Array Oper}{tail:BT AVal->EH->R}{r:RR}{TQ:(AX->St->Prop)->St->Prop}(ht:∀ env h,VH h->tail env h=some r->Rest r TQ env h):
  ∀ (l:List Oper) (bs:List Nat) (i:Nat) (acc:List (Nat × FP)) (env:BT AVal) (h:EH),VH h->vq E ih all tail l bs i acc env h=some r->Rest r (fun Q=>Ev.dR E.P E.G all (TQ Q) bs i acc l) env h:=by
 intro l
 induction l with
 | nil =>
  intro bs i acc env h hv hr;obtain⟨x,e2,h2,h3,h4,h5⟩:=ht env h hv hr;exact⟨x,e2,h2,h3,h4,fun Q hq=>by cases bs<;>exact h5 Q hq⟩
 | cons o l ihl =>
  intro bs i acc env h hv hr;cases bs with
  | nil=>cases hr
  | cons b bs =>
   have hr1:qk all (aF env) o.guard (vp E ih o b i acc (vq E ih all tail l bs (i+1)) env h) (fO env o.dst (.lit undef) fun env=>vq E ih all tail l bs (i+1) acc env h)=some r:=hr;rcases Dp hr1 with ⟨hw,hr2⟩|⟨hw,hr2⟩
   ·obtain⟨x,e2,h2,h3,h4,h5⟩:=Om hE hI (KQ:=fun Q acc=>Ev.dR E.P E.G all (TQ Q) bs (i+1) acc l) hv (fun acc env' h' hv' hk=>ihl bs (i+1) acc env' h' hv' hk) hr2;exact⟨x,e2,h2,h3,h4,fun Q hq=>⟨true,hw,h5 Q hq⟩⟩
   ·obtain⟨env',h1,h2⟩:=ma hr2;obtain⟨x,e2,h2',h3,h4,h5⟩:=ihl bs (i+1) acc env' h hv h1;refine⟨x,e2,h2',h3,h4,fun Q hq=>⟨false,hw,?_⟩⟩;have:=h5 Q hq;rw[h2]at this;exact this
theorem Dv {r0:R}{r:RR}(h:qp r0=some r):r0=some r/\∀ l e h,r≠.ev (.goto l) e h:=by
 unfold qp at h;split at h
 ·cases h
 ·rename_i hne;subst h;exact⟨rfl,fun l e h he=>hne l e h (by rw[he])⟩
theorem Oo (hE:EOk E)(hI:gT E ih):gT E (C3 E ih):=by
 intro rd n c env h r hr hv hf;have seqK:∀ (a:Code) (b:Code),fits n a=true->fits n b=true->sK ih rd n b (ih rd n a env h)=some r ->
   ∃ x env' h',r=.ev x env' h'/\VH h'/\∀ Q:AX->St->Prop,Q x ⟨aF env',aq h'⟩->W E.P E.G n rd a (iu (W E.P E.G n rd b Q) Q) ⟨aF env,aq h⟩:=by
  intro a b hfa hfb hs;unfold sK at hs;split at hs
  ·rename_i e1 h1 hi;obtain⟨x,e2,h2,h3,h4,h5⟩:=hI _ _ _ _ _ _ hi hv hfa;cases h3;obtain⟨x',e',h',h6,h7,h8⟩:=hI _ _ _ _ _ _ hs h4 hfb;exact⟨x',e',h',h6,h7,fun Q hq=>h5 _ (h8 Q hq)⟩
  ·rename_i r0 hne;obtain⟨x,e2,h2,h3,h4,h5⟩:=hI _ _ _ _ _ _ hs hv hfa;subst h3;refine⟨x,e2,h2,rfl,h4,fun Q hq=>h5 _ ?_⟩;cases x with
   | normal=>exact absurd hs (hne _ _)
   | _=>exact hq
 cases c with
 | skip=>exact⟨.normal,env,h,(Option.some.inj hr).symm,hv,fun Q hq=>.skip hq⟩
 | label l=>exact⟨.normal,env,h,(Option.some.inj hr).symm,hv,fun Q hq=>.label hq⟩
 | exit i=>exact⟨.exit i,env,h,(Option.some.inj hr).symm,hv,fun Q hq=>.exit hq⟩
 | ret=>exact⟨.ret,env,h,(Option.some.inj hr).symm,hv,fun Q hq=>.ret hq⟩
 | goto l=>cases hr
 | refuse w=>cases hr
 | region id ops dr =>
  have hr1:Bool.rec (motive:=fun _=>R) (qm E ih rd ops ops.toList env h) (vr E ih rd ops (mV ops.toList []) (sJ (mV ops.toList []) ops.toList.length) env h) dr=some r:=hr;cases dr with
  | false =>
   obtain⟨x,e2,h2,h3,h4,h5⟩:=Dq hE hI ops.toList env h hv hr1;exact⟨x,e2,h2,h3,h4,fun Q hq=>.region hf (h5 Q hq)⟩
  | true =>
   have hr2:vr E ih rd ops (mV ops.toList []) (sJ (mV ops.toList []) ops.toList.length) env h=some r:=hr1;unfold vr at hr2;obtain⟨hok,hr3⟩:=gH hr2;obtain⟨x,e2,h2,h3,h4,h5⟩:=On hE hI (TQ:=fun Q=>dI E.P E.G rd Q ops (ops.toList.drop (sJ (mV ops.toList []) ops.toList.length))) (fun env h hv hr=>Dq hE hI _ env h hv hr) _ _ _ _ env h hv hr3;exact⟨x,e2,h2,h3,h4,fun Q hq=>Ev.W.HA _ _ hE.mixed hf hok (h5 Q hq)⟩
 | seq a b =>
  simp only[fits,VY]at hf;obtain⟨x,e2,h2,h3,h4,h5⟩:=seqK a b hf.1 hf.2 hr;exact⟨x,e2,h2,h3,h4,fun Q hq=>.seq (h5 Q hq)⟩
 | cond x a b =>
  simp only[fits,VY]at hf;have hr1:zu (ah E.G (aF env) x) (ih rd n a env h) (ih rd n b env h)=some r:=hr;unfold zu at hr1;split at hr1
  ·rename_i t ht;cases t with
   | true =>
    obtain⟨y,e2,h2,h3,h4,h5⟩:=hI _ _ _ _ _ _ hr1 hv hf.1;exact⟨y,e2,h2,h3,h4,fun Q hq=>.cond ht (h5 Q hq)⟩
   | false =>
    obtain⟨y,e2,h2,h3,h4,h5⟩:=hI _ _ _ _ _ _ hr1 hv hf.2;exact⟨y,e2,h2,h3,h4,fun Q hq=>.cond ht (h5 Q hq)⟩
  ·cases hr1
 | block id b =>
  have hr1:zq id (ih rd n b env h)=some r:=hr;unfold zq at hr1;split at hr1
  ·rename_i i e1 h1 hi;obtain⟨x,e2,h2,h3,h4,h5⟩:=hI _ _ _ _ _ _ hi hv hf;cases h3;cases hb:Nat.beq i id with
   | true =>
    rw[hb]at hr1;have:=VO hb;refine⟨.normal,e1,h1,(Option.some.inj hr1).symm,h4,fun Q hq=>.block (h5 _ ?_)⟩;show (if i=id then Q .normal _ else Q (.exit i) _);rw[Vx this];exact hq
   | false =>
    rw[hb]at hr1;have:¬ i=id:=fun h=>by rw[h]at hb;rw[show Nat.beq id id=true from XB _]at hb;cases hb
    refine⟨.exit i,e1,h1,(Option.some.inj hr1).symm,h4,fun Q hq=>.block (h5 _ ?_)⟩;show (if i=id then Q .normal _ else Q (.exit i) _);rw[Vw this];exact hq
  ·rename_i r0 hne;obtain⟨x,e2,h2,h3,h4,h5⟩:=hI _ _ _ _ _ _ hr1 hv hf;subst h3;refine⟨x,e2,h2,rfl,h4,fun Q hq=>.block (h5 _ ?_)⟩;cases x with
   | exit i=>exact absurd hr1 (hne _ _ _)
   | _=>exact hq
 | loop b =>
  have hr1:qp (sK ih rd n (.loop b) (ih rd n b env h))=some r:=hr;obtain⟨hr2,hng⟩:=Dv hr1;obtain⟨x,e2,h2,h3,h4,h5⟩:=seqK b (.loop b) hf hf hr2;refine⟨x,e2,h2,h3,h4,fun Q hq=>(W.Oi (Q:=fun y t=>y=x/\t=⟨aF e2,aq h2⟩) (fun l s hx=>?_) (h5 _ ⟨rfl,rfl⟩)).mono fun y t ht=>by rw[ht.1,ht.2];exact hq⟩;subst h3;rw[<- hx.1]at hng;exact hng _ _ _ rfl
 | scope b =>
  have hr1:qp (ih rd n b env h)=some r:=hr;obtain⟨hr2,hng⟩:=Dv hr1;obtain⟨x,e2,h2,h3,h4,h5⟩:=hI _ _ _ _ _ _ hr2 hv hf;subst h3;refine⟨x,e2,h2,rfl,h4,fun Q hq=>.scope (h5 _ ?_)⟩;cases x with
  | goto i=>exact absurd rfl (hng _ _ _)
  | _=>exact hq
 | rangeFunc f ps asg body =>
  have hr1:zw E ih rd n env h ps asg body (ah E.G (aF env) f)=some r:=hr;unfold zw at hr1;split at hr1
  ·rename_i g first cap hg
   obtain⟨hp1,hr2,hs1⟩:=mX _ _ _ _ _ hr1;rw[jd]at hr2;have hv1:VH ⟨hp1,h.nx+1⟩:=by
    intro j b hj;rw[hs1]at hj;show j<h.nx+1;split at hj
    ·omega
    ·have:=hv _ _ hj;omega
   have hlay:(aq h).lay (aq h).next (.loop .ready none n (aF env) ps asg body)=some (aq ⟨hp1,h.nx+1⟩):=by
    rw[vw (nx:=h.nx+1) hs1];unfold AHeap.lay;rw[Vx rfl];rfl
   have rule:∀ Q:AX->St->Prop,ae E.P E.G g (first++[.yld h.nx]++cap) (aq ⟨hp1,h.nx+1⟩) (ur rd Q (aF env) h.nx)->W E.P E.G n rd (.rangeFunc f ps asg body) Q ⟨aF env,aq h⟩ :=
    fun Q hq=>W.rangeFunc hg ⟨_,hlay,hq⟩
   unfold C0 at hr2;split at hr2
   ·rename_i v h2 hc;obtain⟨x,h3,hcr,hv3,hK⟩:=nf hI hv1 hc;obtain⟨rfl,rfl⟩:=hcr;obtain⟨hrd,hr3⟩:=gH hr2;split at hr3
    ·cases hr3
    ·rename_i st pend n2 env2 ps2 asg2 body2 hne hg3;obtain⟨hp3,hr4,hs3⟩:=mX _ _ _ _ _ hr3;have hup:=zI (h:=h3) hs3;have hv4:=hv3.set hs3 (hv3 _ _ hg3);have hend:se ((aq h3).get h.nx)=some (pend,.loop .exhausted pend n2 (aF env2) ps2 asg2 body2):=by
      rw[sM hg3];unfold se;cases st with
      | busy=>exact(hne rfl).elim
      | _=>rfl
     have fin:∀ x:AX,(∀ Q:AX->St->Prop,Q x ⟨aF env,aq ⟨hp3,h3.nx⟩⟩->Cw Q ⟨aF env,aq ⟨hp3,h3.nx⟩⟩ pend)->r=.ev x env ⟨hp3,h3.nx⟩ ->
       ∃ x env' h',r=.ev x env' h'/\VH h'/\∀ Q:AX->St->Prop,Q x ⟨aF env',aq h'⟩->W E.P E.G n rd (.rangeFunc f ps asg body) Q ⟨aF env,aq h⟩:=by
      intro x hx he;refine⟨x,env,_,he,hv4,fun Q hq=>rule Q (hK _ ⟨vC hrd,_,hend,?_⟩)⟩;have:=hx Q hq;rw[hup]at this;exact this
     unfold endLoop at hr4;split at hr4
     ·exact fin .normal (fun Q hq=>hq) (Option.some.inj hr4).symm
     ·exact fin .ret (fun Q hq=>hq) (Option.some.inj hr4).symm
     ·rename_i i;exact fin (.exit i) (fun Q hq=>hq) (Option.some.inj hr4).symm
     ·cases hr4
    ·cases hr3
   ·rename_i h2 hc;obtain⟨x,h3,hcr,hv3,hK⟩:=nf hI hv1 hc;obtain⟨rfl,rfl⟩:=hcr;obtain⟨hrd,hr3⟩:=gH hr2;exact⟨.panic,env,h3,(Option.some.inj hr3).symm,hv3,fun Q hq=>rule Q (hK _ ⟨vC hrd,hq⟩)⟩
   ·cases hr2
  ·cases hr1
theorem Oq (hE:EOk E):∀ fuel,gT E (C4 E fuel):=by
 intro fuel
 induction fuel with
 | zero=>intro rd n c env h r hr;cases hr
 | succ f ih=>exact Oo hE ih
theorem Ot (hE:EOk E){fuel:Nat}{f:FuncId}{args:List AVal}{v:AVal}(h:C5 E fuel f args=some v):ae E.P E.G f args cL fun r H'=>∃ u,r=.ret u/\Fresh H' u v :=
 Oa (Oq hE fuel) h
end
end Go.Hx
namespace Go.Hx
open Go.ChangeShapes Go.WideShapes Go.RowKit
variable {P:Program} {G:Nat->Option (List AVal)}
def iV:az:=fun _=>none
def xz (P:Program)(G:Nat->Option (List AVal))(W:World):Prop:=∀ g cells,G g=some cells->RelV P iV cL W (.vptr cells 0) (.pointer (some ⟨g,0,none⟩))/\∃ c e f,W.heap[g]?=some (.cells c e f)/\c.size=cells.length
theorem G2 {W:World}(hg:xz P G W):RelH P G iV cL W where
 arr _ _ _ _ h:=by cases h
 loop _ _ _ _ _ _ _ _ h:=by cases h
 mp _ _ h:=by cases h
 rsv _ h:=by cases h
 inj _ _ _ _ _ _ _ h:=by cases h
 dom _ _ h:=by cases h
 lt _ _ _ _ h:=by cases h
 next _ _ h:=by cases h
 glob g cells h:=(hg g cells h).1
 gsz g cells h:=(hg g cells h).2
theorem xA (b:Nat):¬ iV.fw b:=fun ⟨_,_,_,h⟩=>by cases h
theorem G3 {f:FuncId}{args:List AVal}{cargs:Array Value}{W:World}(hA:ae P G f args cL fun r H'=>∃ u,r=.ret u/\Fresh H' u (.lit (.bool true)))(hg:xz P G W)(hr:dC P iV cL W args cargs):
  Calls P f cargs W fun e W'=>e=.returned (.bool true)/\RowKit.Below W.heap.size W W'/\∀ a,a.block<W.heap.size->W'.frozen? a=W.frozen? a:=by
 refine callsIn_wide.1 ((hA.2 iV W cargs (G2 hg) hr).mono ?_);rintro e W' ⟨r,H',Γ',hend,⟨u,rfl,hf⟩,_,E,_⟩;cases e with
 | returned cv =>
  have hu:u=.lit (.bool true):=by cases hf;rfl
  subst hu;cases hend;exact⟨rfl,⟨E.os,E.tape,E.output,E.size,fun k hk=>(E.keep k hk (xA k)).1⟩,E.frz⟩
 | panicked=>exact hend.elim
 | outgrown=>exact hend.elim
theorem G4 {W W':World}(hb:RowKit.Below W.heap.size W W')(may:MemPlace->Prop):W.keptBut W' may:=by
 refine⟨hb.os,hb.output,fun i hi=>?_⟩;rw[hb.block i hi];cases h:W.heap[i]? with
 | none=>rfl
 | some o=>cases o<;>first|exact rfl|exact⟨rfl,rfl,rfl,fun _ _=>rfl⟩|exact .inr ⟨rfl,rfl⟩
theorem G5 {H:Type}{enc:TypeId × Value->H}(hl:laidOutB P=true){W W':World}(hb:RowKit.Below W.heap.size W W'){sp:Nat->Bool}:∀ {ts:List TypeId} {vs:List Value} {ds:List (DataW H)} {ps:List MemPlace},
  ts.all (fun t=>P.readableRec t && decide (t<P.types.size))=true->DataW.TrodAll enc P W 0 (fun _=>true) true ts vs ds ps->(∀ x∈ps,x.block<W.heap.size)->(∀ x∈ps,sp x.block=true)->DataW.TrodAll enc P W' 0 sp true ts vs ds ps:=by
 intro ts
 induction ts with
 | nil =>
  intro vs ds ps _ h _ _;cases vs<;>cases ds<;>first|exact h|exact h.elim
 | cons t ts ih =>
  intro vs ds ps hok h hlt hsp;simp only[List.all_cons,VY,decide_eq_true_eq]at hok;cases vs with
  | nil=>cases ds<;>exact h.elim
  | cons v vs=>cases ds with
   | nil=>exact h.elim
   | cons d ds =>
    obtain⟨p,q,h1,h2,rfl⟩:=h;refine⟨p,q,?_,ih hok.2 h2 (fun x hx=>hlt x (by simp [hx])) (fun x hx=>hsp x (by simp [hx])),rfl⟩;exact WideElems.Trod_stays hl hok.1.1 hok.1.2 h1 (fun x hx=>hb.same (hlt x (by simp [hx]))) (fun x hx=>hsp x (by simp [hx]))
theorem G6 {H:Type}{enc:TypeId × Value->H}{W:World}{base:Nat}{sp:Nat->Bool}{held:Bool}:∀ {ts:List TypeId} {vs:List Value} {ds:List (DataW H)} {ps:List MemPlace},
  DataW.TrodAll enc P W base sp held ts vs ds ps->vs.length=ts.length/\ds.length=ts.length:=by
 intro ts
 induction ts with
 | nil =>
  intro vs ds ps h;cases vs<;>cases ds<;>first|exact⟨rfl,rfl⟩|exact h.elim
 | cons t ts ih =>
  intro vs ds ps h;cases vs with
  | nil=>cases ds<;>exact h.elim
  | cons v vs=>cases ds with
   | nil=>exact h.elim
   | cons d ds =>
    obtain⟨p,q,_,h2,_⟩:=h;obtain⟨h3,h4⟩:=ih h2;exact⟨by simp [h3],by simp [h4]⟩
theorem G7 {H:Type}{enc:TypeId × Value->H}{f:Func}{s:ChangeSpec}{apart fresh handsOn again:Bool}{W W':World}{args:Array Value}{ds gs:List (DataW H)}{before:List MemPlace}{t:TypeId}
  (hl:laidOutB P=true) (hok:f.params.toList.all (fun t=>P.readableRec t && decide (t<P.types.size))=true) (hvars:s.vars=[]) (hrt:f.resultTypes=#[t]) (ht:P.underlying t=some .bool)
  (hs:∀ ds:List (DataW H),ds.length=f.params.toList.length->s.fn H (ds++[])={ results:=[.lit (.bool true)],args:=ds })
  (hW:DataW.Whole enc P f.params.toList s.vars apart W args.toList ds gs before) (hb:RowKit.Below W.heap.size W W') (hfz:∀ a,a.block<W.heap.size->W'.frozen? a=W.frozen? a):s.post enc P f apart fresh handsOn again W args (.bool true) W':=by
 have hW':=hW;obtain⟨p,q,hA,hV,rfl,hz,hn⟩:=hW;have hgs:gs=[]/\q=[]:=by
  rw[hvars]at hV;cases gs with
  | nil=>exact⟨rfl,hV⟩
  | cons=>exact hV.elim
 obtain⟨rfl,rfl⟩:=hgs;have hfn:=hs ds (G6 hA).2;have hlt:∀ x∈p,x.block<W.heap.size:=fun x hx=>by simpa using hW'.lt x (by simp [hx])
 have hres:∀ (b:Nat) (sp:Nat->Bool) (hd:Bool),DataW.TrodAll enc P W' b sp hd f.resultTypes.toList ((Value.bool true).resultList f.resultTypes.size) (s.fn H (ds++[])).results []:=fun b sp hd=>by
  rw[hfn,hrt];exact trodAll_mk1 (shut_bool ht true)
 have hargs:∀ sp:Nat->Bool,(∀ x∈p,sp x.block=true)->DataW.TrodAll enc P W' 0 sp true f.params.toList args.toList (s.fn H (ds++[])).args p:=fun sp hsp=>by
  rw[hfn];exact G5 hl hb hok hA hlt hsp
 have hva:∀ sp:Nat->Bool,DataW.TrodVars enc P W' sp s.vars (s.fn H (ds++[])).vars []:=fun sp=>by
  rw[hfn,hvars];exact rfl
 have hpp:p++[]=p:=List.append_nil p;have hold:∀ x∈p,(fun b=>decide (b<W.heap.size)) x.block=true:=fun x hx=>by simpa using hlt x hx
 rw[hpp]at hW' hz hn;refine⟨ds,[],p,[],p,[],hW',hres _ _ _,hargs _ hold,hva _,World.keptBut_mono (fun x hx=>⟨hx,.inr (.inl hx)⟩) (G4 hb _),fun _=>⟨ok_one hrt rfl (okWide_bool_mk ht true),(s.fn H (ds++[])).results++(s.fn H (ds++[])).args,(s.fn H (ds++[])).vars,p,?_,fun x hx _=>hx⟩⟩;have hall:=trodAll_append (hargs (fun _=>true) fun _ _=>rfl) (hres 0 (fun _=>true) true);refine⟨p,[],by simpa using hall,hva _,by simp,fun b off hx=>?_,fun ha=>by simpa using hn ha⟩;rw[hfz _ (hlt _ hx)];exact hz b off hx
end Go.Hx
namespace Go.Hx
variable {P:Program} {G:Nat->Option (List AVal)}
abbrev km:=List (List AVal × AVal)
def kn (P:Program)(G:Nat->Option (List AVal))(f:FuncId)(l:km):Prop:=∀ p,p∈l->ae P G f p.1 cL fun r H'=>∃ u,r=.ret u/\Fresh H' u p.2
theorem kn.nil {f:FuncId}:kn P G f []:=fun _ h=>by cases h
theorem kn.cons {f:FuncId}{p:List AVal × AVal}{l:km}(h:ae P G f p.1 cL fun r H'=>∃ u,r=.ret u/\Fresh H' u p.2)(hl:kn P G f l):kn P G f (p :: l):=fun q hq=>by
 rcases List.mem_cons.1 hq with rfl|hq
 ·exact h
 ·exact hl q hq
theorem kn.append {f:FuncId}{l l':km}(h:kn P G f l)(h':kn P G f l'):kn P G f (l++l'):=fun q hq=>(VP.1 hq).elim (h q) (h' q)
noncomputable def vE (l:List (FuncId × km))(f:FuncId):Option km :=
 List.rec (motive:=fun _=>Option km) none (fun p _ ih=>Bool.rec (motive:=fun _=>Option km) ih (some p.2) (Nat.beq p.1 f)) l
def zK (P:Program)(G:Nat->Option (List AVal)):List (FuncId × km)->Prop
 | []=>True
 | p :: l=>kn P G p.1 p.2/\zK P G l
theorem Ou:∀ {l:List (FuncId × km)},zK P G l->∀ f t,vE l f=some t->kn P G f t:=by
 intro l
 induction l with
 | nil=>intro _ f t h;cases h
 | cons p l ih =>
  intro ha f t h;have h':Bool.rec (motive:=fun _=>Option km) (vE l f) (some p.2) (Nat.beq p.1 f)=some t:=h;cases hb:Nat.beq p.1 f with
  | true =>
   rw[hb]at h';have:=VO hb;have h2:p.2=t:=Option.some.inj h';rw[<- this,<- h2];exact ha.1
  | false =>
   rw[hb]at h';exact ih ha.2 f t h'
theorem EOk.Ov {E:EP}{l:List (FuncId × km)}(hk:E.known=vE l)(gok:gE E.G)(mixed:E.P.follows .mixedOrders=true)
  (gd:∀ f z,E.gd f=some z->Dm E.P E.G f z) (ha:zK E.P E.G l) (hx:qu E:=by exact qu.none rfl):EOk E :=
 ⟨gok,mixed,fun f t h a v hm=>Ou ha f t (by rw[<- hk];exact h) (a,v) hm,gd,hx⟩
noncomputable def zL (E:EP)(fuel:Nat)(f:FuncId)(args:List AVal)(v:AVal):Bool:=match C5 E fuel f args with
 | some u=>qf 40 u v
 | none=>false
theorem Ow {E:EP}{fuel:Nat}{f:FuncId}{args:List AVal}{v:AVal}(hE:EOk E)(h:zL E fuel f args v=true):ae E.P E.G f args cL fun r H'=>∃ u,r=.ret u/\Fresh H' u v:=by
 unfold zL at h;split at h
 ·rename_i u hu;rw[<- Dk 40 _ _ h];exact Ot hE hu
 ·cases h
end Go.Hx
namespace Go.Hx
variable {P:Program} {G:Nat->Option (List AVal)} {Γ Γ':az} {H H':AHeap} {w w':World}
section
variable {n:Nat} {wb:Base} {rd rb:Option Nat} {Q:AX->St->Prop}
end
end Go.Hx
namespace Go.Hx
open Go.ChangeShapes Go.WideShapes Go.RowKit
variable {P:Program} {W:World} {H:Type} {enc:TypeId × Value->H} {spare:Nat->Bool} {held:Bool}
def gR (P:Program)(W:World)(as:List AVal)(cs:List Value):Prop:=cs.length=as.length/\∀ i (h:i<as.length) (h':i<cs.length),RelV P iV cL W as[i] cs[i]
def eW (enc:TypeId × Value->H)(P:Program)(W:World)(spare:Nat->Bool)(held:Bool)(t:TypeId)(φ:DataW H->List AVal->Prop):Prop :=
 ∀ fuel cs x,DataW.trod enc P W 0 spare held fuel t cs=some x->∃ as,gR P W as cs/\φ x.1 as
theorem gR.nil:gR P W [] []:=⟨rfl,fun i h _=>absurd h (VX _)⟩
theorem gR.one {a:AVal}{c:Value}(h:RelV P iV cL W a c):gR P W [a] [c]:=⟨rfl,fun i hi _=>by
 match i,hi with
 | 0,_=>exact h⟩
theorem gR.append {as bs:List AVal}{cs ds:List Value}(h1:gR P W as cs)(h2:gR P W bs ds):gR P W (as++bs) (cs++ds):=by
 refine⟨by simp [h1.1,h2.1],fun i h h'=>?_⟩;by_cases hi:i<as.length
 ·rw[WC hi,WC (by rw[h1.1];exact hi)];exact h1.2 i hi _
 ·have e:=h1.1;rw[WJ (by omega),WJ (by omega)];have:=h2.2 (i - as.length) (by simp at h;omega) (by rw[h2.1];simp at h;omega);simpa [e] using this
theorem jC {t:TypeId}{k:IntKind}(ht:P.underlying t=some (.int k)):eW enc P W spare held t fun d as=>∃ n,d=.lit (.int k n)/\as=[.lit (.int k n)]/\(Lit.int k n).wf=true:=by
 intro fuel cs x h;cases fuel with
 | zero=>simp [DataW.trod]at h
 | succ n =>
  unfold DataW.trod at h;rw[ht]at h;split at h<;>simp_all
  rename_i k' n' _ _;obtain⟨⟨rfl,hw⟩,rfl⟩:=h;exact⟨_,.one (.lit _),_,rfl,rfl,hw⟩
theorem x7:∀ {rows:List (List AVal)} {css:List (List Value)},css.length=rows.length->(∀ i (h:i<rows.length) (h':i<css.length),gR P W rows[i] css[i])->gR P W rows.flatten css.flatten:=by
 intro rows
 induction rows with
 | nil=>intro css h _;obtain rfl:=VK h;exact .nil
 | cons r rows ih =>
  intro css h h'
  match css,h with
  | c :: css,h =>
   simp only[List.flatten_cons];exact(h' 0 (by simp) (by simp)).append (ih (by simpa using h) fun i hi hi'=>h' (i+1) (by simpa using hi) (by simpa using hi'))
theorem ya {α:Type}{Q:Nat->α->Prop}:∀ n,(∀ i,i<n->∃ a,Q i a)->∃ l:List α,l.length=n/\∀ i (h:i<l.length),Q i l[i]:=by
 intro n
 induction n with
 | zero=>intro _;exact⟨[],rfl,fun i h=>absurd h (VX _)⟩
 | succ n ih =>
  intro h;obtain⟨l,hl,hq⟩:=ih fun i hi=>h i (by omega);obtain⟨a,ha⟩:=h n (by omega);refine⟨l++[a],by simp [hl],fun i hi=>?_⟩;by_cases hi':i<l.length
  ·rw[WC hi'];exact hq i hi'
  ·have:i=l.length:=(by simp at hi;omega);subst this;simp only[List.getElem_concat_length];rw[hl];exact ha
theorem Ix {α:Type}{z:Nat}:∀ {rows:List (List α)},(∀ i (h:i<rows.length),rows[i].length=z)->rows.flatten.length=rows.length*z:=by
 intro rows
 induction rows with
 | nil=>intro _;simp
 | cons r rows ih =>
  intro h;have h0:=h 0 (by simp);have:=ih fun i hi=>h (i+1) (by simpa using hi);simp only[Wb]at h0;simp only[List.flatten_cons,List.length_append,List.length_cons,this,h0,Xy];omega
theorem Iy {α:Type}{z:Nat}:∀ {rows:List (List α)},(∀ i (h:i<rows.length),rows[i].length=z)->∀ i j (hi:i<rows.length) (hj:j<z),rows.flatten[i*z+j]?=(rows[i])[j]?:=by
 intro rows
 induction rows with
 | nil=>intro _ i j hi;exact absurd hi (VX _)
 | cons r rows ih =>
  intro h i j hi hj;have h0:=h 0 (by simp);simp only[Wb]at h0;cases i with
  | zero=>simp only[List.flatten_cons,Wb,Xj,Nat.zero_add];rw[VV (by omega)]
  | succ i =>
   simp only[List.flatten_cons,W0];rw[VQ (by rw[h0,Xy];omega),<- ih (fun i hi=>h (i+1) (by simpa using hi)) i j (by simpa using hi) hj];congr 1;rw[h0,Xy];omega
def tW (φ:DataW H->List AVal->Prop)(ds:List (DataW H))(rows:List (List AVal)):Prop:=ds.length=rows.length/\∀ i (h:i<rows.length) (h':i<ds.length),φ ds[i] rows[i]
theorem BZ {t e:TypeId}{φ:DataW H->List AVal->Prop}(ht:P.underlying t=some (.slice e))(hz:0<P.cellsOf e)(he:eW enc P W spare held e φ):
  eW enc P W spare held t fun d as=>(d=.nil/\as=[.vec 0 []])\/∃ ds rest rows,d=.slice ds rest/\as=[.vec rows.length rows.flatten]/\tW φ ds rows/\(∀ i (h:i<rows.length),rows[i].length=P.cellsOf e)/\rows.length<=maxLen:=by
 intro fuel cs x h;rcases DataW.trod_slice ht h with ⟨rfl,rfl⟩|⟨a,len,cap,elems,rest,n,rfl,rfl,rfl,_,hl,hm,hlen,hel,_,_⟩
 ·exact⟨_,.one (.vec0 _ _),.inl ⟨rfl,rfl⟩⟩
 have hrow:∀ i,i<len->∃ p:List Value × List AVal,W.cells? 0 (a.add (i*P.cellsOf e)) (P.cellsOf e)=some p.1/\gR P W p.2 p.1/\∃ x,elems[i]?=some x/\φ x.1 p.2:=by
  intro i hi;have:=hel i hi;rw[Vv (by omega),VA]at this;obtain⟨cs,hc,hx⟩:=this;obtain⟨as,ha,hφ⟩:=he _ _ _ hx;exact⟨(cs,as),hc,ha,_,Vv (by omega),hφ⟩
 obtain⟨l,hll,hQ⟩:=ya len hrow;have hzr:∀ i (h:i<(l.map Prod.snd).length),(l.map Prod.snd)[i].length=P.cellsOf e:=by
  intro i h;simp only[VD]at h;simp only[VF];obtain⟨hc,hr,_⟩:=hQ i h;rw[<- hr.1];exact(World.cells?_some hc).2.1
 have hzc:∀ i (h:i<(l.map Prod.fst).length),(l.map Prod.fst)[i].length=P.cellsOf e:=by
  intro i h;simp only[VD]at h;simp only[VF];exact(World.cells?_some (hQ i h).1).2.1
 refine⟨[.vec (l.map Prod.snd).length (l.map Prod.snd).flatten],.one ?_,.inr ⟨_,_,l.map Prod.snd,rfl,rfl,⟨by simp [hll,hlen],fun i h h'=>?_⟩,hzr,by simp only[VD];omega⟩⟩
 ·rcases Yf len with h0|h0
  ·subst h0;obtain rfl:=VK hll;exact .vec0 _ _
  have hrc:gR P W (l.map Prod.snd).flatten (l.map Prod.fst).flatten:=x7 (by simp) fun i h h'=>by
   simp only[VD]at h;simp only[VF];exact(hQ i h).2.1
  have hla:(l.map Prod.snd).length=len:=by simp [hll]
  have hsp:∀ i,i<len->∀ j,j<P.cellsOf e->∃ v,W.cell? ((a.add (i*P.cellsOf e)).add j)=some v/\(l.map Prod.fst).flatten[i*P.cellsOf e+j]?=some v:=by
   intro i hi j hj;obtain⟨hc,_⟩:=hQ i (by omega);obtain⟨_,hcl,hcell⟩:=World.cells?_some hc;refine⟨(l[i]'(by omega)).1[j]'(by omega),?_,?_⟩
   ·rw[hcell j hj,Vv]
   ·rw[Iy hzc i j (by simp;omega) hj];simp only[VF];rw[Vv]
  have hspot:a.spot=none:=by
   obtain⟨v,hv,_⟩:=hsp 0 h0 0 hz;unfold World.cell? at hv;split at hv
   ·split at hv
    ·cases hv
    ·rename_i hs;simpa [Addr.add] using hs
   ·cases hv
  obtain⟨b,off,spot⟩:=a;simp only at hspot;subst hspot;have hadd:∀ (b off n:Nat),(⟨b,off,none⟩:Addr).add n=⟨b,off+n,none⟩:=by
   intro b off n;unfold Addr.add;by_cases hn:n=0
   ·subst hn;simp
   ·simp [hn]
  have hlt:b<W.heap.size:=by
   obtain⟨v,hv,_⟩:=hsp 0 h0 0 hz;rw[hadd,hadd]at hv;unfold World.cell? at hv;rcases VR b W.heap.size with h|h
   ·exact h
   ·rw[WL h]at hv;cases hv
  rw[hla];refine .vec (xA b) hlt hl hrc.1 (fun i hi=>?_) fun i h h'=>hrc.2 i h h';have hlc:=Ix hzc;simp only[VD,hll]at hlc;have hi':i<len*P.cellsOf e:=by omega
  obtain⟨v,hv,hg⟩:=hsp (i / P.cellsOf e) (Nat.div_lt_of_lt_mul (by rw[Xl];exact hi')) (i % P.cellsOf e) (X8 _ hz);have hdm:i / P.cellsOf e*P.cellsOf e+i % P.cellsOf e=i:=by rw[Xl];exact XA _ _
  rw[hdm]at hg;rw[Vv hi]at hg;rw[Option.some.inj hg,<- hv,hadd,hadd];congr 2;omega
 ·simp only[VD]at h h';obtain⟨_,_,y,hy,hφ⟩:=hQ i h;simp only[VF];rw[Vv h']at hy;rw[Option.some.inj hy];exact hφ
theorem Iz {α:Type}{z:Nat}:∀ {n:Nat} {cs:List α},cs.length=n*z->((List.range n).map fun i=>(cs.drop (i*z)).take z).flatten=cs:=by
 intro n
 induction n with
 | zero=>intro cs h;simp at h;subst h;rfl
 | succ n ih =>
  intro cs h;have h1:(cs.take (n*z)).length=n*z:=by rw[VC,h,Xy];omega
  have:=ih h1;rw[WI,Wo,List.flatten_append];have e:((List.range n).map fun i=>(cs.drop (i*z)).take z)=(List.range n).map fun i=>((cs.take (n*z)).drop (i*z)).take z:=by
   refine V7 fun i hi=>?_;have hi':=VJ.1 hi;rw[List.drop_take,X0];congr 1;have:i*z+z<=n*z:=(by rw[<- Xy];exact V3 _ hi');omega
  rw[e,this];simp only[List.map_cons,List.map_nil,List.flatten_cons,List.flatten_nil,List.append_nil];rw[Vz (l:=cs.drop (n*z)) (by simp [h,Xy])];exact V4 _ _
theorem IA {t e:TypeId}{n:Nat}{φ:DataW H->List AVal->Prop}(ht:P.underlying t=some (.array n e))(hz:P.cellsOf t=n*P.cellsOf e)(he:eW enc P W spare held e φ):
  eW enc P W spare held t fun d as=>∃ ds rows,d=.agg ds/\as=rows.flatten/\tW φ ds rows/\rows.length=n/\∀ i (h:i<rows.length),rows[i].length=P.cellsOf e:=by
 intro fuel cs x h;obtain⟨xs,m,rfl,rfl,hcl,hxl,hel⟩:=DataW.trod_array ht h;have hrow:∀ i,i<n->∃ as:List AVal,gR P W as ((cs.drop (i*P.cellsOf e)).take (P.cellsOf e))/\∃ x,xs[i]?=some x/\φ x.1 as:=by
  intro i hi;have:=hel i hi;rw[Vv (by omega)]at this;obtain⟨as,ha,hφ⟩:=he _ _ _ this;exact⟨as,ha,_,Vv (by omega),hφ⟩
 obtain⟨l,hll,hQ⟩:=ya n hrow;refine⟨l.flatten,?_,_,l,rfl,rfl,⟨by simp [hxl,hll],fun i h h'=>?_⟩,hll,fun i h=>?_⟩
 ·rw[<- Iz (n:=n) (hcl.trans hz)];refine x7 (by simp [hll]) fun i h h'=>?_;simp only[VF,List.getElem_range];exact(hQ i h).1
 ·obtain⟨_,y,hy,hφ⟩:=hQ i h;simp only[VD]at h';simp only[VF];rw[Vv h']at hy;rw[Option.some.inj hy];exact hφ
 ·obtain⟨hr,_⟩:=hQ i h;rw[<- hr.1,VC,Wg,hcl,hz];have:i*P.cellsOf e+P.cellsOf e<=n*P.cellsOf e:=by rw[<- Xy];exact V3 _ (by omega)
  omega
theorem rX {t:TypeId}{fs:Array Field}{φ:Nat->DataW H->List AVal->Prop}(ht:P.underlying t=some (.struct fs))
  (hlay:∀ cs:List Value,cs.length=P.cellsOf t->(fs.toList.map fun f=>(cs.drop f.offset).take (P.cellsOf f.type)).flatten=cs)
  (he:∀ i (h:i<fs.size),eW enc P W spare held fs[i].type (φ i)):
  eW enc P W spare held t fun d as=>∃ (ds:List (DataW H)) (rows:List (List AVal)),d=.agg ds/\as=rows.flatten/\ds.length=fs.size/\rows.length=fs.size/\∀ i (h:i<rows.length) (h':i<ds.length),φ i ds[i] rows[i]:=by
 intro fuel cs x h;obtain⟨xs,m,rfl,rfl,hcl,hxl,hel⟩:=DataW.trod_struct ht h;have hrow:∀ i,i<fs.size->∃ as:List AVal,(∀ h:i<fs.size,gR P W as ((cs.drop fs[i].offset).take (P.cellsOf fs[i].type)))/\∃ x,xs[i]?=some x/\φ i x.1 as:=by
  intro i hi;have:=hel i fs[i] (VE hi);rw[Vv (by omega)]at this;obtain⟨as,ha,hφ⟩:=he i hi _ _ _ this;exact⟨as,fun _=>ha,_,Vv (by omega),hφ⟩
 obtain⟨l,hll,hQ⟩:=ya fs.size hrow;refine⟨l.flatten,?_,_,l,rfl,rfl,by simp [hxl],hll,fun i h h'=>?_⟩
 ·rw[<- hlay cs hcl];refine x7 (by simp [hll]) fun i h h'=>?_;simp only[VF,WA];exact(hQ i h).1 (by omega)
 ·obtain⟨_,y,hy,hφ⟩:=hQ i h;simp only[VD]at h';simp only[VF];rw[Vv h']at hy;rw[Option.some.inj hy];exact hφ
theorem IB {name:String}{d:DataW Unit}{g:Nat}{t:TypeId}{φ:DataW Unit->List AVal->Prop}{r:List (String × DataW Unit)}{ps:List MemPlace}
  (hg:P.globalNamed name=some g) (ht:(P.globals[g]?).map (·.type)=some t) (hop:eW (fun _=>()) P W (fun _=>true) false t φ)
  (h:DataW.LaidVars P W ((name,d) :: r) ps):(∃ as,φ d as/\RelV P iV cL W (.vptr as 0) (.pointer (some ⟨g,0,none⟩))/\∃ c e f,W.heap[g]?=some (.cells c e f)/\c.size=as.length)/\∃ ps,DataW.LaidVars P W r ps:=by
 obtain⟨g',t',cs,fuel,p,q,h1,h2,h3,h4,h5,_⟩:=h;rw[hg]at h1;cases h1;rw[ht]at h2;cases h2;obtain⟨as,hr,hφ⟩:=hop _ _ _ h4;refine⟨⟨as,hφ,?_,?_⟩,_,h5⟩;rotate_left
 ·have h3':=h3;unfold World.var? at h3';rw[hg]at h3';simp only[Option.bind_some]at h3';split at h3'
  ·rename_i c e f hc;cases h3';exact⟨_,_,_,hc,by simpa using hr.1⟩
  ·cases h3'
 have hcell:=fun i=>World.var?_cell hg h3 i;have hlt:g<W.heap.size:=by
  unfold World.var? at h3;rw[hg]at h3;simp only[Option.bind_some]at h3;rcases VR g W.heap.size with h|h
  ·exact h
  ·rw[WL h]at h3;cases h3
 have:=RelV.vptr (P:=P) (Γ:=iV) (H:=cL) (w:=W) (cells:=as) (off:=0) (b:=g) (o:=0) (cs:=cs.toList) (xA g) hlt hr.1 (fun i hi=>by
  rw[Nat.zero_add,hcell i];simp only[W5]at hi;simp [VE hi]) hr.2
 simpa using this
end Go.Hx
namespace Go.Hx
variable {P:Program} {G:Nat->Option (List AVal)} {H:AHeap}
theorem MF (l:List AVal)(i:Nat):lH (.tup l) i=l[i]?:=rfl
theorem MG (cells:List AVal)(off:Nat):jY H (.vptr cells off)=some (.vptr cells off):=rfl
theorem MH (id gen off:Nat):jY H (.ptr id gen off)=(H.live id gen).map fun _=>.ptr id gen off:=by
 simp only[jY]
theorem MI (t:TypeId)(f:Nat)(id gen off:Nat):pV P H t f (.ptr id gen off)=(cf P t f).bind fun of=>(H.live id gen).map fun _=>.ptr id gen (off+of.1):=rfl
theorem MJ (t:TypeId)(f:Nat)(cells:List AVal)(off:Nat):pV P H t f (.vptr cells off)=(cf P t f).bind fun of=>some (.vptr cells (off+of.1)):=rfl
def dJ (H:AHeap)(L:List Blk)(e:TypeId)(lo hi:Nat)(v:AVal)(cs:List AVal):Prop :=
 (v=.lit (.slice none 0 0)/\cs=[])\/∃ i g,lo<=i/\i<hi/\v=.own (H.next+i) g 0 cs.length 1/\L[i]?=some (.arr g e cs)
theorem dJ.nil {L:List Blk}{e:TypeId}{lo hi:Nat}:dJ H L e lo hi (.lit (.slice none 0 0)) []:=.inl ⟨rfl,rfl⟩
theorem dJ.keep {L L':List Blk}{e:TypeId}{lo hi lo' hi':Nat}{v:AVal}{cs:List AVal}(h:dJ H L e lo hi v cs)(hl:lo'<=lo)(hh:hi<=hi')(hk:∀ i g,lo<=i->i<hi->L[i]?=some (.arr g e cs)->L'[i]?=L[i]?):
  dJ H L' e lo' hi' v cs:=by
 rcases h with h|⟨i,g,h1,h2,h3,h4⟩
 ·exact .inl h
 ·exact .inr ⟨i,g,by omega,by omega,h3,by rw[hk i g h1 h2 h4];exact h4⟩
theorem dJ.fz {S:Nat->Prop}{L:List Blk}{e:TypeId}{lo hi:Nat}{v:AVal}{cs cs':List AVal}{nx:Nat}(h:dJ H L e lo hi v cs)(hS:∀ i,S (H.next+i))(hl:cs'.length=cs.length)
  (hc:∀ i (h:i<cs.length) (h':i<cs'.length),Fz S (ext H L) nx cs[i] cs'[i]):Fz S (ext H L) nx v (.vec cs'.length cs'):=by
 rcases h with ⟨rfl,rfl⟩|⟨i,g,_,_,rfl,h4⟩
 ·obtain rfl:=VK hl;exact .nil
 ·rw[hl];have hi:i<L.length:=by
   rcases VR i L.length with h'|h'
   ·exact h'
   ·rw[VB h']at h4;cases h4
  refine .frz (hS i) (by rw[bC H L i hi];exact h4) (by omega) fun j hj h2 h'=>?_;simp only[Nat.zero_add]at h2 ⊢;exact hc j h2 h'
end Go.Hx
namespace Go.Hx
variable {P:Program} {G:Nat->Option (List AVal)} {H:AHeap}
def yA (P:Program)(s d:TypeId)(x:Bool)(y:Option TypeDesc)(v:AVal):Option AVal :=
 if x=true then (match y,v with
  | some (.int k'),.lit (.int _ a)=>some (.lit (.int k' (k'.wrap a)))
  | _,_=>kL P s d v) else kL P s d v
theorem MK (s d:TypeId)(v:AVal):kL P s d v=yA P s d (P.underlying s).isSome (P.underlying d) v:=by
 unfold yA;split
 ·rename_i hs;split
  ·rename_i k' k a hd;exact Kn hs hd
  ·rfl
 ·rfl
theorem ML (s d:TypeId)(k k':IntKind)(a:Int):yA P s d true (some (.int k')) (.lit (.int k a))=some (.lit (.int k' (k'.wrap a))):=rfl
def CC (P:Program)(d:Option TypeDesc)(cells:List AVal)(i:Int):Option AVal:=match d with
 | some (.array n e)=>if 0<=i/\i<(n:Int) then eR P e cells (i.toNat*P.cellsOf e) else none
 | _=>none
theorem MM (t:TypeId)(cells:List AVal)(k:IntKind)(i:Int):mG P t (.agg cells) (.lit (.int k i))=CC P (P.underlying t) cells i:=rfl
theorem MN (n:Nat)(e:TypeId)(cells:List AVal)(i:Int):CC P (some (.array n e)) cells i=if 0<=i/\i<(n:Int) then eR P e cells (i.toNat*P.cellsOf e) else none:=rfl
theorem ak {id g:Nat}{e:TypeId}{c:List AVal}(h:H.get id=some (.arr g e c)):H.live id g=some (e,c):=by
 unfold AHeap.live;rw[h];simp
theorem aE (a:Nat)(x:Blk):(H.upd a x).next=H.next:=rfl
theorem fN {L:List Blk}{id g:Nat}(h:id<H.next):(ext H L).live id g=H.live id g:=by
 unfold AHeap.live;rw[dV H L id h]
def od (H:AHeap)(L:List Blk)(e1 e0:TypeId)(v:AVal)(rows:List (List AVal)):Prop :=
 ∃ cs:List AVal,dJ H L e1 0 L.length v cs/\cs.length=rows.length/\∀ (j:Nat) (r:List AVal) (c:AVal),rows[j]?=some r->cs[j]?=some c->dJ H L e0 0 L.length c r
theorem od.nil {L:List Blk}{e1 e0:TypeId}:od H L e1 e0 (.lit (.slice none 0 0)) []:=⟨[],.nil,rfl,fun j r c h=>by simp at h⟩
theorem dJ.lt {L:List Blk}{e:TypeId}{lo hi i g n z:Nat}{cs:List AVal}(h:dJ H L e lo hi (.own (H.next+i) g 0 n z) cs):i<L.length/\L[i]?=some (.arr g e cs)/\n=cs.length/\z=1:=by
 rcases h with ⟨h,_⟩|⟨j,g2,_,_,h3,h4⟩
 ·cases h
 ·have:=AVal.own.inj h3;obtain rfl:i=j:=by omega
  obtain⟨_,rfl,_,rfl,rfl⟩:=this;refine⟨?_,h4,rfl,rfl⟩;rcases VR i L.length with h|h
  ·exact h
  ·rw[VB h]at h4;cases h4
theorem dJ.yB {L L':List Blk}{e e':TypeId}{lo hi lo' hi':Nat}{v u:AVal}{cs cs':List AVal}(hv:dJ H L e lo hi v cs)(hu:dJ H L e' lo' hi' u cs')(hne:e≠e')(hh:hi'<=L.length)
  (hp:∀ k,k<L.length->(∀ g n,v≠.own (H.next+k) g 0 n 1)->L'[k]?=L[k]?):dJ H L' e' lo' hi' u cs':=by
 refine hu.keep (Nat.le_refl _) (Nat.le_refl _) fun i g h1 h2 h3=>hp i (by omega) fun g' n he=>?_;rcases hv with ⟨rfl,_⟩|⟨j,g2,_,_,rfl,h4⟩
 ·cases he
 ·have hj:j=i:=by
   have:=AVal.own.inj he;omega
  subst hj;rw[h3]at h4;cases h4;exact hne rfl
theorem dJ.nT {L:List Blk}{e:TypeId}{lo hi:Nat}{v:AVal}{cs:List AVal}(hv:dJ H L e lo hi v cs):v.one=true:=by
 rcases hv with ⟨rfl,_⟩|⟨_,_,_,_,rfl,_⟩<;>rfl
theorem dJ.l8 {L:List Blk}{e:TypeId}{lo hi:Nat}{v:AVal}{cs:List AVal}(hv:dJ H L e lo hi v cs):v.cells=[v]:=by
 rcases hv with ⟨rfl,_⟩|⟨_,_,_,_,rfl,_⟩<;>rfl
theorem dJ.other {L L':List Blk}{e e':TypeId}{lo hi lo' hi':Nat}{v u:AVal}{cs cs':List AVal}(hv:dJ H L e lo hi v cs)(hu:dJ H L e' lo' hi' u cs')(hne:e≠e')(hh:hi'<=L.length)
  (hp:∀ k,k<L.length->(∀ g n,v≠.own (H.next+k) g 0 n 1)->L'[k]?=L[k]?):dJ H L' e' lo' hi' u cs':=hv.yB hu hne hh hp
theorem dJ.one {L:List Blk}{e:TypeId}{lo hi:Nat}{v:AVal}{cs:List AVal}(hv:dJ H L e lo hi v cs):v.one=true:=hv.nT
theorem dJ.cells {L:List Blk}{e:TypeId}{lo hi:Nat}{v:AVal}{cs:List AVal}(hv:dJ H L e lo hi v cs):v.cells=[v]:=hv.l8
theorem od.keep {L L':List Blk}{e1 e0:TypeId}{v:AVal}{rows:List (List AVal)}(h:od H L e1 e0 v rows)(hl:L.length<=L'.length)(hk:∀ i,i<L.length->L'[i]?=L[i]?):od H L' e1 e0 v rows:=by
 obtain⟨cs,c1,c2,c3⟩:=h;exact⟨cs,c1.keep (Nat.le_refl _) hl fun i _ _ hi _=>hk i hi,c2,fun j r c hr hc=>(c3 j r c hr hc).keep (Nat.le_refl _) hl fun i _ _ hi _=>hk i hi⟩
theorem od.fz {S:Nat->Prop}{L:List Blk}{e1 e0:TypeId}{v:AVal}{rows rows':List (List AVal)}{nx:Nat}(h:od H L e1 e0 v rows)(hS:∀ i,S (H.next+i))(hl:rows'.length=rows.length)
  (hr:∀ (j:Nat) (r r':List AVal),rows[j]?=some r->rows'[j]?=some r'->r'.length=r.length/\∀ i (h:i<r.length) (h':i<r'.length),Fz S (ext H L) nx r[i] r'[i]):
  Fz S (ext H L) nx v (.vec rows'.length (rows'.map fun r=>.vec r.length r)):=by
 obtain⟨cs,h1,h2,h3⟩:=h;have:=h1.fz (S:=S) (nx:=nx) (cs':=rows'.map fun r=>.vec r.length r) hS (by simp [h2,hl]) fun i hi hi'=>by
  simp only[VF];have hi2:i<rows.length:=by omega
  have hi3:i<rows'.length:=by omega
  obtain⟨a1,a2⟩:=hr i rows[i] rows'[i] (Vv hi2) (Vv hi3);exact(h3 i rows[i] cs[i] (Vv hi2) (Vv hi)).fz (S:=S) (nx:=nx) (cs':=rows'[i]) hS a1 a2
 rw[VD]at this;exact this
theorem p7 (H:AHeap)(L L':List Blk):ext (ext H L) L'=ext H (L++L'):=by
 unfold ext;simp only[List.length_append];congr 1
 ·funext j
  by_cases h1:H.next+L.length<=j/\j<H.next+L.length+L'.length
  ·rw[Vx h1,Vx (by omega),VQ (by omega)];congr 1;omega
  ·rw[Vw h1];by_cases h2:H.next<=j/\j<H.next+L.length
   ·rw[Vx h2,Vx (by omega),VV (by omega)]
   ·rw[Vw h2,Vw (by omega)]
 ·omega
theorem MO (t:TypeId)(id g o l z:Nat):ke P t (.own id g o l z)=if lT (P.underlying t)=true then [id] else []:=by
 unfold ke;cases h:P.underlying t with
 | none=>rfl
 | some d=>cases d<;>rfl
structure Over (H H2:AHeap):Prop where
 next:H.next<=H2.next
 old:∀ id,id<H.next->H2.get id=H.get id
theorem Over.refl (H:AHeap):Over H H:=⟨Nat.le_refl _,fun _ _=>rfl⟩
theorem Over.trans {H H2 H3:AHeap}(a:Over H H2)(b:Over H2 H3):Over H H3 :=
 ⟨We a.next b.next,fun id h=>(b.old id (VL h a.next)).trans (a.old id h)⟩
theorem Over.ext (H:AHeap)(L:List Blk):Over H (ext H L):=⟨by simp [dF],fun id h=>dV H L id h⟩
theorem CD {H H2:AHeap}(hc:Clo H)(ho:Over H H2):FzH (fun id=>H.next<=id) H2 H where
 gone id hs:=by
  cases h:H.get id with
  | none=>rfl
  | some b=>have:=hc.lt id b h;omega
 kept id b hs hb:=by
  have hlt:id<H.next:=Xo hs;rw[ho.old id hlt]at hb;have hbb:=hc.below id b hb;refine⟨hlt,b,hb,?_⟩;have hno:∀ i,i<H.next->¬ H.next<=i:=fun i h=>Nat.not_le_of_lt h;cases b with
  | rsv=>trivial
  | mp=>rfl
  | arr g e cells=>exact⟨rfl,rfl,rfl,fun i h _=>.refl (hbb i h) hno⟩
  | loop st pend n env ps asg body=>exact⟨rfl,rfl,rfl,rfl,rfl,rfl,rfl,fun t ht=>.refl (hbb t ht) hno⟩
 none id hs hb:=by
  rw[ho.old id (Xo hs)]at hb;exact hb
theorem av.bR {H2:AHeap}(hG:gE G)(hc:Clo H)(ho:Over H H2){K:ARes->AHeap->Prop}{v v':AVal}(hv:Fz (fun id=>H.next<=id) H2 H.next v v')(hk:K (.ret v') H):av P G H K v H2 :=
 ⟨v',H,.freeze hG (CD hc ho) hv,Nat.le_refl _,hk⟩
theorem Fz.old {H H2:AHeap}{nx:Nat}{v:AVal}(h:Below H.next v)(hn:H.next<=nx):Fz (fun id=>H.next<=id) H2 nx v v:=by
 induction h with
 | lit v=>exact .lit v
 | vec _ ih=>exact .vec rfl fun i h _=>ih i h
 | vptr _ ih=>exact .vptr rfl fun i h _=>ih i h
 | agg _ ih=>exact .agg rfl fun i h _=>ih i h
 | tup _ ih=>exact .tup rfl fun i h _=>ih i h
 | clo _ _ ih1 ih2=>exact .clo rfl rfl (fun i h _=>ih1 i h) fun i h _=>ih2 i h
 | own h=>exact .own (by omega) (by omega)
 | ptr h=>exact .ptr (by omega) (by omega)
 | yld h=>exact .yld (by omega) (by omega)
theorem Fz.put {S:Nat->Prop}{H:AHeap}{nx d:Nat}{ρ ρ':Env}{v v':AVal}(h:∀ t,Fz S H nx (ρ t) (ρ' t))(hv:Fz S H nx v v'):∀ t,Fz S H nx (aH ρ (some d) v t) (aH ρ' (some d) v' t):=by
 intro t;simp only[aH];split
 ·exact hv
 ·exact h t
theorem Fz.aB {S:Nat->Prop}{H:AHeap}{nx:Nat}(rows:List (List Int)):Fz S H nx (.vec rows.length (rows.map ab)) (.vec rows.length (rows.map ab)) :=
 .vec rfl fun i h _=>by simp only[VF];exact .ef _
theorem Fz.env {S:Nat->Prop}{H:AHeap}{nx:Nat}{args args':List AVal}(hl:args'.length=args.length)(h:∀ i (h:i<args.length) (h':i<args'.length),Fz S H nx args[i] args'[i]):∀ t,Fz S H nx (gQ args t) (gQ args' t):=by
 intro t;rw[yj,yj];by_cases ht:t<args.length
 ·rw[Vv ht,Vv (by omega)];exact h t ht (by omega)
 ·rw[VB (by omega),VB (by omega)];exact .lit _
end Go.Hx
namespace Go.Hx
open Go.ChangeShapes Go.WideShapes Go.RowKit
variable {P:Program} {W:World} {H:Type} {enc:TypeId × Value->H} {spare:Nat->Bool} {held:Bool}
theorem eW.mono {t:TypeId}{φ ψ:DataW H->List AVal->Prop}(h:eW enc P W spare held t φ)(hm:∀ d as,φ d as->ψ d as):eW enc P W spare held t ψ:=fun fuel cs x hx =>
 let ⟨as,h1,h2⟩:=h fuel cs x hx;⟨as,h1,hm _ _ h2⟩
def lU (k:IntKind)(l:List Int):List AVal:=l.map fun n=>.lit (.int k n)
theorem B1 {α:Type}{φ:DataW H->List AVal->Prop}{f:α->List AVal}{q:α->Prop}(hφ:∀ d as,φ d as->∃ a,as=f a/\q a):∀ {rows:List (List AVal)} {ds:List (DataW H)},tW φ ds rows ->
  ∃ l:List α,rows=l.map f/\∀ a,a∈l->q a:=by
 intro rows
 induction rows with
 | nil=>intro ds _;exact⟨[],rfl,fun a h=>by cases h⟩
 | cons r rows ih =>
  intro ds h;obtain⟨h1,h2⟩:=h;cases ds with
  | nil=>simp at h1
  | cons d ds =>
   obtain⟨a,ha,hq⟩:=hφ _ _ (h2 0 (by simp) (by simp));obtain⟨l,hl,hq2⟩:=ih (ds:=ds) ⟨by simpa using h1,fun i hi hi'=>h2 (i+1) (by simpa using hi) (by simpa using hi')⟩;refine⟨a :: l,by simp only[List.map_cons,<- hl];simp only[Wb]at ha;rw[ha],fun b hb=>?_⟩;rcases List.mem_cons.1 hb with rfl|hb
   ·exact hq
   ·exact hq2 b hb
theorem IC {α β:Type}(f:α->β)(l:List α):(l.map fun a=>[f a]).flatten=l.map f:=by
 induction l with
 | nil=>rfl
 | cons a l ih=>simp only[List.map_cons,List.flatten_cons,ih];rfl
theorem tX {t e:TypeId}{k:IntKind}(ht:P.underlying t=some (.slice e))(he:P.underlying e=some (.int k))(hc:P.cellsOf e=1):
  eW enc P W spare held t fun _ as=>∃ l:List Int,as=[.vec l.length (lU k l)]/\l.length<=maxLen/\∀ c,c∈l->(Lit.int k c).wf=true :=
 (BZ ht (by omega) (jC he)).mono fun d as h=>by
  rcases h with ⟨_,rfl⟩|⟨ds,rest,rows,_,rfl,hr,_,hl⟩
  ·exact⟨[],rfl,by decide,fun c h=>by cases h⟩
  ·obtain⟨l,rfl,hq⟩:=B1 (f:=fun n=>[AVal.lit (.int k n)]) (q:=fun n=>(Lit.int k n).wf=true) (fun d as ⟨n,_,h2,h3⟩=>⟨n,h2,h3⟩) hr;refine⟨l,?_,by simpa using hl,hq⟩;rw[VD];congr 2;exact IC _ l
theorem ID {r:Reach}{b:Nat}{t:TypeId}{v:Value}{d:DataW H}{ps:List MemPlace}{φ:DataW H->List AVal->Prop}(hop:eW enc P W spare held t φ)
  (ht:(∃ fs,P.underlying t=some (.struct fs))\/∃ n e,P.underlying t=some (.array n e)) (hval:Value.okWide P W r b t v) (hd:DataW.Trod enc P W 0 spare held t v d ps):
  ∃ as,RelV P iV cL W (.agg as) v/\φ d as:=by
 obtain⟨cs,rfl⟩:∃ cs,v=.agg cs:=by
  unfold Value.okWide at hval;rcases ht with ⟨fs,ht⟩|⟨n,e,ht⟩
  ·rw[ht]at hval;obtain⟨cs,h,_⟩:=hval;exact⟨cs,h⟩
  ·rw[ht]at hval;obtain⟨cs,h,_⟩:=hval;exact⟨cs,h⟩
 obtain⟨fuel,hf⟩:=hd;obtain⟨as,hr,hφ⟩:=hop _ _ _ hf;refine⟨as,?_,hφ⟩;have:=RelV.agg (P:=P) (Γ:=iV) (H:=cL) (w:=W) (cells:=as) (cs:=cs.toList) hr.1 hr.2;simpa using this
theorem wf_u8 {n:Int}(h:(Lit.int .u8 n).wf=true):0<=n/\n<=255:=by
 simpa [Lit.wf,IntKind.min,IntKind.max,IntKind.signed,IntKind.bits] using h
theorem IE {k:IntKind}:∀ {l:List Int} {rows:List (List AVal)},tW (fun (d:DataW H) as=>∃ n,d=.lit (.int k n)/\as=[.lit (.int k n)]/\(Lit.int k n).wf=true) (l.map fun n=>.lit (.int k n)) rows->rows.flatten=lU k l:=by
 intro l
 induction l with
 | nil =>
  intro rows h;have:=h.1;simp only[List.map_nil,List.length_nil]at this;obtain rfl:=VK this.symm;rfl
 | cons a l ih =>
  intro rows h;obtain⟨h1,h2⟩:=h;cases rows with
  | nil=>simp at h1
  | cons r rows =>
   obtain⟨n,e1,e2,_⟩:=h2 0 (by simp) (by simp);simp only[List.map_cons,Wb,DataW.lit.injEq,Lit.int.injEq,true_and]at e1 e2;subst e1;have:=ih (rows:=rows) ⟨by simpa using h1,fun i hi hi'=>h2 (i+1) (by simpa using hi) (by simpa using hi')⟩;simp only[List.flatten_cons,this,e2,lU,List.map_cons];rfl
theorem IF {name:String}{g:Nat}{t e:TypeId}{k:IntKind}{n:Nat}{l:List Int}{r:List (String × DataW Unit)}{ps:List MemPlace}
  (hg:P.globalNamed name=some g) (ht:(P.globals[g]?).map (·.type)=some t) (hu:P.underlying t=some (.array n e)) (he:P.underlying e=some (.int k)) (hz:P.cellsOf t=n*P.cellsOf e)
  (h:DataW.LaidVars P W ((name,.agg (l.map fun n=>.lit (.int k n))) :: r) ps):(RelV P iV cL W (.vptr (lU k l) 0) (.pointer (some ⟨g,0,none⟩))/\∃ c e f,W.heap[g]?=some (.cells c e f)/\c.size=(lU k l).length)/\∃ ps,DataW.LaidVars P W r ps:=by
 obtain⟨⟨as,⟨ds,rows,e1,rfl,hr,_,_⟩,hR⟩,hrest⟩:=IB hg ht (IA hu hz (jC he)) h;cases e1;rw[IE hr]at hR;exact⟨hR,hrest⟩
end Go.Hx
namespace Go.Hx
attribute [go_sem] List.replicate_one List.flatten_cons List.flatten_nil List.length_append List.append_nil Nat.sub_zero Bool.not_true Bool.not_false
attribute [go_sem] Bool.true_eq_false List.map_eq_nil_iff Ct Int.le_refl decide_true decide_false eq_self List.getElem?_map
attribute [go_sem] Jd Je Jf Jg Jh Ji Jj Jk
attribute [go_sem] Jl Jm Jn Jo Jq Jp Jr Js
attribute [go_sem] Jt Ju Jv Jw IW IX IY IZ
attribute [go_sem] I3 I4 I5 I6 I7 I8 I9 Ja
attribute [go_sem] Jb Jc mL ue yh gC B6 IS
attribute [go_sem] IT JF JG Kw Ks Kt Ku Kv
attribute [go_sem] List.getElem?_toArray Option.bind_some Kx Ky Kz KA KB KC
attribute [go_sem] KD KE KG KH KI KJ KK KL
attribute [go_sem] KM KN KO KP KR KS KT KU
attribute [go_sem] KV KW KX KY KZ Lu yu Lv
attribute [go_sem] Lw Lx Cx Ly Lz LA LB LC
attribute [go_sem] LD LF LG LH LI LJ LK List.set_cons_zero
attribute [go_sem] List.set_cons_succ LL LM LN LO LP LQ LR
attribute [go_sem] LS LU LV LW LX LY LZ L2
attribute [go_sem] L3 L4 L5 L6 L7 L8 L9
attribute [go_sem] sk yx Ma Mb Mc Md Me
attribute [go_sem] Mf Mg Mh Mi Mj Mk Mm Mn
attribute [go_sem] Mo Mp Mq Mr Ms Mt Mu Mv
attribute [go_sem] Mw Mx My Mz MA MB MC MD
attribute [go_sem] ME eZ aR aa Int.toNat_natCast Int.natCast_nonneg ab List.all_cons
attribute [go_sem] List.all_nil Bool.and_true Nat.mul_one K0 K2 K3 K4 K5
attribute [go_sem] K6 K7 K8 K9 La Lb
attribute [go_sem] Ld Le Lg Lf
attribute [go_sem] Lh Li Lj Lk List.take_succ_cons List.take_zero
attribute [go_sem] List.take_nil List.drop_succ_cons List.drop_zero List.drop_nil List.forall_mem_cons List.not_mem_nil List.mem_cons List.mem_singleton
attribute [go_sem] or_false false_or or_true true_or not_or false_implies implies_true forall_const
attribute [go_sem] JJ JK JL JM JN JO JP JQ
attribute [go_sem] JR JS JT JU JV JW JX JY
attribute [go_sem] JZ J0 J4 J5 J6 Bool.false_eq_true J7 J8
attribute [go_sem] J9 Ka Kc Kd Ke Kf
attribute [go_sem] Kg Kh builtin_len builtin_append builtin_copy builtin_min builtin_max B9
attribute [go_sem] Ca Cb Ki Kj Cc Cd Ce Cf
attribute [go_sem] Cg Ch Kk dF ug Ci Ko Ck
attribute [go_sem] Kq Cj Kr Kp List.map_cons List.map_nil if_true if_false
attribute [go_sem] ne_eq not_false_eq_true not_true_eq_false true_and and_true false_and and_false List.length_cons
attribute [go_sem] List.length_nil Nat.zero_add Nat.add_zero Option.isSome_some List.append_assoc List.cons_append List.nil_append Option.map_some
attribute [go_sem] Option.map_none eH yj List.getElem?_cons_zero List.getElem?_cons_succ List.getElem?_nil Option.getD_some Option.getD_none
attribute [go_sem] Jx Jy Jz JA JB JC JD JE
attribute [go_sem] MF MG MH Int.natCast_zero Int.cast_ofNat_Int MM MN MO
attribute [go_sem] Kl Km MK ML MI MJ aN Nat.le_refl
end Go.Hx
namespace Go.Hx
variable {P:Program} {G:Nat->Option (List AVal)} {H H':AHeap}
def AHeap.cut (H:AHeap)(n:Nat):AHeap:=⟨fun j=>if j<n then H.get j else none,H.next⟩
theorem qc {n id:Nat}(h:id<n):(H.cut n).get id=H.get id:=by simp [AHeap.cut,h]
theorem MP {n id:Nat}(h:n<=id):(H.cut n).get id=none:=by simp [AHeap.cut,Nat.not_lt.2 h]
theorem Over.cut {B:AHeap}(h:Over B H):Over B (H.cut B.next):=⟨h.next,fun id hi=>(qc hi).trans (h.old id hi)⟩
open Classical in
theorem Fz.dead {S:Nat->Prop}{H:AHeap}{nx:Nat}{v:AVal}(h:Below nx v):Fz S H nx v v:=by
 induction h with
 | lit v=>exact .lit v
 | vec _ ih=>exact .vec rfl fun i h _=>ih i h
 | vptr _ ih=>exact .vptr rfl fun i h _=>ih i h
 | agg _ ih=>exact .agg rfl fun i h _=>ih i h
 | tup _ ih=>exact .tup rfl fun i h _=>ih i h
 | clo _ _ ih1 ih2=>exact .clo rfl rfl (fun i h _=>ih1 i h) fun i h _=>ih2 i h
 | @own id _ _ _ _ h=>by_cases hs:S id;exact .deadOwn h hs;exact .own h hs
 | @ptr id _ _ h=>by_cases hs:S id;exact .deadPtr h hs;exact .ptr h hs
 | @yld id h=>by_cases hs:S id;exact .deadYld h hs;exact .yld h hs
theorem MQ (hc:Clo H)(n:Nat):FzH (fun id=>n<=id) H (H.cut n) where
 gone id hs:=MP hs
 kept id b hs hb:=by
  have hlt:id<n:=Xo hs;have hbb:=hc.below id b hb;refine⟨hc.lt id b hb,b,by rw[qc hlt];exact hb,?_⟩;cases b with
  | rsv=>trivial
  | mp=>rfl
  | arr g e cells=>exact⟨rfl,rfl,rfl,fun i h _=>.dead (hbb i h)⟩
  | loop st pend n env ps asg body=>exact⟨rfl,rfl,rfl,rfl,rfl,rfl,rfl,fun t ht=>.dead (hbb t ht)⟩
 none id hs hb:=by rw[qc (Xo hs)];exact hb
def aC (lo:Nat)(H:AHeap)(e:TypeId)(v:AVal)(cs:List AVal):Prop :=
 (v=.lit (.slice none 0 0)/\cs=[])\/∃ id g,lo<=id/\id<H.next/\v=.own id g 0 cs.length 1/\H.get id=some (.arr g e cs)
theorem aC.nil {lo:Nat}{e:TypeId}:aC lo H e (.lit (.slice none 0 0)) []:=.inl ⟨rfl,rfl⟩
theorem aC.keep {lo lo':Nat}{e:TypeId}{v:AVal}{cs:List AVal}(h:aC lo H e v cs)(hl:lo'<=lo)(hn:H.next<=H'.next)(hk:∀ id g,lo<=id->id<H.next->H.get id=some (.arr g e cs)->v=.own id g 0 cs.length 1->H'.get id=H.get id):aC lo' H' e v cs:=by
 rcases h with h|⟨id,g,h1,h2,h3,h4⟩
 ·exact .inl h
 ·exact .inr ⟨id,g,by omega,by omega,h3,by rw[hk id g h1 h2 h4 h3];exact h4⟩
theorem aC.over {lo:Nat}{e:TypeId}{v:AVal}{cs:List AVal}(h:aC lo H e v cs)(ho:Over H H'):aC lo H' e v cs:=h.keep (Nat.le_refl _) ho.next fun id _ _ h2 _ _=>ho.old id h2
theorem aC.one {lo:Nat}{e:TypeId}{v:AVal}{cs:List AVal}(h:aC lo H e v cs):v.one=true:=by
 rcases h with ⟨rfl,_⟩|⟨_,_,_,_,rfl,_⟩<;>rfl
theorem aC.cells {lo:Nat}{e:TypeId}{v:AVal}{cs:List AVal}(h:aC lo H e v cs):v.cells=[v]:=by
 rcases h with ⟨rfl,_⟩|⟨_,_,_,_,rfl,_⟩<;>rfl
theorem aC.fz {S:Nat->Prop}{lo nx:Nat}{e:TypeId}{v:AVal}{cs cs':List AVal}(h:aC lo H e v cs)(hS:∀ i,lo<=i->S i)(hl:cs'.length=cs.length)
  (hc:∀ i (h:i<cs.length) (h':i<cs'.length),Fz S H nx cs[i] cs'[i]):Fz S H nx v (.vec cs'.length cs'):=by
 rcases h with ⟨rfl,rfl⟩|⟨id,g,h1,_,rfl,h4⟩
 ·obtain rfl:=VK hl;exact .nil
 ·rw[hl];refine .frz (hS id h1) h4 (by omega) fun j hj h2 h'=>?_;simp only[Nat.zero_add]at h2 ⊢;exact hc j h2 h'
theorem aC.jb {S:Nat->Prop}{lo nx:Nat}{e:TypeId}{v:AVal}{l:List Int}(h:aC lo H e v (ints l))(hS:∀ i,lo<=i->S i):Fz S H nx v (ab l):=by
 have:=h.fz (S:=S) (nx:=nx) (cs':=ints l) hS rfl fun i hi _=>by simp only[ints,VF];exact .lit _
 rw[aR]at this;exact this
theorem aC.new {e:TypeId}{cs:List AVal}:aC H.next (ext H [.arr 0 e cs]) e (.own H.next 0 0 cs.length 1) cs :=
 .inr ⟨H.next,0,Nat.le_refl _,by simp [dF],rfl,by simpa using bC H [.arr 0 e cs] 0 (by simp)⟩
theorem fb {b:Blk}{id:Nat}(h:id<H.next):(ext H [b]).get id=H.get id:=dV H [b] id h
theorem cS {b:Blk}:(ext H [b]).get H.next=some b:=by simpa using bC H [b] 0 (by simp)
theorem uy {n:Nat}{b:Blk}(h:n=H.next):H.lay n b=some (ext H [b]):=by subst h;exact ug H b
theorem yC {t e:TypeId}{lo n:Nat}{v:AVal}{cs src:List AVal}{z:List AVal}(ht:P.underlying t=some (.slice e))(hz:P.cellsOf e=1)(hzero:bW P e=some z)(hx:src.all AVal.one=true)
  (hb:(cs.length+src.length)*P.bytesOf e<=2 ^ 46/\cs.length+src.length<=2 ^ 46) (ho:aC lo H e v cs) (hlo:lo<=H.next) (hn:n=H.next):
  ∃ v' H',bM P H n t t v (.vec src.length src)=some (v',H')/\aC lo H' e v' (cs++src)/\H.next<=H'.next/\(∀ k,k<H.next->(∀ g n,v≠.own k g 0 n 1)->H'.get k=H.get k):=by
 have hsrc:cR H 1 (.vec src.length src)=some (src.length,src):=by
  unfold cR;simp
 by_cases h0:src.length=0
 ·have e0:src=[]:=VK h0;subst e0;refine⟨v,H,?_,?_,Nat.le_refl _,fun _ _ _=>rfl⟩
  ·rcases ho with ⟨rfl,rfl⟩|⟨i,g,h1,h2,rfl,h4⟩
   ·unfold bM;rw[ht];simp only[hzero,hz,Option.bind_some];rw[hsrc];rfl
   ·unfold bM;rw[ht];have hl:=ak h4;simp only[hzero,hz,Option.bind_some,hsrc,hl];rw[Vx ⟨trivial,trivial,by omega,hb.1,hb.2,rfl⟩];simp
  ·rw[List.append_nil];exact ho
 rcases ho with ⟨rfl,rfl⟩|⟨i,g,h1,h2,rfl,h4⟩
 ·refine⟨.own H.next 0 0 src.length 1,ext H [.arr 0 e src],?_,.inr ⟨H.next,0,hlo,by simp [dF],by simp,by simpa using cS⟩,by simp [dF],fun k hk _=>fb hk⟩;unfold bM;rw[ht];simp only[hzero,hz,Option.bind_some,hsrc];rw[Vw h0,Vx (by simpa using hb),uy hn,hn];rfl
 ·refine⟨.own i (g+1) 0 (cs.length+src.length) 1,H.upd i (.arr (g+1) e (cs++src)),?_,.inr ⟨i,g+1,h1,h2,by simp,by rw[ag,Vx rfl]⟩,Nat.le_refl _,fun k hk hne=>?_⟩
  ·unfold bM;rw[ht];have hl:=ak h4;simp only[hzero,hz,Option.bind_some,hsrc,hl];rw[Vx ⟨trivial,trivial,by omega,hb.1,hb.2,hx⟩,Vw h0];simp
  ·rw[ag,Vw];rintro rfl;exact hne _ _ rfl
theorem jc {t e:TypeId}{lo n:Nat}{v x:AVal}{cs:List AVal}{z:List AVal}(ht:P.underlying t=some (.slice e))(hz:P.cellsOf e=1)(hzero:bW P e=some z)(hx:x.one=true)
  (hb:(cs.length+1)*P.bytesOf e<=2 ^ 46/\cs.length+1<=2 ^ 46) (ho:aC lo H e v cs) (hlo:lo<=H.next) (hn:n=H.next+1):
  ∃ v' H',bM P (ext H [.arr 0 e [x]]) n t t v (.own H.next 0 0 1 1)=some (v',H')/\aC lo H' e v' (cs++[x])/\H.next<=H'.next/\(∀ k,k<H.next->(∀ g n,v≠.own k g 0 n 1)->H'.get k=H.get k):=by
 have hsrc:cR (ext H [.arr 0 e [x]]) 1 (.own H.next 0 0 1 1)=some (1,[x]):=by
  unfold cR;have:=ak (H:=ext H [.arr 0 e [x]]) (g:=0) (cS (b:=.arr 0 e [x]));simp [this]
 have hne:(ext H [Blk.arr 0 e [x]]).next=H.next+1:=rfl;rcases ho with ⟨rfl,rfl⟩|⟨i,g,h1,h2,rfl,h4⟩
 ·refine⟨.own (H.next+1) 0 0 1 1,ext (ext H [.arr 0 e [x]]) [.arr 0 e [x]],?_,.inr ⟨H.next+1,0,by omega,by simp [dF],by simp,?_⟩,by simp [dF];omega,fun k hk _=>?_⟩
  ·unfold bM;rw[ht];simp only[hzero,hz,Option.bind_some,hsrc];rw[Vw (by decide),Vx (by simpa using hb),uy (by rw[hn,hne]),hn];rfl
  ·rw[<- hne];exact cS
  ·rw[fb (by rw[hne];omega),fb hk]
 ·have h4':(ext H [.arr 0 e [x]]).get i=some (.arr g e cs):=by rw[fb h2];exact h4
  refine⟨.own i (g+1) 0 (cs.length+1) 1,(ext H [.arr 0 e [x]]).upd i (.arr (g+1) e (cs++[x])),?_,.inr ⟨i,g+1,h1,by rw[aE,hne];omega,by simp,by rw[ag,Vx rfl]⟩,by rw[aE,hne];omega,fun k hk hne=>?_⟩
  ·unfold bM;rw[ht];have hl:=ak h4';simp only[hzero,hz,Option.bind_some,hsrc,hl];rw[Vx ⟨trivial,trivial,by omega,hb.1,hb.2,by simp [hx]⟩];simp
  ·rw[ag,Vw,fb hk];rintro rfl;exact hne _ _ rfl
def jE (lo:Nat)(H:AHeap)(e1 e0:TypeId)(v:AVal)(rows:List (List AVal)):Prop :=
 ∃ cs:List AVal,aC lo H e1 v cs/\cs.length=rows.length/\∀ (j:Nat) (r:List AVal) (c:AVal),rows[j]?=some r->cs[j]?=some c->aC lo H e0 c r
theorem jE.nil {lo:Nat}{e1 e0:TypeId}:jE lo H e1 e0 (.lit (.slice none 0 0)) []:=⟨[],.nil,rfl,fun j r c h=>by simp at h⟩
theorem jE.over {lo:Nat}{e1 e0:TypeId}{v:AVal}{rows:List (List AVal)}(h:jE lo H e1 e0 v rows)(ho:Over H H'):jE lo H' e1 e0 v rows:=by
 obtain⟨cs,c1,c2,c3⟩:=h;exact⟨cs,c1.over ho,c2,fun j r c hr hc=>(c3 j r c hr hc).over ho⟩
theorem jE.fz {S:Nat->Prop}{lo nx:Nat}{e1 e0:TypeId}{v:AVal}{rows rows':List (List AVal)}(h:jE lo H e1 e0 v rows)(hS:∀ i,lo<=i->S i)(hl:rows'.length=rows.length)
  (hr:∀ (j:Nat) (r r':List AVal),rows[j]?=some r->rows'[j]?=some r'->r'.length=r.length/\∀ i (h:i<r.length) (h':i<r'.length),Fz S H nx r[i] r'[i]):
  Fz S H nx v (.vec rows'.length (rows'.map fun r=>.vec r.length r)):=by
 obtain⟨cs,h1,h2,h3⟩:=h;have:=h1.fz (S:=S) (nx:=nx) (cs':=rows'.map fun r=>.vec r.length r) hS (by simp [h2,hl]) fun i hi hi'=>by
  simp only[VF];have hi2:i<rows.length:=by omega
  have hi3:i<rows'.length:=by omega
  obtain⟨a1,a2⟩:=hr i rows[i] rows'[i] (Vv hi2) (Vv hi3);exact(h3 i rows[i] cs[i] (Vv hi2) (Vv hi)).fz (S:=S) (nx:=nx) (cs':=rows'[i]) hS a1 a2
 rw[VD]at this;exact this
theorem aC.yB {lo lo':Nat}{e e':TypeId}{v u:AVal}{cs cs':List AVal}(hv:aC lo H e v cs)(hu:aC lo' H e' u cs')(hne:e≠e')(hn:H.next<=H'.next)
  (hp:∀ k,k<H.next->(∀ g n,v≠.own k g 0 n 1)->H'.get k=H.get k):aC lo' H' e' u cs':=by
 refine hu.keep (Nat.le_refl _) hn fun i g h1 h2 h3 _=>hp i h2 fun g' n he=>?_;rcases hv with ⟨rfl,_⟩|⟨j,g2,_,_,rfl,h4⟩
 ·cases he
 ·have:=AVal.own.inj he;obtain rfl:j=i:=this.1;rw[h3]at h4;cases h4;exact hne rfl
attribute [go_sem] Int.reduceToNat Int.reduceLE Int.reduceLT Int.reduceAdd Int.reduceSub Int.reduceMul Int.reduceEq Int.reduceNe Nat.reduceEqDiff Nat.reducePow Nat.reduceDiv Nat.reduceMod Nat.reduceAdd Nat.reduceMul Nat.reduceSub Nat.reduceLT Nat.reduceLeDiff reduceIte reduceCtorEq
end Go.Hx
