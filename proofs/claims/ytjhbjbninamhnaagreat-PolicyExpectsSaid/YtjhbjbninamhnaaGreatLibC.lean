/-
  An evaluator of code on abstract states, made for the kernel. Own work: no program stands in this text.
-/
import Derived.Test.YtjhbjbninamhnaaGreatLibB
import Derived.ProofKit
import Derived.SevenTiedAt
import Derived.RecoverIn
import Derived.MakeChecks
import Derived.OpenShut
set_option linter.all false
namespace Go.Hx
inductive BT (α:Type) where
 | nil
 | node (v:Option α) (l r:BT α)
inductive EBlk where
 | arr (gen:Nat) (elem:TypeId) (cells:List AVal)
 | loop (st:LoopState) (pend:Option Code) (n:Nat) (env:BT AVal) (ps:Array Tmp) (asg body:Code)
 | mp (es:List (Int × Int))
structure EH where
 hp:BT EBlk
 nx:Nat
inductive RR where
 | ev (x:AX) (env:BT AVal) (h:EH)
 | ret (v:AVal) (h:EH)
 | panic (h:EH)
abbrev R:=Option RR
noncomputable def ep:BT AVal->Nat->Option AVal :=
 BT.rec (motive:=fun _=>Nat->Option AVal) (fun _=>none) (fun v _ _ gl gr n =>
  Nat.rec (motive:=fun _=>Option AVal) v (fun m _=>Nat.rec (motive:=fun _=>Option AVal) (gl (Nat.div m 2)) (fun _ _=>gr (Nat.div m 2)) (Nat.mod m 2)) n)
noncomputable def aW:BT EBlk->Nat->Option EBlk :=
 BT.rec (motive:=fun _=>Nat->Option EBlk) (fun _=>none) (fun v _ _ gl gr n =>
  Nat.rec (motive:=fun _=>Option EBlk) v (fun m _=>Nat.rec (motive:=fun _=>Option EBlk) (gl (Nat.div m 2)) (fun _ _=>gr (Nat.div m 2)) (Nat.mod m 2)) n)
noncomputable def tn:Nat->Nat->AVal->(BT AVal->R)->R :=
 Nat.rec (motive:=fun _=>Nat->AVal->(BT AVal->R)->R) (fun _ _ _=>none) (fun _ ih n x k =>
  Nat.rec (motive:=fun _=>R) (k (.node (some x) .nil .nil)) (fun m _=>Nat.rec (motive:=fun _=>R) (ih (Nat.div m 2) x fun l=>k (.node none l .nil)) (fun _ _=>ih (Nat.div m 2) x fun r=>k (.node none .nil r)) (Nat.mod m 2)) n)
noncomputable def mf:BT AVal->Nat->AVal->(BT AVal->R)->R :=
 BT.rec (motive:=fun _=>Nat->AVal->(BT AVal->R)->R) (tn 20) (fun v l r sl sr n x k =>
  Nat.rec (motive:=fun _=>R) (k (.node (some x) l r)) (fun m _=>Nat.rec (motive:=fun _=>R) (sl (Nat.div m 2) x fun l=>k (.node v l r)) (fun _ _=>sr (Nat.div m 2) x fun r=>k (.node v l r)) (Nat.mod m 2)) n)
noncomputable def tp:Nat->Nat->EBlk->(BT EBlk->R)->R :=
 Nat.rec (motive:=fun _=>Nat->EBlk->(BT EBlk->R)->R) (fun _ _ _=>none) (fun _ ih n x k =>
  Nat.rec (motive:=fun _=>R) (k (.node (some x) .nil .nil)) (fun m _=>Nat.rec (motive:=fun _=>R) (ih (Nat.div m 2) x fun l=>k (.node none l .nil)) (fun _ _=>ih (Nat.div m 2) x fun r=>k (.node none .nil r)) (Nat.mod m 2)) n)
noncomputable def fU:BT EBlk->Nat->EBlk->(BT EBlk->R)->R :=
 BT.rec (motive:=fun _=>Nat->EBlk->(BT EBlk->R)->R) (tp 20) (fun v l r sl sr n x k =>
  Nat.rec (motive:=fun _=>R) (k (.node (some x) l r)) (fun m _=>Nat.rec (motive:=fun _=>R) (sl (Nat.div m 2) x fun l=>k (.node v l r)) (fun _ _=>sr (Nat.div m 2) x fun r=>k (.node v l r)) (Nat.mod m 2)) n)
noncomputable def de (n:Nat)(k:Nat->R):R:=Nat.rec (motive:=fun _=>R) (k 0) (fun m _=>k (Nat.succ m)) n
noncomputable def nk (i:Int)(k:Int->R):R:=Int.rec (motive:=fun _=>R) (fun n=>de n fun n=>k (.ofNat n)) (fun n=>de n fun n=>k (.negSucc n)) i
noncomputable def xj (b:Bool)(k:Bool->R):R:=Bool.rec (motive:=fun _=>R) (k false) (k true) b
noncomputable def fV:List AVal->(List AVal->R)->R :=
 List.rec (motive:=fun _=>(List AVal->R)->R) (fun k=>k []) (fun x _ ih k=>ih fun l=>k (x :: l))
noncomputable def tq:List (Int × Int)->(List (Int × Int)->R)->R :=
 List.rec (motive:=fun _=>(List (Int × Int)->R)->R) (fun k=>k []) (fun p _ ih k=>Prod.casesOn (motive:=fun _=>R) p fun a b=>nk a fun a=>nk b fun b=>ih fun l=>k ((a,b) :: l))
noncomputable def xk (v:Value)(k:Value->R):R:=match v with
 | .int i n=>nk n fun n=>k (.int i n)
 | .bool b=>xj b fun b=>k (.bool b)
 | v=>k v
noncomputable def xm (v:Value)(k:AVal->R):R:=xk v fun v=>k (.lit v)
noncomputable def xo (n:Nat)(cs:List AVal)(k:AVal->R):R:=de n fun n=>fV cs fun cs=>k (.vec n cs)
noncomputable def xq (a b c d e:Nat)(k:AVal->R):R:=de a fun a=>de b fun b=>de c fun c=>de d fun d=>de e fun e=>k (.own a b c d e)
noncomputable def xt (a b c:Nat)(k:AVal->R):R:=de a fun a=>de b fun b=>de c fun c=>k (.ptr a b c)
noncomputable def xu (cs:List AVal)(n:Nat)(k:AVal->R):R:=de n fun n=>fV cs fun cs=>k (.vptr cs n)
noncomputable def xw (cs:List AVal)(k:AVal->R):R:=fV cs fun cs=>k (.agg cs)
noncomputable def xx (cs:List AVal)(k:AVal->R):R:=fV cs fun cs=>k (.tup cs)
noncomputable def xy (f:FuncId)(a b:List AVal)(k:AVal->R):R:=de f fun f=>fV a fun a=>fV b fun b=>k (.clo f a b)
noncomputable def xz (n:Nat)(k:AVal->R):R:=de n fun n=>k (.yld n)
noncomputable def ki:AVal->(AVal->R)->R:=fun v=>AVal.casesOn (motive_1:=fun _=>(AVal->R)->R) v xm xo xq xt xu xw xx xy xz
noncomputable def aE (env:BT AVal):Env:=fun t=>Option.casesOn (motive:=fun _=>AVal) (ep env t) (.lit undef) fun v=>v
noncomputable def EBlk.kj:EBlk->Blk
 | .arr g e c=>.arr g e c
 | .loop st p n env ps a b=>.loop st p n (aE env) ps a b
 | .mp es=>.mp es
noncomputable def av (h:EH):AHeap:=⟨fun j=>(aW h.hp j).map EBlk.kj,h.nx⟩
noncomputable def fo (env:BT AVal)(d:Option Tmp)(v:AVal)(k:BT AVal->R):R :=
 Option.casesOn (motive:=fun _=>R) d (k env) fun d=>mf env d v k
noncomputable def xA (G:Nat->Option (List AVal))(g:Nat)(k:AVal->R):R :=
 Option.casesOn (motive:=fun _=>R) (G g) (k (.lit (.pointer (some ⟨g,0,none⟩)))) fun cells=>fV cells fun cells=>k (.vptr cells 0)
noncomputable def xB (env:BT AVal)(t:Tmp)(k:AVal->R):R:=Option.casesOn (motive:=fun _=>R) (ep env t) (k (.lit undef)) k
noncomputable def cF (G:Nat->Option (List AVal))(env:BT AVal)(x:Operand)(k:AVal->R):R :=
 Operand.casesOn (motive:=fun _=>R) x (fun t=>xB env t k) (fun v=>k (.lit v)) (fun g=>xA G g k) (fun f=>k (.clo f [] []))
noncomputable def mg (G:Nat->Option (List AVal))(env:BT AVal)(l:List Operand):(List AVal->R)->R :=
 List.rec (motive:=fun _=>(List AVal->R)->R) (fun k=>k []) (fun x _ ih k=>cF G env x fun x=>ih fun l=>k (x :: l)) l
inductive OR where
 | fail
 | val (v:AVal)
 | eff (v:AVal) (r g:Nat) (e:TypeId) (cells:List AVal) (fresh:Bool)
 | effM (v:AVal) (r:Nat) (es:List (Int × Int)) (fresh:Bool)
noncomputable def OR.opt (o:Option AVal):OR:=Option.casesOn (motive:=fun _=>OR) o .fail .val
noncomputable def qS (k:IntKind)(i:Int):Int :=
 match k with
 | .i64=>Int.casesOn (motive:=fun _=>Int) i
   (fun n=>Bool.casesOn (motive:=fun _=>Int) (Nat.ble n 9223372036854775807) (IntKind.i64.wrap (.ofNat n)) (.ofNat n))
   (fun n=>Bool.casesOn (motive:=fun _=>Int) (Nat.ble n 9223372036854775807) (IntKind.i64.wrap (.negSucc n)) (.negSucc n))
 | k=>k.wrap i
noncomputable def qT (a b:Int):Bool :=
 Int.casesOn (motive:=fun _=>Bool) a
  (fun m=>Int.casesOn (motive:=fun _=>Bool) b (fun n=>Nat.ble (Nat.succ m) n) fun _=>false)
  (fun m=>Int.casesOn (motive:=fun _=>Bool) b (fun _=>true) fun n=>Nat.ble (Nat.succ n) m)
noncomputable def qU (a b:Int):Bool :=
 Int.casesOn (motive:=fun _=>Bool) a
  (fun m=>Int.casesOn (motive:=fun _=>Bool) b (fun n=>Nat.beq m n) fun _=>false)
  (fun m=>Int.casesOn (motive:=fun _=>Bool) b (fun _=>false) fun n=>Nat.beq m n)
noncomputable def xC (P:Program)(h:EH)(t:TypeId)(a:AVal):Option AVal :=
 match a with
 | .ptr id gen off=>match aW h.hp id with
  | some (.arr g _ cells)=>Bool.casesOn (motive:=fun _=>Option AVal) (Nat.beq g gen) none (eH P t cells off)
  | _=>none
 | .vptr cells off=>eH P t cells off
 | _=>none
noncomputable def o9 (P:Program)(h:EH)(t:TypeId)(a v:AVal):OR :=
 match a with
 | .ptr id gen off=>match aW h.hp id with
  | some (.arr g e cells)=>Bool.casesOn (motive:=fun _=>OR) (Nat.beq g gen) .fail
    (if v.cells.length=P.cellsOf t/\v.cells.all AVal.one=true/\off+v.cells.length<=cells.length then .eff (.lit undef) id g e (setAt cells off v.cells) false else .fail)
  | _=>.fail
 | _=>.fail
noncomputable def qV (h:EH)(f:FP)(r:Option (AVal × AHeap)):OR :=
 match r with
 | none=>.fail
 | some (v,H')=>match f.eff with
  | []=>.val v
  | r :: _=>match H'.get r with
   | some (.arr g e c)=>.eff v r g e c (Nat.beq r h.nx)
   | some (.mp es)=>.effM v r es (Nat.beq r h.nx)
   | _=>.fail
noncomputable def xD (h:EH)(k:AVal->EH->R)(o:OR):R :=
 OR.casesOn (motive:=fun _=>R) o none (fun v=>ki v fun v=>k v h)
  (fun v r g e c fresh=>de r fun r=>de g fun g=>fV c fun c=>fU h.hp r (EBlk.arr g e c) fun hp=>ki v fun v=>k v ⟨hp,Bool.casesOn (motive:=fun _=>Nat) fresh h.nx (Nat.succ h.nx)⟩)
  (fun v r es fresh=>de r fun r=>tq es fun es=>fU h.hp r (EBlk.mp es) fun hp=>ki v fun v=>k v ⟨hp,Bool.casesOn (motive:=fun _=>Nat) fresh h.nx (Nat.succ h.nx)⟩)
structure GD where
 z:AVal
 ok:AVal->Bool
structure EP where
 P:Program
 G:Nat->Option (List AVal)
 gd:FuncId->Option GD
  /-- What is known already of a function's calls. -/
 known:FuncId->Option (List (List AVal × AVal))
  /-- What a call of a function without a body comes to. -/
 ext:FuncId->Option (List AVal->Option AVal):=fun _=>none
noncomputable def bW (f:AVal->Option (AVal × List Nat))(l:List AVal):Option (List AVal × List Nat) :=
 List.rec (motive:=fun _=>Option (List AVal × List Nat)) (some ([],[])) (fun x _ r=>match f x,r with
  | some (y,a),some (l,b)=>some (y :: l,a++b)
  | _,_=>none) l
noncomputable def ie (h:EH)(fuel:Nat):AVal->Option (AVal × List Nat) :=
 Nat.rec (motive:=fun _=>AVal->Option (AVal × List Nat)) (fun _=>none) (fun _ ih v=>match v with
  | .lit v=>some (.lit v,[])
  | .vec n c=>(bW ih c).map fun p=>(.vec n p.1,p.2)
  | .vptr c o=>(bW ih c).map fun p=>(.vptr p.1 o,p.2)
  | .agg c=>(bW ih c).map fun p=>(.agg p.1,p.2)
  | .tup c=>(bW ih c).map fun p=>(.tup p.1,p.2)
  | .clo f a b=>match bW ih a,bW ih b with
   | some p,some q=>some (.clo f p.1 q.1,p.2++q.2)
   | _,_=>none
  | .own id g o l z=>match aW h.hp id with
   | some (.arr g' _ cells)=>if g'=g/\o+l*z<=cells.length then (bW ih ((cells.drop o).take (l*z))).map fun p=>(.vec l p.1,id :: p.2) else none
   | _=>none
  | .ptr id g o=>match aW h.hp id with
   | some (.arr g' _ (x :: cells))=>if g'=g then (bW ih (x :: cells)).map fun p=>(.vptr p.1 o,id :: p.2) else none
   | _=>none
  | .yld _=>none) fuel
noncomputable def km (f:AVal->Option AVal)(l:List AVal):Option (List AVal) :=
 List.rec (motive:=fun _=>Option (List AVal)) (some []) (fun x _ r=>match f x,r with
  | some y,some l=>some (y :: l)
  | _,_=>none) l
noncomputable def nt (h:EH)(fuel:Nat):AVal->Option AVal :=
 Nat.rec (motive:=fun _=>AVal->Option AVal) (fun _=>none) (fun _ ih v=>match v with
  | .lit v=>some (.lit v)
  | .agg c=>(km ih c).map .agg
  | .tup c=>(km ih c).map .tup
  | .own id g o l z=>match aW h.hp id with
   | some (.arr g' _ cells)=>if g'=g/\o+l*z<=cells.length then (km ih ((cells.drop o).take (l*z))).map (.vec l) else none
   | _=>none
  | _=>none) fuel
noncomputable def fI (f:AVal->AVal->Bool)(a:List AVal):List AVal->Bool :=
 List.rec (motive:=fun _=>List AVal->Bool) (fun b=>match b with|[]=>true|_=>false) (fun x _ ih b=>match b with
  | []=>false
  | y :: b=>match f x y with|true=>ih b|false=>false) a
noncomputable def xE (ih:AVal->AVal->Bool)(a b:AVal):Bool:=match a,b with
 | .lit (.int k x),.lit (.int k' y)=>decide (k=k') && qU x y
 | .lit (.bool x),.lit (.bool y)=>x == y
 | .lit (.slice none 0 0),.lit (.slice none 0 0)=>true
 | .vec n c,.vec m d=>Nat.beq n m && fI ih c d
 | .vptr c n,.vptr d m=>Nat.beq n m && fI ih c d
 | .agg c,.agg d=>fI ih c d
 | .tup c,.tup d=>fI ih c d
 | .clo f a b,.clo g c d=>Nat.beq f g && (fI ih a c && fI ih b d)
 | _,_=>false
noncomputable def pa (fuel:Nat):AVal->AVal->Bool:=Nat.rec (motive:=fun _=>AVal->AVal->Bool) (fun _ _=>false) (fun _ ih=>xE ih) fuel
noncomputable def eM (l:List Nat)(n:Nat):Bool:=List.rec (motive:=fun _=>Bool) false (fun x _ ih=>Bool.rec (motive:=fun _=>Bool) ih true (Nat.beq x n)) l
noncomputable def xF (f:Nat->Bool)(l:List Nat):Bool:=List.rec (motive:=fun _=>Bool) true (fun x _ ih=>Bool.rec (motive:=fun _=>Bool) false ih (f x)) l
abbrev KF:=AVal->List Nat->Option (List Nat)
noncomputable def jG (f:KF)(l:List AVal):List Nat->Option (List Nat) :=
 List.rec (motive:=fun _=>List Nat->Option (List Nat)) (fun acc=>some acc) (fun x _ ih acc=>match f x acc with
  | some acc=>ih acc
  | none=>none) l
noncomputable def pf (h:EH)(lo:Nat)(kp:List Nat)(rc:KF)(id:Nat)(acc:List Nat):Option (List Nat) :=
 match Nat.blt id lo with
 | true=>match eM kp id with
  | true=>some acc
  | false=>none
 | false=>match eM acc id with
  | true=>some acc
  | false=>match aW h.hp id with
   | some (.arr _ _ cells)=>jG rc cells (id :: acc)
   | _=>none
noncomputable def ko (h:EH)(lo:Nat)(kp:List Nat)(fuel:Nat):KF :=
 Nat.rec (motive:=fun _=>KF) (fun _ _=>none) (fun _ ih v acc=>match v with
  | .lit _=>some acc
  | .vec 0 []=>some acc
  | .agg c=>jG ih c acc
  | .tup c=>jG ih c acc
  | .clo _ a b=>match jG ih a acc with
   | some acc=>jG ih b acc
   | none=>none
  | .own id _ _ _ _=>pf h lo kp ih id acc
  | .ptr id _ _=>pf h lo kp ih id acc
  | _=>none) fuel
abbrev CF:=AVal->List Nat->(List Nat->R)->R
noncomputable def kq (f:CF)(l:List AVal):List Nat->(List Nat->R)->R :=
 List.rec (motive:=fun _=>List Nat->(List Nat->R)->R) (fun acc k=>k acc) (fun x _ ih acc k=>f x acc fun acc=>ih acc k) l
noncomputable def tt (f:CF)(acc:List Nat)(k:List Nat->R)(b:Option EBlk):R:=match b with
 | some (.arr _ _ cells)=>kq f cells acc k
 | _=>k acc
noncomputable def xG (h:EH)(f:CF)(v:AVal)(acc:List Nat)(k:List Nat->R):R:=match v with
 | .vec _ c=>kq f c acc k
 | .vptr c _=>kq f c acc k
 | .agg c=>kq f c acc k
 | .tup c=>kq f c acc k
 | .clo _ a b=>kq f a acc fun acc=>kq f b acc k
 | .own id _ _ _ _=>tt f acc k (aW h.hp id)
 | .ptr id _ _=>tt f acc k (aW h.hp id)
 | _=>k acc
noncomputable def tu (h:EH)(fuel:Nat):CF:=Nat.rec (motive:=fun _=>CF) (fun _ acc k=>k acc) (fun _ ih v acc k=>match ko h 0 [] 40 v acc with
 | some acc=>k acc
 | none=>xG h ih v acc k) fuel
noncomputable def jH (h:EH)(kp:List Nat)(fuel:Nat):AVal->Option (AVal × List Nat) :=
 Nat.rec (motive:=fun _=>AVal->Option (AVal × List Nat)) (fun _=>none) (fun _ ih v=>match v with
  | .lit v=>some (.lit v,[])
  | .vec n c=>(bW ih c).map fun p=>(.vec n p.1,p.2)
  | .vptr c o=>(bW ih c).map fun p=>(.vptr p.1 o,p.2)
  | .agg c=>(bW ih c).map fun p=>(.agg p.1,p.2)
  | .tup c=>(bW ih c).map fun p=>(.tup p.1,p.2)
  | .clo f a b=>match bW ih a,bW ih b with
   | some p,some q=>some (.clo f p.1 q.1,p.2++q.2)
   | _,_=>none
  | .own id g o l z=>match eM kp id with
   | true=>some (.own id g o l z,[])
   | false=>match aW h.hp id with
    | some (.arr g' _ cells)=>if g'=g/\o+l*z<=cells.length then (bW ih ((cells.drop o).take (l*z))).map fun p=>(.vec l p.1,id :: p.2) else none
    | _=>none
  | .ptr id g o=>match eM kp id with
   | true=>some (.ptr id g o,[])
   | false=>match aW h.hp id with
    | some (.arr g' _ (x :: cells))=>if g'=g then (bW ih (x :: cells)).map fun p=>(.vptr p.1 o,id :: p.2) else none
    | _=>none
  | .yld _=>none) fuel
noncomputable def xH (h:EH)(l:List Nat)(k:BT EBlk->R):BT EBlk->R :=
 List.rec (motive:=fun _=>BT EBlk->R) (fun t=>k t) (fun id _ ih t=>match aW h.hp id with
  | some b=>fU t id b ih
  | none=>none) l
noncomputable def xI (a b:Value):Bool:=match a,b with
 | .int k x,.int k' y=>decide (k=k') && qU x y
 | .bool x,.bool y=>x == y
 | .slice none 0 0,.slice none 0 0=>true
 | .pointer none,.pointer none=>true
 | _,_=>false
noncomputable def xJ (ih:AVal->AVal->Bool)(a b:AVal):Bool:=match a,b with
 | .lit x,.lit y=>xI x y
 | .vec n c,.vec m d=>Nat.beq n m && fI ih c d
 | .agg c,.agg d=>fI ih c d
 | .tup c,.tup d=>fI ih c d
 | .clo f a b,.clo g c d=>Nat.beq f g && (fI ih a c && fI ih b d)
 | .own a b c d e,.own a' b' c' d' e'=>Nat.beq a a' && (Nat.beq b b' && (Nat.beq c c' && (Nat.beq d d' && Nat.beq e e')))
 | .ptr a b c,.ptr a' b' c'=>Nat.beq a a' && (Nat.beq b b' && Nat.beq c c')
 | _,_=>false
noncomputable def xK (fuel:Nat):AVal->AVal->Bool:=Nat.rec (motive:=fun _=>AVal->AVal->Bool) (fun _ _=>false) (fun _ ih=>xJ ih) fuel
noncomputable def xL (a b:Option EBlk):Bool:=match a,b with
 | some (.arr g e c),some (.arr g' e' c')=>Nat.beq g g' && (Nat.beq e e' && fI (xK 40) c c')
 | _,_=>false
noncomputable def xM (h':EH)(lv:List Nat)(t:BT EBlk)(k:BT EBlk->R)(id:Nat):R:=match eM lv id with
 | true=>match aW h'.hp id with
  | some b=>fU t id b k
  | none=>none
 | false=>fU t id (.arr 0 0 []) k
noncomputable def tv (h':EH)(lv:List Nat)(lo n:Nat):BT EBlk->(BT EBlk->R)->R :=
 Nat.rec (motive:=fun _=>BT EBlk->(BT EBlk->R)->R) (fun t k=>k t) (fun i ih t k=>de (Nat.add lo i) (xM h' lv t fun t=>ih t k)) n
noncomputable def tw (k:BT AVal->R)(l:List AVal):Nat->BT AVal->R :=
 List.rec (motive:=fun _=>Nat->BT AVal->R) (fun _ t=>k t) (fun v _ ih i t=>mf t i v fun t=>de (Nat.succ i) fun i=>ih i t) l
noncomputable def pg (h:EH):Option Nat->Bool
 | none=>true
 | some id=>match aW h.hp id with|some (.loop ..)=>true|_=>false
abbrev jI:=Option Nat->Nat->Code->BT AVal->EH->R
section step
variable (E:EP) (ih:jI)
noncomputable def tx (nx:Nat)(v:AVal)(h':EH):R:=Bool.rec (motive:=fun _=>R) none (ki v fun v=>some (.ret v h')) (Nat.ble nx h'.nx)
noncomputable def Bv (rs:List ResultVar)(nx:Nat)(r:R):R:=match r with
 | some (.ev .normal env h')=>match eh E.P (av h') (aE env) rs with
  | some vs=>tx nx (hZ vs) h'
  | none=>none
 | some (.ev .ret env h')=>match eh E.P (av h') (aE env) rs with
  | some vs=>tx nx (hZ vs) h'
  | none=>none
 | some (.ev .panic _ h')=>Bool.rec (motive:=fun _=>R) none (some (.panic h')) (Nat.ble nx h'.nx)
 | _=>none
def Bw (fn : Func) (c : Code) : Bool := fits fn.ntmps c && !(fn.name == "runtime.NumGoroutine")
noncomputable def tz (fn:Func)(c:Code)(args:List AVal)(h:EH):R :=
 Bool.rec (motive:=fun _=>R) none (Bool.rec (motive:=fun _=>R) none (tw (fun env=>Bv E fn.results.toList h.nx (ih none fn.ntmps c env h)) args 0 .nil) (Nat.ble args.length fn.ntmps)) (Bw fn c)
noncomputable def mh (f:FuncId)(args:List AVal)(h:EH):R :=
 Option.rec (motive:=fun _=>R) none (fun fn=>Option.rec (motive:=fun _=>R) none (fun c=>tz E ih fn c args h) fn.body) (E.P.funcs[f]?)
noncomputable def xO (f:FuncId)(args:List AVal):Option AVal:=match mh E ih f args ⟨.nil,0⟩ with
 | some (.ret v h')=>nt h' 40 v
 | _=>none
noncomputable def tA (args:List AVal)(l:List (List AVal × AVal)):Option AVal :=
 List.rec (motive:=fun _=>Option AVal) none (fun p _ ih=>Bool.casesOn (motive:=fun _=>Option AVal) (fI (pa 40) p.1 args) ih (some p.2)) l
noncomputable def xP (f:FuncId)(args:List AVal):Option (Option AVal):=match mh E ih f args ⟨.nil,0⟩ with
 | some (.ret v h')=>match nt h' 40 v with
  | some u=>some (some u)
  | none=>none
 | some (.panic _)=>some none
 | _=>none
noncomputable def Bx (z:GD)(h:EH)(r:Option (Option AVal)):R:=match r with
 | some (some u)=>Bool.rec (motive:=fun _=>R) none (some (.ret (.tup [u,.lit (.int .i64 0)]) h)) (z.ok u)
 | some none=>some (.ret (.tup [z.z,.lit (.int .i64 6)]) h)
 | none=>none
noncomputable def By (z:GD)(args:List AVal)(h:EH):R:=match args with
 | [.clo g [] cap]=>match bW (ie h 40) cap with
  | some p=>Bool.rec (motive:=fun _=>R) none (Bx z h (xP E ih g p.1)) (p.2.all fun r=>Nat.blt r h.nx)
  | none=>none
 | _=>none
noncomputable def tB (k:BT AVal->R):List Tmp->List AVal->BT AVal->R
 | p :: ps,v :: vs,e=>mf e p v fun e=>tB k ps vs e
 | [],[],e=>k e
 | _,_,_=>none
noncomputable def qX (id:Nat)(st:LoopState)(pend:Option Code)(b:Bool)(h2:EH):R:=match aW h2.hp id with
 | some (.loop _ _ n env ps asg body)=>fU h2.hp id (EBlk.loop st pend n env ps asg body) fun hp=>some (.ret (.lit (.bool b)) ⟨hp,h2.nx⟩)
 | _=>none
noncomputable def endRound (id:Nat)(r:R):R:=match r with
 | some (.ev .normal _ h2)=>qX id .ready none true h2
 | some (.ev .ret _ h2)=>qX id .done (some .ret) false h2
 | some (.ev (.exit i) _ h2)=>qX id .done (some (.exit i)) false h2
 | _=>none
noncomputable def Bz (id n:Nat)(body:Code)(r:R):R:=match r with
 | some (.ev .normal e h1)=>match aW h1.hp id with
  | some (.loop .ready pend n2 env2 ps2 asg2 body2)=>fU h1.hp id (EBlk.loop .busy pend n2 env2 ps2 asg2 body2) fun hp1=>endRound id (ih (some id) n body e ⟨hp1,h1.nx⟩)
  | _=>none
 | _=>none
def BA (v:Option AVal)(b n:Nat):Bool:=match v with
 | none=>true
 | some _=>Nat.blt b n
noncomputable def okB:BT AVal->Nat->Nat->Nat->Bool :=
 BT.rec (motive:=fun _=>Nat->Nat->Nat->Bool) (fun _ _ _=>true) (fun v _ _ fl fr a b n=>BA v b n && (fl (Nat.mul 2 a) (Nat.add a b) n && fr (Nat.mul 2 a) (Nat.add (Nat.mul 2 a) b) n))
noncomputable def BB (env:BT AVal)(n:Nat)(ps:Array Tmp)(asg body:Code):Bool:=okB env 1 0 n && (fits n asg && (fits n body && ps.toList.all fun p=>decide (p<n)))
noncomputable def xR (id:Nat)(args:List AVal)(h:EH):R :=
 match aW h.hp id with
 | some (.loop .ready _ n env ps asg body) =>
  Bool.rec (motive:=fun _=>R) none (tB (fun e=>Bz ih id n body (ih (some id) n asg e h)) ps.toList args env) (BB env n ps asg body)
 | _=>none
noncomputable def BC (f:FuncId)(args:List AVal)(h:EH)(l:List (List AVal × AVal)):R :=
 match bW (ie h 40) args with
 | none=>none
 | some p=>match tA p.1 l with
  | some v=>some (.ret v h)
  | none=>mh E ih f args h
noncomputable def xS (f:FuncId)(first cap args:List AVal)(h:EH):R :=
 match E.gd f with
 | none=>fV (first++args++cap) fun args=>match E.known f with
  | none=>mh E ih f args h
  | some l=>BC E ih f args h l
 | some z=>fV (first++args++cap) fun args=>By E ih z args h
noncomputable def BD (e:List AVal->Option AVal)(fc args:List AVal)(h:EH):R:=match fc with
 | []=>fV args fun args=>match e args with
  | some r=>ki r fun r=>some (.ret r h)
  | none=>none
 | _=>none
noncomputable def tC (fv:AVal)(args:List AVal)(h:EH):R :=
 match fv with
 | .clo f first cap=>match E.ext f with
  | none=>xS E ih f first cap args h
  | some e=>BD e (first++cap) args h
 | .yld id=>xR ih id args h
 | _=>none
noncomputable def BE (rd:Option Nat)(d:Option Tmp)(k:BT AVal->EH->R)(env:BT AVal)(r:R):R:=match r with
 | some (.ret v h')=>Bool.casesOn (motive:=fun _=>R) (pg h' rd) none (fo env d v fun env=>k env h')
 | some (.panic h')=>Bool.casesOn (motive:=fun _=>R) (pg h' rd) none (some (.ev .panic env h'))
 | _=>none
noncomputable def dk (d:Option Tmp)(k:BT AVal->EH->R)(env:BT AVal)(o:OR)(h:EH):R:=xD h (fun v h=>fo env d v fun env=>k env h) o
noncomputable def qY (d:Option Tmp)(k:BT AVal->EH->R)(env:BT AVal)(h:EH)(kd:IntKind)(i:Int):R:=nk i fun i=>fo env d (.lit (.int kd i)) fun env=>k env h
noncomputable def kr (d:Option Tmp)(k:BT AVal->EH->R)(env:BT AVal)(h:EH)(b:Bool):R:=xj b fun b=>fo env d (.lit (.bool b)) fun env=>k env h
abbrev bX:=EP->jI->Option Nat->Option Tmp->(BT AVal->EH->R)->BT AVal->EH->R
end step
noncomputable def mi (x:Operand):bX:=fun E _ _ d k env h=>cF E.G env x fun v=>fo env d v fun env=>k env h
noncomputable def tD (e:TypeId)(x:Operand):bX:=fun E _ _ d k env h=>cF E.G env x fun v=>dk d k env (.eff (.ptr h.nx 0 0) h.nx 0 e v.cells true) h
noncomputable def tE (t:TypeId)(parts:Array (Nat × Operand)):bX:=fun E _ _ d k env h =>
 mg E.G env (parts.toList.map (·.2)) fun vs=>dk d k env (.opt (oz E.P t ((parts.toList.map (·.1)).zip vs))) h
noncomputable def tF (t:TypeId)(len:Nat)(parts:Array (Nat × Operand)):bX:=fun E _ _ d k env h =>
 mg E.G env (parts.toList.map (·.2)) fun vs=>dk d k env (qV h ⟨[h.nx],[]⟩ (jv E.P (av h) h.nx t len ((parts.toList.map (·.1)).zip vs))) h
noncomputable def tG (t:TypeId)(a:Operand):bX:=fun E _ _ d k env h=>cF E.G env a fun a=>dk d k env (.opt (xC E.P h t a)) h
noncomputable def tH (t:TypeId)(a x:Operand):bX:=fun E _ _ d k env h =>
 Bool.rec (motive:=fun _=>R) none (cF E.G env a fun a=>cF E.G env x fun v=>dk d k env (o9 E.P h t a v) h) (E.P.underlying t).isSome
abbrev jJ:=IntKind->Int->Int->Option Tmp->(BT AVal->EH->R)->BT AVal->EH->R
noncomputable def Lk:jJ:=fun kd a b d k env h=>qY d k env h kd (qS kd (Int.add a b))
noncomputable def Ll:jJ:=fun kd a b d k env h=>qY d k env h kd (qS kd (Int.sub a b))
noncomputable def Lm:jJ:=fun kd a b d k env h=>qY d k env h kd (qS kd (Int.mul a b))
noncomputable def Ln:jJ:=fun _ a b d k env h=>kr d k env h (qT a b)
noncomputable def Lo:jJ:=fun _ a b d k env h=>kr d k env h (qT b a)
noncomputable def Lp:jJ:=fun _ a b d k env h=>kr d k env h (qT b a).not
noncomputable def Lq:jJ:=fun _ a b d k env h=>kr d k env h (qT a b).not
noncomputable def Lr:jJ:=fun _ a b d k env h=>kr d k env h (qU a b)
noncomputable def Ls:jJ:=fun _ a b d k env h=>kr d k env h (qU a b).not
noncomputable def qZ (op:BinOp):Option jJ:=match op with
 | .add=>some Lk|.sub=>some Ll|.mul=>some Lm|.lss=>some Ln|.gtr=>some Lo|.leq=>some Lp|.geq=>some Lq|.eql=>some Lr|.neq=>some Ls
 | _=>none
def nA:IntKind->Nat
 | .i8=>0|.i16=>1|.i32=>2|.i64=>3|.u8=>4|.u16=>5|.u32=>6|.u64=>7
noncomputable def tI (E:EP)(op:BinOp)(t:TypeId)(x y:Operand)(a b:AVal)(d:Option Tmp)(k:BT AVal->EH->R)(env:BT AVal)(h:EH):R:=dk d k env (.opt (bh E.P op t x y a b)) h
noncomputable def BF (E:EP)(op:BinOp)(t:TypeId)(x y:Operand)(a b:AVal)(d:Option Tmp)(k:BT AVal->EH->R)(env:BT AVal)(h:EH):R:=match iB (av h) op a b with
 | none=>tI E op t x y a b d k env h
 | some true=>Bool.rec (motive:=fun _=>R) none (kr d k env h (op == .neq)) (lf (E.P.underlying t))
 | some false=>none
noncomputable def BG (E:EP)(op:BinOp)(t:TypeId)(x y:Operand)(a b:AVal)(d:Option Tmp)(k:BT AVal->EH->R)(env:BT AVal)(h:EH):R :=
 match a,b with
 | .lit (.int kd a),.lit (.int kd' b)=>Bool.rec (motive:=fun _=>R) (tI E op t x y (.lit (.int kd a)) (.lit (.int kd' b)) d k env h) (Option.rec (motive:=fun _=>R) (tI E op t x y (.lit (.int kd a)) (.lit (.int kd' b)) d k env h) (fun f=>f kd a b d k env h) (qZ op)) (Nat.beq (nA kd) (nA kd'))
 | a,b=>BF E op t x y a b d k env h
noncomputable def tJ (op:BinOp)(t:TypeId)(x y:Operand)(_:TypeId):bX:=fun E _ _ d k env h=>cF E.G env x fun a=>cF E.G env y fun b=>BG E op t x y a b d k env h
noncomputable def tK (fn:Fn)(first cap:Array Operand):bX:=fun E _ _ d k env h =>
 match fn with
 | .func f=>mg E.G env first.toList fun a=>mg E.G env cap.toList fun b=>fo env d (.clo f a b) fun env=>k env h
 | _=>none
noncomputable def tL (t:TypeId)(x i:Operand):bX:=fun E _ _ d k env h=>cF E.G env x fun x=>cF E.G env i fun i=>dk d k env (.opt (oU E.P (av h) t x i)) h
noncomputable def nC (E:EP)(env:BT AVal)(h:EH)(o:Op):OR:=qV h (bt E.P E.G (aE env) h.nx o) (aj E.P E.G (aE env) (av h) h.nx o)
noncomputable def fJ (o:Op):bX:=fun E _ _ d k env h=>dk d k env (nC E env h o) h
noncomputable def xT (x:Operand):bX:=fun E _ _ _ _ env h=>match ak E.G (aE env) x with
 | .lit (.iface _ _)=>some (.ev .panic env h)
 | _=>none
noncomputable def xU (fv:Operand)(args:Array Operand):bX:=fun E ih rd d k env h =>
 mg E.G env args.toList fun args=>cF E.G env fv fun fv=>BE rd d k env (tC E ih fv args h)
noncomputable def ra:bX:=fun _ _ _ _ _ _ _=>none
noncomputable def re {α:Type}(_:α):bX:=ra
noncomputable def ph {α β:Type}(_:α)(_:β):bX:=ra
noncomputable def Lt {α β γ:Type}(_:α)(_:β)(_:γ):bX:=ra
noncomputable def Lu {α β γ δ:Type}(_:α)(_:β)(_:γ)(_:δ):bX:=ra
noncomputable def rf (v:AVal)(r:Nat)(fresh:Bool)(b:Option Blk):OR:=match b with
 | some (.arr g e c)=>.eff v r g e c fresh
 | _=>.fail
noncomputable def tM (r:Nat)(fresh:Bool)(o:Option (AVal × AHeap)):OR:=match o with
 | some (v,H')=>rf v r fresh (H'.get r)
 | none=>.fail
noncomputable def tO (c a b:Operand):bX:=fun E _ _ d k env h=>cF E.G env c fun c=>match c with
 | .lit (.bool t)=>Bool.rec (motive:=fun _=>R) (cF E.G env b fun v=>fo env d v fun env=>k env h) (cF E.G env a fun v=>fo env d v fun env=>k env h) t
 | _=>none
noncomputable def tP (e:TypeId):bX:=fun E _ _ d k env h=>match bE E.P e with
 | some z=>dk d k env (.eff (.ptr h.nx 0 0) h.nx 0 e z true) h
 | none=>none
noncomputable def tQ (x:Operand):bX:=fun E _ _ d k env h=>cF E.G env x fun x=>dk d k env (.opt (jy (av h) x)) h
noncomputable def tR (op:UnOp)(_:TypeId)(x:Operand):bX:=fun E _ _ d k env h=>cF E.G env x fun x=>dk d k env (.opt (qg E.P op x)) h
noncomputable def tS (s t:TypeId)(x:Operand):bX:=fun E _ _ d k env h=>cF E.G env x fun x=>dk d k env (.opt (jx E.P (av h) s t x)) h
noncomputable def Lv (t:TypeId)(x:Operand):bX:=fJ (.makeInterface t x)
noncomputable def tT (t:TypeId)(l c:Operand):bX:=fun E _ _ d k env h=>cF E.G env l fun l=>cF E.G env c fun c=>dk d k env (tM h.nx true (iV E.P (av h) h.nx t l c)) h
noncomputable def xV (G:Nat->Option (List AVal))(env:BT AVal)(x:Option Operand)(k:Option AVal->R):R:=match x with
 | none=>k none
 | some x=>cF G env x fun v=>k (some v)
noncomputable def tU (t:TypeId)(x:Operand)(l u m:Option Operand):bX:=fun E _ _ d k env h=>match m with
 | none=>cF E.G env x fun x=>xV E.G env l fun l=>xV E.G env u fun u=>dk d k env (.opt (kS E.P (av h) t x l u)) h
 | some _=>none
noncomputable def tV (t:TypeId)(x:Operand)(f:Nat):bX:=fun E _ _ d k env h=>cF E.G env x fun x=>dk d k env (.opt (oT E.P (av h) t f x)) h
noncomputable def tW (t:TypeId)(x:Operand)(f:Nat):bX:=fun E _ _ d k env h=>cF E.G env x fun x=>dk d k env (.opt (A0 E.P t f x)) h
noncomputable def tX (t:TypeId)(x i:Operand):bX:=fun E _ _ d k env h=>cF E.G env x fun x=>cF E.G env i fun i=>dk d k env (.opt (qh E.P t x i)) h
noncomputable def tY (t:Operand)(i:Nat):bX:=fun E _ _ d k env h=>cF E.G env t fun t=>dk d k env (.opt (kV t i)) h
noncomputable def tZ (t:TypeId)(x:Operand):bX:=fun E _ _ d k env h=>cF E.G env x fun x=>dk d k env (.opt (kT E.P (av h) t x)) h
noncomputable def BH (E:EP)(t u:TypeId)(s x:AVal)(d:Option Tmp)(k:BT AVal->EH->R)(env:BT AVal)(h:EH):R:=match s with
 | .own id g o l z=>match bf E.P (av h) h.nx t u s x with
  | some (.own _ g' o' l' z',H')=>Bool.rec (motive:=fun _=>R) (dk d k env (rf (.own id g' o' l' z') id false (H'.get id)) h) (dk d k env (.val (.own id g o l z)) h) (Nat.beq g' g)
  | _=>none
 | s=>match bf E.P (av h) h.nx t u s x with
  | some (.own id' g' o' l' z',H')=>dk d k env (rf (.own id' g' o' l' z') h.nx true (H'.get h.nx)) h
  | some (.lit v,_)=>dk d k env (.val (.lit v)) h
  | _=>none
noncomputable def ua (t u:TypeId)(s x:Operand):bX:=fun E _ _ d k env h=>cF E.G env s fun s=>cF E.G env x fun x=>BH E t u s x d k env h
noncomputable def pj (c:Call)(b:Builtin):bX:=match b,c.argTypes.toList,c.args.toList with
 | .len,[t],[x]=>tZ t x
 | .append,[t,u],[s,x]=>ua t u s x
 | _,_,_=>fJ (.call c)
noncomputable def BI (c:Call):bX:=match c.callee with
 | .value fv=>xU fv c.args
 | .builtin b=>pj c b
 | _=>ra
noncomputable def Lw (t:TypeId)(m a x:Operand):bX:=fJ (.insert t m a x)
noncomputable def Lx (t:TypeId)(x:Option Operand):bX:=fJ (.makeMap t x)
noncomputable def Ly (t:TypeId)(x i:Operand)(ok:Bool):bX:=fJ (.lookup t x i ok)
noncomputable def Lz (t:TypeId)(m a x:Operand):bX:=fJ (.mapUpdate t m a x)
noncomputable def LA (t:TypeId)(m a:Operand):bX:=fJ (.mapEntry t m a)
noncomputable def LB (t:TypeId)(m a x:Operand):bX:=fJ (.entryStore t m a x)
noncomputable def ub:Op->bX :=
 Op.rec (motive:=fun _=>bX) mi mi tO tP tD tE tF Lw tG tH re re tQ tJ tR tS ph Lv tK
  Lx ph tT tU tV tW tL tX Ly Lz LA LB ph ph re Lu tY BI re re xT ph Lt ph
section step
variable (E:EP) (ih:jI)
noncomputable def xW (all:Array Oper)(ρ:Env)(yes no:R)(jw:Nat × Bool):R :=
 match (all[jw.1]?).bind (·.dst) with
 | some d=>match ρ d with
  | .lit (.bool b)=>Bool.rec (motive:=fun _=>R) no yes (b == jw.2)
  | .lit _=>no
  | _=>none
 | none=>no
noncomputable def po (all:Array Oper)(ρ:Env)(g:Option (Nat × Bool))(yes no:R):R:=Option.rec (motive:=fun _=>R) yes (xW all ρ yes no) g
noncomputable def pq (rd:Option Nat)(all:Array Oper)(l:List Oper):BT AVal->EH->R :=
 List.rec (motive:=fun _=>BT AVal->EH->R) (fun env h=>some (.ev .normal env h)) (fun o _ ihr env h =>
  po all (aE env) o.guard (ub o.op E ih rd o.dst ihr env h) (fo env o.dst (.lit undef) fun env=>ihr env h)) l
def LC (bs:List Nat)(o:Oper):Nat:=(sP o).foldl (fun b j=>b ||| (2 ^ j ||| dc bs j)) 0
def mj:List Oper->List Nat->List Nat
 | [],bs=>bs
 | o :: l,bs=>mj l (bs++[LC bs o])
def rj (bs:List Nat):Nat->Nat
 | 0=>0
 | k+1=>if dc bs k=2 ^ k - 1 then rj bs k else k+1
def xX (b:Nat)(f:FP)(acc:List (Nat × FP)):Bool:=acc.all fun p=>b.testBit p.1 || (f.eff.all fun r=>!p.2.rs.contains r) && p.2.eff.all fun r=>!f.rs.contains r
noncomputable def BJ (e:List AVal->Option AVal)(fc args:List AVal)(h:EH)(k:AVal->FP->EH->R):R:=match fc with
 | []=>fV args fun args=>match e args with
  | some v=>k v ⟨[],[]⟩ h
  | none=>none
 | _=>none
noncomputable def BK (h h':EH)(kp fz:List Nat)(v:AVal)(k:AVal->FP->EH->R):R :=
 match Nat.ble h.nx h'.nx,xF (fun id=>xL (aW h.hp id) (aW h'.hp id)) kp,ko h' h.nx kp 40 v [] with
 | true,true,some lv=>tv h' lv h.nx (Nat.sub h'.nx h.nx) h.hp fun hp=>de h'.nx fun nx=>k v ⟨Ev.sH h.nx nx,kp++fz⟩ ⟨hp,nx⟩
 | _,_,_=>none
noncomputable def BL (f:FuncId)(kp fz:List Nat)(all:List AVal)(h:EH)(k:AVal->FP->EH->R)(hp:BT EBlk):R:=match mh E ih f all ⟨hp,h.nx⟩ with
 | some (.ret v h')=>BK h h' kp fz v k
 | _=>none
noncomputable def BM (f:FuncId)(all:List AVal)(h:EH)(k:AVal->FP->EH->R)(kp:List Nat):R:=match bW (jH h kp 40) all with
 | some p=>Bool.rec (motive:=fun _=>R) none (xH h kp (BL E ih f kp p.2 p.1 h k) .nil) (p.2.all fun r=>Nat.blt r h.nx)
 | none=>none
noncomputable def uc (f:FuncId)(all:List AVal)(h:EH)(k:AVal->FP->EH->R):R:=kq (tu h 40) all [] (BM E ih f all h k)
noncomputable def BN (f:FuncId)(all:List AVal)(h:EH)(k:AVal->FP->EH->R)(l:List (List AVal × AVal)):R:=match bW (ie h 40) all with
 | none=>uc E ih f all h k
 | some p=>match tA p.1 l with
  | some v=>Bool.rec (motive:=fun _=>R) none (k v ⟨[],p.2⟩ h) (p.2.all fun r=>Nat.blt r h.nx)
  | none=>uc E ih f all h k
noncomputable def BO (f:FuncId)(first cap args:List AVal)(h:EH)(k:AVal->FP->EH->R):R:=match E.gd f with
 | some _=>none
 | none=>fV (first++args++cap) fun all=>match E.known f with
  | none=>uc E ih f all h k
  | some l=>BN E ih f all h k l
noncomputable def xY (fv:AVal)(args:List AVal)(h:EH)(k:AVal->FP->EH->R):R:=match fv with
 | .clo f first cap=>match E.ext f with
  | none=>BO E ih f first cap args h k
  | some e=>BJ e (first++cap) args h k
 | _=>none
abbrev pr:=List (Nat × FP)->BT AVal->EH->R
noncomputable def ud (d:Option Tmp)(b i:Nat)(acc:List (Nat × FP))(k:pr)(env:BT AVal)(f:FP)(o:OR)(h:EH):R :=
 Bool.casesOn (motive:=fun _=>R) (xX b f acc) none (xD h (fun v h=>fo env d v fun env=>k (eU i f acc) env h) o)
noncomputable def BP (d:Option Tmp)(b i:Nat)(acc:List (Nat × FP))(k:pr)(env:BT AVal)(v:AVal)(f:FP)(h:EH):R :=
 Bool.casesOn (motive:=fun _=>R) (xX b f acc) none (ki v fun v=>fo env d v fun env=>k (eU i f acc) env h)
noncomputable def ue (o:Oper)(b i:Nat)(acc:List (Nat × FP))(k:pr)(env:BT AVal)(h:EH):R:=match o.op with
 | .call c=>match c.callee with
  | .value fv=>mg E.G env c.args.toList fun args=>cF E.G env fv fun fv=>xY E ih fv args h (BP o.dst b i acc k env)
  | _=>ud o.dst b i acc k env (bt E.P E.G (aE env) h.nx (.call c)) (nC E env h (.call c)) h
 | .panic _=>none
 | op=>ud o.dst b i acc k env (bt E.P E.G (aE env) h.nx op) (nC E env h op) h
noncomputable def uf (all:Array Oper)(tail:BT AVal->EH->R)(l:List Oper):List Nat->Nat->pr :=
 List.rec (motive:=fun _=>List Nat->Nat->pr) (fun _ _ _ env h=>tail env h) (fun o _ ihr bs i acc env h=>match bs with
  | []=>none
  | b :: bs=>po all (aE env) o.guard (ue E ih o b i acc (ihr bs (i+1)) env h) (fo env o.dst (.lit undef) fun env=>ihr bs (i+1) acc env h)) l
noncomputable def ug (rd:Option Nat)(ops:Array Oper)(bs:List Nat)(K:Nat)(env:BT AVal)(h:EH):R :=
 Bool.casesOn (motive:=fun _=>R) (qD ops (bs.take K) K) none (uf E ih ops (pq E ih rd ops (ops.toList.drop K)) (ops.toList.take K) (bs.take K) 0 [] env h)
noncomputable def rm (rd:Option Nat)(n:Nat)(b:Code)(r:R):R:=match r with
 | some (.ev .normal e h)=>ih rd n b e h
 | r=>r
noncomputable def xZ (id:Nat)(r:R):R:=match r with
 | some (.ev (.exit i) e h)=>Bool.casesOn (motive:=fun _=>R) (Nat.beq i id) (some (.ev (.exit i) e h)) (some (.ev .normal e h))
 | r=>r
noncomputable def pt (r:R):R:=match r with
 | some (.ev (.goto _) _ _)=>none
 | r=>r
noncomputable def x6 (v:AVal)(x y:R):R:=match v with
 | .lit (.bool b)=>Bool.casesOn (motive:=fun _=>R) b y x
 | _=>none
noncomputable def endLoop (env:BT AVal)(h2:EH)(pend:Option Code)(hp3:BT EBlk):R:=match pend with
 | none=>some (.ev .normal env ⟨hp3,h2.nx⟩)
 | some .ret=>some (.ev .ret env ⟨hp3,h2.nx⟩)
 | some (.exit i)=>some (.ev (.exit i) env ⟨hp3,h2.nx⟩)
 | _=>none
noncomputable def BQ (rd:Option Nat)(env:BT AVal)(id:Nat)(r:R):R:=match r with
 | some (.ret _ h2)=>Bool.casesOn (motive:=fun _=>R) (pg h2 rd) none (match aW h2.hp id with
  | some (.loop .busy ..)=>none
  | some (.loop _ pend n2 env2 ps2 asg2 body2)=>fU h2.hp id (EBlk.loop .exhausted pend n2 env2 ps2 asg2 body2) fun hp3=>endLoop env h2 pend hp3
  | _=>none)
 | some (.panic h2)=>Bool.casesOn (motive:=fun _=>R) (pg h2 rd) none (some (.ev .panic env h2))
 | _=>none
noncomputable def x7 (rd:Option Nat)(n:Nat)(env:BT AVal)(h:EH)(ps:Array Tmp)(asg body:Code)(v:AVal):R:=match v with
 | .clo g first cap=>fU h.hp h.nx (EBlk.loop .ready none n env ps asg body) fun hp1=>BQ rd env h.nx (fV (first++[.yld h.nx]++cap) fun args=>mh E ih g args ⟨hp1,Nat.succ h.nx⟩)
 | _=>none
end step
abbrev gM:=EP->jI->Option Nat->Nat->BT AVal->EH->R
noncomputable def BR:gM:=fun _ _ _ _ env h=>some (.ev .normal env h)
noncomputable def LD (_:Nat):gM:=BR
noncomputable def LF (i:Nat):gM:=fun _ _ _ _ env h=>some (.ev (.exit i) env h)
noncomputable def LG:gM:=fun _ _ _ _ env h=>some (.ev .ret env h)
noncomputable def LH (_:Nat):gM:=fun _ _ _ _ _ _=>none
noncomputable def LI (_:String):gM:=fun _ _ _ _ _ _=>none
noncomputable def LJ (_:Nat)(ops:Array Oper)(dr:Bool):gM:=fun E ih rd _ env h =>
 Bool.rec (motive:=fun _=>R) (pq E ih rd ops ops.toList env h) (ug E ih rd ops (mj ops.toList []) (rj (mj ops.toList []) ops.toList.length) env h) dr
noncomputable def LK (a b:Code):gM:=fun _ ih rd n env h=>rm ih rd n b (ih rd n a env h)
noncomputable def LL (x:Operand)(a b:Code):gM:=fun E ih rd n env h=>x6 (ak E.G (aE env) x) (ih rd n a env h) (ih rd n b env h)
noncomputable def LM (id:Nat)(b:Code):gM:=fun _ ih rd n env h=>xZ id (ih rd n b env h)
noncomputable def LN (b:Code):gM:=fun _ ih rd n env h=>pt (rm ih rd n (.loop b) (ih rd n b env h))
noncomputable def LO (b:Code):gM:=fun _ ih rd n env h=>pt (ih rd n b env h)
noncomputable def LP (f:Operand)(ps:Array Tmp)(asg body:Code):gM:=fun E ih rd n env h=>x7 E ih rd n env h ps asg body (ak E.G (aE env) f)
noncomputable def LQ:Code->gM:=fun c=>Code.casesOn (motive:=fun _=>gM) c BR LJ LK LL LM LN LP LF LO LD LH LG LI
noncomputable def BS (E:EP)(ih:jI)(rd:Option Nat)(n:Nat)(c:Code)(env:BT AVal)(h:EH):R:=LQ c E ih rd n env h
noncomputable def BU (E:EP)(fuel:Nat):jI:=Nat.rec (motive:=fun _=>jI) (fun _ _ _ _ _=>none) (fun _ ih=>BS E ih) fuel
noncomputable def BV (E:EP)(fuel:Nat)(f:FuncId)(args:List AVal):Option AVal:=xO E (BU E fuel) f args
end Go.Hx
namespace Go.Hx
variable {P:Program} {G:Nat->Option (List AVal)}
theorem ig (n:Nat)(k:Nat->R):de n k=k n:=by cases n<;>rfl
theorem ui (n:Int)(k:Int->R):nk n k=k n:=by
 cases n with
 | ofNat n=>show de n (fun n=>k (.ofNat n))=_;rw[ig]
 | negSucc n=>show de n (fun n=>k (.negSucc n))=_;rw[ig]
theorem BW (n:Bool)(k:Bool->R):xj n k=k n:=by cases n<;>rfl
theorem iF (l:List AVal):∀ (k:List AVal->R),fV l k=k l:=by
 induction l with
 | nil=>intro k;rfl
 | cons x l ih=>intro k;exact ih _
theorem LR (v:Value)(k:Value->R):xk v k=k v:=by
 unfold xk;split
 ·rw[ui]
 ·rw[BW]
 ·rfl
theorem LS (l:List (Int × Int)):∀ (k:List (Int × Int)->R),tq l k=k l:=by
 induction l with
 | nil=>intro k;rfl
 | cons p l ih =>
  intro k;obtain⟨a,b⟩:=p;show (nk a fun a=>nk b fun b=>tq l fun l=>k ((a,b) :: l))=_;rw[ui,ui,ih]
theorem px (v:AVal)(k:AVal->R):ki v k=k v:=by
 cases v with
 | lit v=>show xm v k=_;unfold xm;rw[LR]
 | vec n cs=>show xo n cs k=_;unfold xo;rw[ig,iF]
 | own a b c d e=>show xq a b c d e k=_;unfold xq;simp only[ig]
 | ptr a b c=>show xt a b c k=_;unfold xt;simp only[ig]
 | vptr cs n=>show xu cs n k=_;unfold xu;rw[ig,iF]
 | agg cs=>show xw cs k=_;unfold xw;rw[iF]
 | tup cs=>show xx cs k=_;unfold xx;rw[iF]
 | clo f a b=>show xy f a b k=_;unfold xy;simp only[ig,iF]
 | yld n=>show xz n k=_;unfold xz;rw[ig]
theorem uj (n:Nat):ep .nil n=none:=rfl
theorem LU (v:Option AVal)(l r:BT AVal):ep (.node v l r) 0=v:=rfl
theorem kv (v:Option AVal)(l r:BT AVal)(m:Nat):ep (.node v l r) (m+1)=if m % 2=0 then ep l (m / 2) else ep r (m / 2):=by
 show Nat.rec (motive:=fun _=>Option AVal) (ep l (m / 2)) (fun _ _=>ep r (m / 2)) (m % 2)=_;rcases TS m with h|h<;>rw[h]<;>rfl
theorem x8 (n:Nat):aW .nil n=none:=rfl
theorem lh (v:Option EBlk)(l r:BT EBlk)(m:Nat):aW (.node v l r) (m+1)=if m % 2=0 then aW l (m / 2) else aW r (m / 2):=by
 show Nat.rec (motive:=fun _=>Option EBlk) (aW l (m / 2)) (fun _ _=>aW r (m / 2)) (m % 2)=_;rcases TS m with h|h<;>rw[h]<;>rfl
theorem mm {m n:Nat}(h:m % 2=n % 2):m / 2=n / 2↔m=n:=by omega
theorem LV:∀ (f n:Nat) (x:AVal) (k:BT AVal->R) (r:RR),tn f n x k=some r->∃ t,k t=some r/\∀ m,ep t m=if m=n then some x else none:=by
 intro f
 induction f with
 | zero=>intro n x k r h;cases h
 | succ f ih =>
  intro n x k r h;cases n with
  | zero =>
   refine⟨_,h,fun m=>?_⟩;cases m with
   | zero=>rfl
   | succ m=>rw[kv];simp [uj]
  | succ n =>
   have h':Nat.rec (motive:=fun _=>R) (tn f (n / 2) x fun l=>k (.node none l .nil)) (fun _ _=>tn f (n / 2) x fun r=>k (.node none .nil r)) (n % 2)=some r:=h;rcases TS n with h2|h2<;>rw[h2]at h'
   ·obtain⟨t,h3,h4⟩:=ih _ _ _ _ h';refine⟨_,h3,fun m=>?_⟩;cases m with
    | zero=>rw[SO (by omega)];rfl
    | succ m =>
     rw[kv,h4,uj];split
     ·rename_i hm;simp only[TN,mm (hm.trans h2.symm)]
     ·rename_i hm;rw[SO];rintro hmn;have:m=n:=(by omega);exact hm (this ▸ h2)
   ·obtain⟨t,h3,h4⟩:=ih _ _ _ _ h';refine⟨_,h3,fun m=>?_⟩;cases m with
    | zero=>rw[SO (by omega)];rfl
    | succ m =>
     rw[kv,h4,uj];split
     ·rename_i hm;rw[SO];rintro hmn;have:m=n:=(by omega);omega
     ·rename_i hm;have hm':m % 2=n % 2:=(by omega);simp only[TN,mm hm']
theorem x9:∀ (t:BT AVal) (n:Nat) (x:AVal) (k:BT AVal->R) (r:RR),mf t n x k=some r->∃ t',k t'=some r/\∀ m,ep t' m=if m=n then some x else ep t m:=by
 intro t
 induction t with
 | nil=>intro n x k r h;exact LV 20 n x k r h
 | node v l r ihl ihr =>
  intro n x k rr h;cases n with
  | zero =>
   refine⟨_,h,fun m=>?_⟩;cases m with
   | zero=>rfl
   | succ m=>rw[kv,kv];simp
  | succ n =>
   have h':Nat.rec (motive:=fun _=>R) (mf l (n / 2) x fun l=>k (.node v l r)) (fun _ _=>mf r (n / 2) x fun r=>k (.node v l r)) (n % 2)=some rr:=h;rcases TS n with h2|h2<;>rw[h2]at h'
   ·obtain⟨t,h3,h4⟩:=ihl _ _ _ _ h';refine⟨_,h3,fun m=>?_⟩;cases m with
    | zero=>rw[SO (by omega)];rfl
    | succ m =>
     rw[kv,kv,h4];split
     ·rename_i hm;simp only[TN,mm (hm.trans h2.symm)]
     ·rename_i hm;rw[SO];rintro hmn;have:m=n:=(by omega);exact hm (this ▸ h2)
   ·obtain⟨t,h3,h4⟩:=ihr _ _ _ _ h';refine⟨_,h3,fun m=>?_⟩;cases m with
    | zero=>rw[SO (by omega)];rfl
    | succ m =>
     rw[kv,kv,h4];split
     ·rename_i hm;rw[SO];rintro hmn;have:m=n:=(by omega);omega
     ·rename_i hm;have hm':m % 2=n % 2:=(by omega);simp only[TN,mm hm']
theorem LW:∀ (f n:Nat) (x:EBlk) (k:BT EBlk->R) (r:RR),tp f n x k=some r->∃ t,k t=some r/\∀ m,aW t m=if m=n then some x else none:=by
 intro f
 induction f with
 | zero=>intro n x k r h;cases h
 | succ f ih =>
  intro n x k r h;cases n with
  | zero =>
   refine⟨_,h,fun m=>?_⟩;cases m with
   | zero=>rfl
   | succ m=>rw[lh];simp [x8]
  | succ n =>
   have h':Nat.rec (motive:=fun _=>R) (tp f (n / 2) x fun l=>k (.node none l .nil)) (fun _ _=>tp f (n / 2) x fun r=>k (.node none .nil r)) (n % 2)=some r:=h;rcases TS n with h2|h2<;>rw[h2]at h'
   ·obtain⟨t,h3,h4⟩:=ih _ _ _ _ h';refine⟨_,h3,fun m=>?_⟩;cases m with
    | zero=>rw[SO (by omega)];rfl
    | succ m =>
     rw[lh,h4,x8];split
     ·rename_i hm;simp only[TN,mm (hm.trans h2.symm)]
     ·rename_i hm;rw[SO];rintro hmn;have:m=n:=(by omega);exact hm (this ▸ h2)
   ·obtain⟨t,h3,h4⟩:=ih _ _ _ _ h';refine⟨_,h3,fun m=>?_⟩;cases m with
    | zero=>rw[SO (by omega)];rfl
    | succ m =>
     rw[lh,h4,x8];split
     ·rename_i hm;rw[SO];rintro hmn;have:m=n:=(by omega);omega
     ·rename_i hm;have hm':m % 2=n % 2:=(by omega);simp only[TN,mm hm']
theorem mn:∀ (t:BT EBlk) (n:Nat) (x:EBlk) (k:BT EBlk->R) (r:RR),fU t n x k=some r->∃ t',k t'=some r/\∀ m,aW t' m=if m=n then some x else aW t m:=by
 intro t
 induction t with
 | nil=>intro n x k r h;exact LW 20 n x k r h
 | node v l r ihl ihr =>
  intro n x k rr h;cases n with
  | zero =>
   refine⟨_,h,fun m=>?_⟩;cases m with
   | zero=>rfl
   | succ m=>rw[lh,lh];simp
  | succ n =>
   have h':Nat.rec (motive:=fun _=>R) (fU l (n / 2) x fun l=>k (.node v l r)) (fun _ _=>fU r (n / 2) x fun r=>k (.node v l r)) (n % 2)=some rr:=h;rcases TS n with h2|h2<;>rw[h2]at h'
   ·obtain⟨t,h3,h4⟩:=ihl _ _ _ _ h';refine⟨_,h3,fun m=>?_⟩;cases m with
    | zero=>rw[SO (by omega)];rfl
    | succ m =>
     rw[lh,lh,h4];split
     ·rename_i hm;simp only[TN,mm (hm.trans h2.symm)]
     ·rename_i hm;rw[SO];rintro hmn;have:m=n:=(by omega);exact hm (this ▸ h2)
   ·obtain⟨t,h3,h4⟩:=ihr _ _ _ _ h';refine⟨_,h3,fun m=>?_⟩;cases m with
    | zero=>rw[SO (by omega)];rfl
    | succ m =>
     rw[lh,lh,h4];split
     ·rename_i hm;rw[SO];rintro hmn;have:m=n:=(by omega);omega
     ·rename_i hm;have hm':m % 2=n % 2:=(by omega);simp only[TN,mm hm']
theorem uk (env:BT AVal)(t:Tmp):aE env t=(ep env t).getD (.lit undef):=by
 unfold aE;cases ep env t<;>rfl
theorem BX {env env':BT AVal}{d:Nat}{v:AVal}(h:∀ m,ep env' m=if m=d then some v else ep env m):aE env'=aI (aE env) (some d) v:=by
 funext t
 simp only[uk,h,aI];split<;>rfl
theorem lj {env:BT AVal}{d:Option Tmp}{v:AVal}{k:BT AVal->R}{r:RR}(h:fo env d v k=some r):∃ env',k env'=some r/\aE env'=aI (aE env) d v:=by
 cases d with
 | none=>exact⟨env,h,rfl⟩
 | some d =>
  obtain⟨t,h1,h2⟩:=x9 _ _ _ _ _ h;exact⟨t,h1,BX h2⟩
theorem cQ (env:BT AVal)(x:Operand)(k:AVal->R):cF G env x k=k (ak G (aE env) x):=by
 cases x with
 | tmp t =>
  show xB env t k=_;unfold xB;simp only[ak,uk];cases ep env t<;>rfl
 | const v=>rfl
 | global g =>
  show xA G g k=_;unfold xA;simp only[ak];cases G g with
  | none=>rfl
  | some c=>exact iF _ _
 | func f=>rfl
theorem py (env:BT AVal)(l:List Operand):∀ (k:List AVal->R),mg G env l k=k (l.map (ak G (aE env))):=by
 induction l with
 | nil=>intro k;rfl
 | cons x l ih =>
  intro k;show cF G env x (fun x=>mg G env l fun l=>k (x :: l))=_;rw[cQ,ih];rfl
theorem BY (env:BT AVal)(x:Option Operand)(k:Option AVal->R):xV G env x k=k (x.map (ak G (aE env))):=by
 cases x with
 | none=>rfl
 | some x=>exact cQ _ _ _
def pA (o:OR)(h:EH)(v:AVal)(H':AHeap):Prop :=
 match o with
 | .fail=>False
 | .val u=>v=u/\H'=av h
 | .eff u r g e c fr=>v=u/\H'=⟨fun j=>if j=r then some (.arr g e c) else (av h).get j,if fr then h.nx+1 else h.nx⟩
 | .effM u r es fr=>v=u/\H'=⟨fun j=>if j=r then some (.mp es) else (av h).get j,if fr then h.nx+1 else h.nx⟩
theorem um {h:EH}{hp:BT EBlk}{r nx:Nat}{b:EBlk}(hs:∀ m,aW hp m=if m=r then some b else aW h.hp m):av ⟨hp,nx⟩=⟨fun j=>if j=r then some b.kj else (av h).get j,nx⟩:=by
 unfold av;congr 1
 funext j
 show Option.map EBlk.kj (aW hp j)=_;rw[hs];split<;>rfl
theorem BZ {o:Option AVal}{h:EH}{v:AVal}{H':AHeap}(hr:pA (.opt o) h v H'):o=some v/\H'=av h:=by
 cases o with
 | none=>exact hr.elim
 | some u=>exact⟨by rw[hr.1],hr.2⟩
theorem ya (k:IntKind)(i:Int):qS k i=k.wrap i:=by
 unfold qS;split
 ·have hr:∀ j:Int,-9223372036854775808<=j->j<=9223372036854775807->IntKind.i64.wrap j=j:=fun j h1 h2=>SM j (by omega);cases i with
  | ofNat n =>
   show Bool.casesOn (motive:=fun _=>Int) (Nat.ble n 9223372036854775807) _ _=_;cases hb:Nat.ble n 9223372036854775807 with
   | false=>rfl
   | true =>
    have:=Up hb;exact(hr (Int.ofNat n) (by simp only[U0];omega) (by simp only[U0];omega)).symm
  | negSucc n =>
   show Bool.casesOn (motive:=fun _=>Int) (Nat.ble n 9223372036854775807) _ _=_;cases hb:Nat.ble n 9223372036854775807 with
   | false=>rfl
   | true =>
    have:=Up hb;exact(hr (Int.negSucc n) (by omega) (by omega)).symm
 ·rfl
theorem uq (a b:Int):qT a b=decide (a<b):=by
 cases a with
 | ofNat m=>cases b with
  | ofNat n =>
   show Nat.ble (m+1) n=_;rw[Uk,Nat.ble_eq,Un];simp;omega
  | negSucc n =>
   show false=_
   symm
   rw[UB];simp only[U0];omega
 | negSucc m=>cases b with
  | ofNat n =>
   show true=_
   symm
   rw[Un];simp only[U0];omega
  | negSucc n =>
   show Nat.ble (n+1) m=_;rw[Uk,Nat.ble_eq,Un];omega
theorem ur (a b:Int):qU a b=decide (a=b):=by
 cases a with
 | ofNat m=>cases b with
  | ofNat n =>
   show Nat.beq m n=_;rw[Uk,Un];constructor
   ·intro h;rw[Tc h]
   ·intro h;rw[Int.ofNat.inj h];exact UI n
  | negSucc n =>
   show false=_
   symm
   rw[UB];intro h;cases h
 | negSucc m=>cases b with
  | ofNat n =>
   show false=_
   symm
   rw[UB];intro h;cases h
  | negSucc n =>
   show Nat.beq m n=_;rw[Uk,Un];constructor
   ·intro h;rw[Tc h]
   ·intro h;rw[Int.negSucc.inj h];exact UI n
theorem yb {d:Option Tmp}{k:BT AVal->EH->R}{env:BT AVal}{h:EH}{kd:IntKind}{i:Int}{r:RR}(hr:qY d k env h kd i=some r):∃ env',aE env'=aI (aE env) d (.lit (.int kd i))/\k env' h=some r:=by
 unfold qY at hr;rw[ui]at hr;obtain⟨env',h1,h2⟩:=lj hr;exact⟨env',h2,h1⟩
theorem nD {d:Option Tmp}{k:BT AVal->EH->R}{env:BT AVal}{h:EH}{b:Bool}{r:RR}(hr:kr d k env h b=some r):∃ env',aE env'=aI (aE env) d (.lit (.bool b))/\k env' h=some r:=by
 unfold kr at hr;rw[BW]at hr;obtain⟨env',h1,h2⟩:=lj hr;exact⟨env',h2,h1⟩
theorem B0 (a b:Int):(decide (b<a)).not=decide (a<=b):=by
 rw[Uk];simp
theorem LX {op:BinOp}{t:TypeId}{x y:Operand}{f:jJ}(hf:qZ op=some f){kd:IntKind}{a b:Int}{d:Option Tmp}{k:BT AVal->EH->R}{env:BT AVal}{h:EH}{r:RR}
  (hr:f kd a b d k env h=some r):
  ∃ v env',bh P op t x y (.lit (.int kd a)) (.lit (.int kd b))=some v/\aE env'=aI (aE env) d v/\k env' h=some r:=by
 unfold qZ at hf;split at hf
 ·cases hf;obtain⟨env',h1,h2⟩:=yb hr;exact⟨_,env',A1,by rw[h1,ya];rfl,h2⟩
 ·cases hf;obtain⟨env',h1,h2⟩:=yb hr;exact⟨_,env',A2,by rw[h1,ya];rfl,h2⟩
 ·cases hf;obtain⟨env',h1,h2⟩:=yb hr;exact⟨_,env',A3,by rw[h1,ya];rfl,h2⟩
 ·cases hf;obtain⟨env',h1,h2⟩:=nD hr;exact⟨_,env',A4,by rw[h1,uq],h2⟩
 ·cases hf;obtain⟨env',h1,h2⟩:=nD hr;exact⟨_,env',A6,by rw[h1,uq],h2⟩
 ·cases hf;obtain⟨env',h1,h2⟩:=nD hr;exact⟨_,env',A5,by rw[h1,uq,B0],h2⟩
 ·cases hf;obtain⟨env',h1,h2⟩:=nD hr;exact⟨_,env',A7,by rw[h1,uq,B0],h2⟩
 ·cases hf;obtain⟨env',h1,h2⟩:=nD hr;exact⟨_,env',A8,by rw[h1,ur],h2⟩
 ·cases hf;obtain⟨env',h1,h2⟩:=nD hr;exact⟨_,env',A9,by rw[h1,ur],h2⟩
 ·cases hf
theorem LY {a b:IntKind}(h:Nat.beq (nA a) (nA b)=true):a=b:=by
 have:=Tc h;cases a<;>cases b<;>first|rfl|simp [nA]at this
theorem LZ {h:EH}{t:TypeId}{a v:AVal}(hr:xC P h t a=some v):eS P (av h) t a=some v:=by
 unfold xC at hr;split at hr
 ·rename_i id gen off;split at hr
  ·rename_i g e cells hg;show (match (av h).get id with|some (.arr g _ cells)=>if g=gen then eH P t cells off else none|_=>none)=some v;have:(av h).get id=some (.arr g e cells):=(by show Option.map EBlk.kj (aW h.hp id)=_;rw[hg];rfl);rw[this];cases hb:Nat.beq g gen with
   | false=>rw[hb]at hr;cases hr
   | true =>
    rw[hb]at hr;simp only;rw[SQ (Tc hb)];exact hr
  ·cases hr
 ·exact hr
 ·cases hr
theorem L1 {h:EH}{t:TypeId}{a x v:AVal}{H':AHeap}(hr:pA (o9 P h t a x) h v H'):v=.lit undef/\gZ P (av h) t a x=some H':=by
 unfold o9 at hr;split at hr
 ·rename_i id gen off;split at hr
  ·rename_i g e cells hg;have hget:(av h).get id=some (.arr g e cells):=(by show Option.map EBlk.kj (aW h.hp id)=_;rw[hg];rfl);cases hb:Nat.beq g gen with
   | false=>rw[hb]at hr;exact hr.elim
   | true =>
    rw[hb]at hr;simp only at hr;split at hr
    ·rename_i hc;refine⟨hr.1,?_⟩;have hgg:=Tc hb;show (match (av h).get id with|some (.arr g e cells)=>if g=gen/\x.cells.length=P.cellsOf t/\x.cells.all AVal.one=true/\off+x.cells.length<=cells.length then some ((av h).upd id (.arr g e (setAt cells off x.cells))) else none|_=>none)=some H';rw[hget];simp only;rw[SQ ⟨hgg,hc⟩,hr.2];rfl
    ·exact hr.elim
  ·exact hr.elim
 ·exact hr.elim
def VH (h:EH):Prop:=∀ id b,aW h.hp id=some b->id<h.nx
theorem VH.wf {h:EH}(hv:VH h):eT (av h):=fun id b hb=>by
 have hb':Option.map EBlk.kj (aW h.hp id)=some b:=hb;cases hg:aW h.hp id with
 | none=>rw[hg]at hb';cases hb'
 | some x=>exact hv id x hg
def nE (o:OR)(h:EH):Prop :=
 match o with
 | .eff _ r _ _ _ fr=>if fr then r=h.nx else r<h.nx
 | .effM _ r _ fr=>if fr then r=h.nx else r<h.nx
 | _=>True
theorem B1 {h:EH}{k:AVal->EH->R}{o:OR}{r:RR}(hv:VH h)(hok:nE o h)(hr:xD h k o=some r):∃ v h',pA o h v (av h')/\VH h'/\k v h'=some r:=by
 cases o with
 | fail=>cases hr
 | val v =>
  have hr':ki v (fun v=>k v h)=some r:=hr;rw[px]at hr';exact⟨v,h,⟨rfl,rfl⟩,hv,hr'⟩
 | eff v r' g e c fr =>
  have hr':(de r' fun r'=>de g fun g=>fV c fun c=>fU h.hp r' (.arr g e c) fun hp=>ki v fun v=>k v ⟨hp,Bool.casesOn (motive:=fun _=>Nat) fr h.nx (Nat.succ h.nx)⟩)=some r:=hr;rw[ig,ig,iF]at hr';obtain⟨hp,h1,h2⟩:=mn _ _ _ _ _ hr';rw[px]at h1;refine⟨v,_,⟨rfl,?_⟩,?_,h1⟩
  ·rw[um h2];cases fr<;>rfl
  ·intro id b hb;rw[h2]at hb;cases fr with
   | false =>
    have hlt:r'<h.nx:=hok;show id<h.nx;split at hb
    ·omega
    ·exact hv id b hb
   | true =>
    have hlt:r'=h.nx:=hok;show id<h.nx+1;split at hb
    ·omega
    ·have:=hv id b hb;omega
 | effM v r' es fr =>
  have hr':(de r' fun r'=>tq es fun es=>fU h.hp r' (.mp es) fun hp=>ki v fun v=>k v ⟨hp,Bool.casesOn (motive:=fun _=>Nat) fr h.nx (Nat.succ h.nx)⟩)=some r:=hr;rw[ig,LS]at hr';obtain⟨hp,h1,h2⟩:=mn _ _ _ _ _ hr';rw[px]at h1;refine⟨v,_,⟨rfl,?_⟩,?_,h1⟩
  ·rw[um h2];cases fr<;>rfl
  ·intro id b hb;rw[h2]at hb;cases fr with
   | false =>
    have hlt:r'<h.nx:=hok;show id<h.nx;split at hb
    ·omega
    ·exact hv id b hb
   | true =>
    have hlt:r'=h.nx:=hok;show id<h.nx+1;split at hb
    ·omega
    ·have:=hv id b hb;omega
def Plain (P:Program)(G:Nat->Option (List AVal))(o:Op)(d:Option Tmp)(k:BT AVal->EH->R)(env:BT AVal)(h:EH)(r:RR):Prop :=
 ∃ v env' h',aj P G (aE env) (av h) h.nx o=some (v,av h')/\VH h'/\aE env'=aI (aE env) d v/\k env' h'=some r
theorem ja {o:Op}{d:Option Tmp}{k:BT AVal->EH->R}{env:BT AVal}{x:OR}{h:EH}{r:RR}(hv:VH h)(hok:nE x h)(hrel:∀ v H',pA x h v H'->aj P G (aE env) (av h) h.nx o=some (v,H'))
  (hr:dk d k env x h=some r):Plain P G o d k env h r:=by
 obtain⟨v,h',h1,h2,h3⟩:=B1 hv hok hr;obtain⟨env',h4,h5⟩:=lj h3;exact⟨v,env',h',hrel _ _ h1,h2,h5,h4⟩
theorem rp {o:Op}{d:Option Tmp}{k:BT AVal->EH->R}{env:BT AVal}{v:AVal}{h:EH}{r:RR}(hv:VH h)(hrel:aj P G (aE env) (av h) h.nx o=some (v,av h))
  (hr:fo env d v (fun env=>k env h)=some r):Plain P G o d k env h r:=by
 obtain⟨env',h4,h5⟩:=lj hr;exact⟨v,env',h,hrel,hv,h5,h4⟩
theorem B2 (o:Option AVal)(h:EH):nE (.opt o) h:=by cases o<;>trivial
theorem ij {o:Op}{d:Option Tmp}{k:BT AVal->EH->R}{env:BT AVal}{x:Option AVal}{h:EH}{r:RR}(hv:VH h)(hrel:aj P G (aE env) (av h) h.nx o=x.map fun v=>(v,av h))
  (hr:dk d k env (.opt x) h=some r):Plain P G o d k env h r :=
 ja hv (B2 _ _) (fun v H' hx=>by
  obtain⟨h1,h2⟩:=BZ hx;rw[hrel,h1,h2];rfl) hr
theorem B3 (ρ:Env)(id:Nat)(o:Op):(bt P G ρ id o).eff=[]\/∃ r,(bt P G ρ id o).eff=[r]:=by
 have hid:∀ v:AVal,aJ v=[]\/∃ r,aJ v=[r]:=fun v=>by cases v<;>first|exact .inl rfl|exact .inr ⟨_,rfl⟩
 have hb:∀ (b:Builtin) (ats:List TypeId) (args:List AVal),(iD P id b ats args).eff=[]\/∃ r,(iD P id b ats args).eff=[r]:=fun b ats args=>by
  unfold iD;split
  ·split
   ·exact hid _
   ·exact .inr ⟨_,rfl⟩
  ·exact hid _
  ·exact hid _
  ·exact .inl rfl
  ·exact .inl rfl
 have hidM:∀ v:AVal,dA v=[]\/∃ r,dA v=[r]:=fun v=>by cases v<;>first|exact .inl rfl|exact .inr ⟨_,rfl⟩
 unfold bt;split<;>first|exact .inl rfl|exact .inr ⟨_,rfl⟩|exact hid _|exact hidM _|skip
 split
 ·exact hb _ _ _
 ·exact .inl rfl
theorem uu {E:EP}{env:BT AVal}{h:EH}{o:Op}(hv:VH h):nE (nC E env h o) h/\∀ v H',pA (nC E env h o) h v H'->aj E.P E.G (aE env) (av h) h.nx o=some (v,H'):=by
 unfold nC qV;split
 ·exact⟨trivial,fun _ _ h=>h.elim⟩
 ·rename_i u H2 hop;obtain⟨e,al,h1,h2,h3,h4,h5,_⟩:=wT (hv.wf) hop;split
  ·rename_i hf;refine⟨trivial,fun v H' hx=>?_⟩;have he:e=none:=by
    cases e with
    | none=>rfl
    | some kb =>
     have h3':=(h3 kb.1 kb.2 rfl).1;have hf':(bt E.P E.G (aE env) (av h).next o).eff=[]:=hf;rw[hf']at h3';cases h3'
   have hal:al=false:=by
    cases al with
    | false=>rfl
    | true =>
     obtain⟨b,hb⟩:=h4 rfl;rw[he]at hb;cases hb
   obtain⟨rfl,rfl⟩:=hx;subst he;subst hal;rw[hop];congr 2;have h1':H2.get=(av h).get:=h1;have h2':H2.next=(av h).next:=h2;cases H2;simp only at h1' h2';rw[h1',h2']
  ·rename_i r l hf;split
   ·rename_i g e' c hg;have hf':(bt E.P E.G (aE env) (av h).next o).eff=r :: l:=hf;have hl:l=[]:=by
     rcases B3 (P:=E.P) (G:=E.G) (aE env) (av h).next o with h6|⟨r',h6⟩
     ·rw[hf']at h6;cases h6
     ·rw[hf']at h6;cases h6;rfl
    subst hl;have key:H2=⟨fun j=>if j=r then some (.arr g e' c) else (av h).get j,if al then (av h).next+1 else (av h).next⟩/\(if al=true then r=h.nx else r<h.nx):=by
     cases e with
     | none =>
      have hal:al=false:=by
       cases al with
       | false=>rfl
       | true=>obtain⟨b,hb⟩:=h4 rfl;cases hb
      subst hal;have h1':H2.get=(av h).get:=h1;have h2':H2.next=(av h).next:=h2;have hgr:(av h).get r=some (.arr g e' c):=(by rw[<- h1'];exact hg);refine⟨?_,hv.wf r _ hgr⟩;cases H2;simp only at h1' h2';rw[h1',h2'];congr 1
      funext j
      split
      ·rename_i hj;rw[hj,hgr]
      ·rfl
     | some kb =>
      obtain⟨kk,b⟩:=kb;obtain⟨h7,h8⟩:=h3 kk b rfl;rw[hf']at h7;have hkk:kk=r:=(by simpa using h7);subst hkk;have hb:b=.arr g e' c:=by
       rw[h1]at hg;simp only[dB,if_true]at hg;exact Option.some.inj hg
      subst hb;refine⟨?_,?_⟩
      ·cases H2;simp only at h1 h2;rw[h1,h2];rfl
      ·cases al with
       | true =>
        obtain⟨b,hb⟩:=h4 rfl;simp only[Option.some.injEq,Prod.mk.injEq]at hb;exact hb.1
       | false=>exact h5 _ (h8 rfl)
    have hbeq:Nat.beq r h.nx=al:=by
     cases al with
     | true=>rw[show r=h.nx from key.2];exact UI _
     | false =>
      have:r<h.nx:=key.2;cases hb:Nat.beq r h.nx with
      | false=>rfl
      | true=>have:=Tc hb;omega
    rw[hbeq];refine⟨?_,fun v H' hx=>?_⟩
    ·have:=key.2;cases al<;>exact this
    ·obtain⟨rfl,rfl⟩:=hx;rw[hop,key.1];rfl
   ·rename_i es hg;have hf':(bt E.P E.G (aE env) (av h).next o).eff=r :: l:=hf;have hl:l=[]:=by
     rcases B3 (P:=E.P) (G:=E.G) (aE env) (av h).next o with h6|⟨r',h6⟩
     ·rw[hf']at h6;cases h6
     ·rw[hf']at h6;cases h6;rfl
    subst hl;have key:H2=⟨fun j=>if j=r then some (.mp es) else (av h).get j,if al then (av h).next+1 else (av h).next⟩/\(if al=true then r=h.nx else r<h.nx):=by
     cases e with
     | none =>
      have hal:al=false:=by
       cases al with
       | false=>rfl
       | true=>obtain⟨b,hb⟩:=h4 rfl;cases hb
      subst hal;have h1':H2.get=(av h).get:=h1;have h2':H2.next=(av h).next:=h2;have hgr:(av h).get r=some (.mp es):=(by rw[<- h1'];exact hg);refine⟨?_,hv.wf r _ hgr⟩;cases H2;simp only at h1' h2';rw[h1',h2'];congr 1
      funext j
      split
      ·rename_i hj;rw[hj,hgr]
      ·rfl
     | some kb =>
      obtain⟨kk,b⟩:=kb;obtain⟨h7,h8⟩:=h3 kk b rfl;rw[hf']at h7;have hkk:kk=r:=(by simpa using h7);subst hkk;have hb:b=.mp es:=by
       rw[h1]at hg;simp only[dB,if_true]at hg;exact Option.some.inj hg
      subst hb;refine⟨?_,?_⟩
      ·cases H2;simp only at h1 h2;rw[h1,h2];rfl
      ·cases al with
       | true =>
        obtain⟨b,hb⟩:=h4 rfl;simp only[Option.some.injEq,Prod.mk.injEq]at hb;exact hb.1
       | false=>exact h5 _ (h8 rfl)
    have hbeq:Nat.beq r h.nx=al:=by
     cases al with
     | true=>rw[show r=h.nx from key.2];exact UI _
     | false =>
      have:r<h.nx:=key.2;cases hb:Nat.beq r h.nx with
      | false=>rfl
      | true=>have:=Tc hb;omega
    rw[hbeq];refine⟨?_,fun v H' hx=>?_⟩
    ·have:=key.2;cases al<;>exact this
    ·obtain⟨rfl,rfl⟩:=hx;rw[hop,key.1];rfl
   ·exact⟨trivial,fun _ _ h=>h.elim⟩
theorem mo {E:EP}{ih:jI}{rd:Option Nat}{o:Op}{d:Option Tmp}{k:BT AVal->EH->R}{env:BT AVal}{h:EH}{r:RR}(hv:VH h)(hr:fJ o E ih rd d k env h=some r):Plain E.P E.G o d k env h r :=
 ja hv (uu hv).1 (uu hv).2 hr
end Go.Hx
namespace Go.Hx
variable {E:EP} {ih:jI} {rd:Option Nat} {d:Option Tmp} {k:BT AVal->EH->R} {env:BT AVal} {h:EH} {r:RR}
theorem B4 {v:AVal}{g:Nat}{e:TypeId}{c:List AVal}:nE (.eff v h.nx g e c true) h:=rfl
theorem B5 (parts:Array (Nat × Operand))(f:Operand->AVal):(parts.toList.map (·.1)).zip ((parts.toList.map (·.2)).map f)=parts.toList.map fun p=>(p.1,f p.2):=by
 induction parts.toList with
 | nil=>rfl
 | cons p l ih=>simp only[List.map_cons,Uf,ih]
theorem yc {H H':AHeap}{b:Blk}(h:H.lay H.next b=some H'):H'=⟨fun j=>if j=H.next then some b else H.get j,H.next+1⟩:=by
 unfold AHeap.lay at h;rw[SQ rfl]at h;exact(Option.some.inj h).symm
theorem B6 {x:Option (AVal × AHeap)}{v:AVal}{H':AHeap}(hx:∀ u H2,x=some (u,H2)->∃ g e c,H2=⟨fun j=>if j=h.nx then some (.arr g e c) else (av h).get j,h.nx+1⟩):
  nE (tM h.nx true x) h/\(pA (tM h.nx true x) h v H'->x=some (v,H')):=by
 unfold tM;split
 ·rename_i u H2;obtain⟨g,e,c,rfl⟩:=hx u H2 rfl;simp only[rf,if_true];refine⟨rfl,fun hr=>?_⟩;obtain⟨rfl,rfl⟩:=hr;rfl
 ·exact⟨trivial,fun hr=>hr.elim⟩
theorem L3 {x:Operand}(hv:VH h)(hr:mi x E ih rd d k env h=some r):Plain E.P E.G (.move x) d k env h r:=by
 unfold mi at hr;rw[cQ]at hr;exact rp hv rfl hr
theorem L4 {x:Operand}(hv:VH h)(hr:mi x E ih rd d k env h=some r):Plain E.P E.G (.assign x) d k env h r:=by
 unfold mi at hr;rw[cQ]at hr;exact rp hv rfl hr
theorem L5 {e:TypeId}{x:Operand}(hv:VH h)(hr:tD e x E ih rd d k env h=some r):Plain E.P E.G (.box e x) d k env h r:=by
 unfold tD at hr;rw[cQ]at hr;refine ja hv B4 (fun v H' hx=>?_) hr;obtain⟨rfl,rfl⟩:=hx;show ((av h).lay (av h).next (.arr 0 e (ak E.G (aE env) x).cells)).map (fun H'=>(AVal.ptr h.nx 0 0,H'))=_;unfold AHeap.lay;rw[SQ rfl];rfl
theorem L6 {t:TypeId}{parts:Array (Nat × Operand)}(hv:VH h)(hr:tE t parts E ih rd d k env h=some r):Plain E.P E.G (.build t parts) d k env h r:=by
 unfold tE at hr;rw[py,B5]at hr;exact ij hv rfl hr
theorem L7 {t:TypeId}{len:Nat}{parts:Array (Nat × Operand)}(hv:VH h)(hr:tF t len parts E ih rd d k env h=some r):Plain E.P E.G (.buildSlice t len parts) d k env h r:=by
 unfold tF at hr;rw[py,B5]at hr;have hform:∀ u H2,jv E.P (av h) h.nx t len (parts.toList.map fun p=>(p.1,ak E.G (aE env) p.2))=some (u,H2)->∃ e c,H2=⟨fun j=>if j=h.nx then some (.arr 0 e c) else (av h).get j,h.nx+1⟩:=by
  intro u H2 hb;unfold jv at hb;split at hb
  ·split at hb
   ·simp only[SR,SL,Prod.mk.injEq]at hb;obtain⟨z,_,c,_,H3,hl,_,rfl⟩:=hb;exact⟨_,_,yc hl⟩
   ·cases hb
  ·cases hb
 refine ja hv ?_ (fun v H' hx=>?_) hr
 ·unfold qV;split
  ·trivial
  ·rename_i u H2 hb;obtain⟨e,c,rfl⟩:=hform _ _ hb;simp only[if_true,show Nat.beq h.nx h.nx=true from UI _];rfl
 ·unfold qV at hx;split at hx
  ·exact hx.elim
  ·rename_i u H2 hb;obtain⟨e,c,rfl⟩:=hform _ _ hb;simp only[if_true,show Nat.beq h.nx h.nx=true from UI _]at hx;obtain⟨rfl,rfl⟩:=hx;exact hb
theorem L8 {t:TypeId}{a:Operand}(hv:VH h)(hr:tG t a E ih rd d k env h=some r):Plain E.P E.G (.load t a) d k env h r:=by
 unfold tG at hr;rw[cQ]at hr;refine ja hv (B2 _ _) (fun v H' hx=>?_) hr;obtain⟨h1,rfl⟩:=BZ hx;show (eS E.P (av h) t (ak E.G (aE env) a)).map _=_;rw[LZ h1];rfl
theorem L9 {P:Program}{t:TypeId}{a v:AVal}(hv:VH h):nE (o9 P h t a v) h:=by
 unfold o9;split
 ·rename_i id gen off;split
  ·rename_i g e cells hg;cases hb:Nat.beq g gen with
   | false=>trivial
   | true =>
    simp only;split
    ·show id<h.nx;exact hv _ _ hg
    ·trivial
  ·trivial
 ·trivial
theorem Ma {t:TypeId}{a x:Operand}(hv:VH h)(hr:tH t a x E ih rd d k env h=some r):Plain E.P E.G (.store t a x) d k env h r:=by
 unfold tH at hr;cases hu:(E.P.underlying t).isSome with
 | false=>rw[hu]at hr;cases hr
 | true =>
  rw[hu]at hr;have hr':(cF E.G env a fun a=>cF E.G env x fun v=>dk d k env (o9 E.P h t a v) h)=some r:=hr;rw[cQ,cQ]at hr';refine ja hv ?_ (fun v H' hx=>?_) hr'
  ·exact L9 hv
  ·obtain⟨rfl,h2⟩:=L1 hx;show (if (E.P.underlying t).isSome then (gZ E.P (av h) t (ak E.G (aE env) a) (ak E.G (aE env) x)).map (fun H'=>(AVal.lit undef,H')) else none)=_;rw[SQ hu,h2];rfl
def B7 (P:Program)(G:Nat->Option (List AVal))(o:Op)(d:Option Tmp)(k:BT AVal->EH->R)(env:BT AVal)(h:EH)(r:RR):Prop :=
 ∃ op t x y u env',o=.binOp op t x y u/\iB (av h) op (ak G (aE env) x) (ak G (aE env) y)=some true/\lf (P.underlying t)=true/\aE env'=aI (aE env) d (.lit (.bool (op == .neq)))/\k env' h=some r
theorem Mb {op:BinOp}{t:TypeId}{x y:Operand}{u:TypeId}(hv:VH h)(hr:tJ op t x y u E ih rd d k env h=some r):Plain E.P E.G (.binOp op t x y u) d k env h r\/B7 E.P E.G (.binOp op t x y u) d k env h r:=by
 unfold tJ at hr;rw[cQ,cQ]at hr;have hop:aj E.P E.G (aE env) (av h) h.nx (.binOp op t x y u)=(bh E.P op t x y (ak E.G (aE env) x) (ak E.G (aE env) y)).map fun v=>(v,av h):=rfl;unfold BG at hr;split at hr
 ·rename_i kd a kd' b ha hb;rw[ha,hb]at hop;left;cases hk:Nat.beq (nA kd) (nA kd') with
  | false=>rw[hk]at hr;exact ij hv hop hr
  | true =>
   rw[hk]at hr;obtain rfl:=LY hk;have hr':Option.rec (motive:=fun _=>R) (tI E op t x y (.lit (.int kd a)) (.lit (.int kd b)) d k env h) (fun f=>f kd a b d k env h) (qZ op)=some r:=hr;cases hi:qZ op with
   | none =>
    rw[hi]at hr';exact ij hv hop hr'
   | some f =>
    rw[hi]at hr';obtain⟨v,env',h1,h2,h3⟩:=LX (P:=E.P) (t:=t) (x:=x) (y:=y) hi hr';refine⟨v,env',h,?_,hv,h2,h3⟩;rw[hop,h1];rfl
 ·unfold BF at hr;split at hr
  ·exact .inl (ij hv hop hr)
  ·rename_i hn;right;cases hs:lf (E.P.underlying t) with
   | false=>rw[hs]at hr;cases hr
   | true =>
    rw[hs]at hr;obtain⟨env',h1,h2⟩:=nD (show kr d k env h (op == .neq)=some r from hr);exact⟨op,t,x,y,u,env',rfl,hn,hs,h1,h2⟩
  ·cases hr
theorem Mc {fn:Fn}{first cap:Array Operand}(hv:VH h)(hr:tK fn first cap E ih rd d k env h=some r):Plain E.P E.G (.makeFunc fn first cap) d k env h r:=by
 unfold tK at hr;split at hr
 ·rw[py,py]at hr;exact rp hv rfl hr
 ·cases hr
theorem Md {t:TypeId}{x i:Operand}(hv:VH h)(hr:tL t x i E ih rd d k env h=some r):Plain E.P E.G (.indexAddr t x i) d k env h r:=by
 unfold tL at hr;rw[cQ,cQ]at hr;refine ij hv ?_ hr;simp only[aj,oU];split
 ·rename_i heq;rw[heq]
 ·rename_i hne;split
  ·rename_i heq;exact absurd heq (hne _ _)
  ·rfl
theorem Me {c a b:Operand}(hv:VH h)(hr:tO c a b E ih rd d k env h=some r):Plain E.P E.G (.pick c a b) d k env h r:=by
 unfold tO at hr;rw[cQ]at hr;split at hr
 ·rename_i t hc;have hop:∀ t',ak E.G (aE env) c=.lit (.bool t')->aj E.P E.G (aE env) (av h) h.nx (.pick c a b)=some (if t' then ak E.G (aE env) a else ak E.G (aE env) b,av h):=fun t' ht=>by
   simp only[aj,ht]
  cases t with
  | false =>
   have hr':(cF E.G env b fun v=>fo env d v fun env=>k env h)=some r:=hr;rw[cQ]at hr';exact rp hv (hop _ hc) hr'
  | true =>
   have hr':(cF E.G env a fun v=>fo env d v fun env=>k env h)=some r:=hr;rw[cQ]at hr';exact rp hv (hop _ hc) hr'
 ·cases hr
theorem Mf {e:TypeId}(hv:VH h)(hr:tP e E ih rd d k env h=some r):Plain E.P E.G (.alloc e) d k env h r:=by
 unfold tP at hr;split at hr
 ·rename_i z hz;refine ja hv B4 (fun v H' hx=>?_) hr;obtain⟨rfl,rfl⟩:=hx;show ((bE E.P e).bind fun z=>((av h).lay (av h).next (.arr 0 e z)).map fun H'=>(AVal.ptr h.nx 0 0,H'))=_;rw[hz];show ((av h).lay (av h).next (.arr 0 e z)).map _=_;unfold AHeap.lay;rw[SQ rfl];rfl
 ·cases hr
theorem Mg {x:Operand}(hv:VH h)(hr:tQ x E ih rd d k env h=some r):Plain E.P E.G (.nilCheck x) d k env h r:=by
 unfold tQ at hr;rw[cQ]at hr;exact ij hv rfl hr
theorem Mh {op:UnOp}{t:TypeId}{x:Operand}(hv:VH h)(hr:tR op t x E ih rd d k env h=some r):Plain E.P E.G (.unOp op t x) d k env h r:=by
 unfold tR at hr;rw[cQ]at hr;exact ij hv rfl hr
theorem Mi {s t:TypeId}{x:Operand}(hv:VH h)(hr:tS s t x E ih rd d k env h=some r):Plain E.P E.G (.convert s t x) d k env h r:=by
 unfold tS at hr;rw[cQ]at hr;exact ij hv rfl hr
theorem Mj {t:Operand}{i:Nat}(hv:VH h)(hr:tY t i E ih rd d k env h=some r):Plain E.P E.G (.extract t i) d k env h r:=by
 unfold tY at hr;rw[cQ]at hr;exact ij hv rfl hr
theorem Mk {t:TypeId}{x i:Operand}(hv:VH h)(hr:tX t x i E ih rd d k env h=some r):Plain E.P E.G (.index t x i) d k env h r:=by
 unfold tX at hr;rw[cQ,cQ]at hr;exact ij hv rfl hr
theorem Ml {t:TypeId}{x:Operand}{f:Nat}(hv:VH h)(hr:tW t x f E ih rd d k env h=some r):Plain E.P E.G (.field t x f) d k env h r:=by
 unfold tW at hr;rw[cQ]at hr;refine ij hv ?_ hr;simp only[aj,A0];cases bA E.P t f with
 | none=>rfl
 | some of =>
  simp only[Option.bind_some];generalize ak E.G (aE env) x=v;cases v with
  | lit v=>cases v<;>rfl
  | _=>rfl
theorem Mm {t:TypeId}{x:Operand}{f:Nat}(hv:VH h)(hr:tV t x f E ih rd d k env h=some r):Plain E.P E.G (.fieldAddr t x f) d k env h r:=by
 unfold tV at hr;rw[cQ]at hr;refine ij hv ?_ hr;simp only[aj,oT];cases bA E.P t f with
 | none=>rfl
 | some of =>
  simp only[Option.bind_some];generalize ak E.G (aE env) x=v;cases v with
  | ptr id gen off =>
   show Option.map _ ((av h).live id gen)=Option.map _ (Option.map _ ((av h).live id gen));rw[Option.map_map];rfl
  | _=>rfl
theorem Mn {t:TypeId}{l c:Operand}(hv:VH h)(hr:tT t l c E ih rd d k env h=some r):Plain E.P E.G (.makeSlice t l c) d k env h r:=by
 unfold tT at hr;rw[cQ,cQ]at hr;have hform:∀ u H2,iV E.P (av h) h.nx t (ak E.G (aE env) l) (ak E.G (aE env) c)=some (u,H2)->∃ g e c,H2=⟨fun j=>if j=h.nx then some (.arr g e c) else (av h).get j,h.nx+1⟩:=by
  intro u H2 hb;unfold iV at hb;split at hb
  ·split at hb
   ·simp only[SR,SL,Prod.mk.injEq]at hb;obtain⟨z,_,H3,hl,_,rfl⟩:=hb;exact⟨_,_,_,yc hl⟩
   ·cases hb
  ·cases hb
 exact ja hv (B6 (v:=.lit undef) (H':=av h) hform).1 (fun v H' hx=>(B6 hform).2 hx) hr
theorem Mo {t:TypeId}{x:Operand}{l u m:Option Operand}(hv:VH h)(hr:tU t x l u m E ih rd d k env h=some r):Plain E.P E.G (.slice t x l u m) d k env h r:=by
 unfold tU at hr;split at hr
 ·rw[cQ,BY,BY]at hr;exact ij hv rfl hr
 ·cases hr
theorem Mp {c:Call}{t:TypeId}{x:Operand}(hb:c.callee=.builtin .len)(ht:c.argTypes.toList=[t])(ha:c.args.toList=[x])(hv:VH h)(hr:tZ t x E ih rd d k env h=some r):Plain E.P E.G (.call c) d k env h r:=by
 unfold tZ at hr;rw[cQ]at hr;refine ij hv ?_ hr;simp only[aj,hb,ht,ha];rfl
theorem Mq {P:Program}{H H':AHeap}{nx:Nat}{t u:TypeId}{id g o l z:Nat}{x v:AVal}(hr:bf P H nx t u (.own id g o l z) x=some (v,H')):
  (v=.own id g o l z/\H'=H)\/∃ l' e c,v=.own id (g+1) 0 l' z/\H'=H.upd id (.arr (g+1) e c)/\∃ e0 c0,H.live id g=some (e0,c0):=by
 unfold bf at hr;split at hr
 ·split at hr
  ·simp only[SR]at hr;obtain⟨_,_,nx',_,ec,hl,hr⟩:=hr;split at hr
   ·split at hr
    ·simp only[Option.some.injEq,Prod.mk.injEq]at hr;exact .inl ⟨hr.1.symm,hr.2.symm⟩
    ·simp only[Option.some.injEq,Prod.mk.injEq]at hr;exact .inr ⟨_,_,_,hr.1.symm,hr.2.symm,ec.1,ec.2,hl⟩
   ·cases hr
  ·cases hr
 ·cases hr
theorem append_nil {P:Program}{H H':AHeap}{t u:TypeId}{s x v:AVal}(hs:∀ a b c d e,s≠.own a b c d e)(hr:bf P H H.next t u s x=some (v,H')):
  (v=.lit (.slice none 0 0)/\H'=H)\/∃ l z e c,v=.own H.next 0 0 l z/\H'=⟨fun j=>if j=H.next then some (.arr 0 e c) else H.get j,H.next+1⟩:=by
 unfold bf at hr;split at hr
 ·split at hr
  ·simp only[SR]at hr;obtain⟨_,_,nx',_,hr⟩:=hr;split at hr
   ·split at hr
    ·simp only[Option.some.injEq,Prod.mk.injEq]at hr;exact .inl ⟨hr.1.symm,hr.2.symm⟩
    ·split at hr
     ·simp only[SL,Prod.mk.injEq]at hr;obtain⟨H3,hl,h1,rfl⟩:=hr;exact .inr ⟨_,_,_,_,h1.symm,yc hl⟩
     ·cases hr
   ·exact absurd rfl (hs _ _ _ _ _)
   ·cases hr
  ·cases hr
 ·cases hr
theorem Mr {c:Call}{t u:TypeId}{s x:Operand}(hb:c.callee=.builtin .append)(ht:c.argTypes.toList=[t,u])(ha:c.args.toList=[s,x])(hv:VH h)(hr:ua t u s x E ih rd d k env h=some r):Plain E.P E.G (.call c) d k env h r:=by
 unfold ua at hr;rw[cQ,cQ]at hr;have hop:aj E.P E.G (aE env) (av h) h.nx (.call c)=bf E.P (av h) h.nx t u (ak E.G (aE env) s) (ak E.G (aE env) x):=by
  simp only[aj,hb,ht,ha];rfl
 generalize ak E.G (aE env) s=sv at hr hop;generalize ak E.G (aE env) x=xv at hr hop;unfold BH at hr;split at hr
 ·rename_i id g o l z;split at hr
  ·rename_i g' o' l' z' H' happ;rename_i id';have happ0:=happ;rcases Mq happ with ⟨h1,rfl⟩|⟨l2,e,c2,h1,rfl,e0,c0,hlive⟩
   ·simp only[AVal.own.injEq]at h1;obtain⟨rfl,rfl,rfl,rfl,rfl⟩:=h1;have hb2:Nat.beq g' g'=true:=UI _;rw[hb2]at hr;refine ja (x:=.val (.own id' g' o' l' z')) hv trivial (fun v H'' hx=>?_) hr;obtain⟨rfl,rfl⟩:=hx;rw[hop,happ0]
   ·simp only[AVal.own.injEq]at h1;obtain⟨rfl,rfl,rfl,rfl,rfl⟩:=h1;have hne:Nat.beq (g+1) g=false:=by
     cases hbq:Nat.beq (g+1) g with
     | false=>rfl
     | true=>have:=Tc hbq;omega
    rw[hne]at hr;have hr':dk d k env (rf (.own id' (g+1) 0 l' z') id' false (((av h).upd id' (.arr (g+1) e c2)).get id')) h=some r:=hr;have hget:((av h).upd id' (.arr (g+1) e c2)).get id'=some (.arr (g+1) e c2):=(by simp [AHeap.upd]);rw[hget]at hr';refine ja (x:=.eff (.own id' (g+1) 0 l' z') id' (g+1) e c2 false) hv ?_ (fun v H'' hx=>?_) hr'
    ·show id'<h.nx;exact iX hv.wf hlive
    ·obtain⟨rfl,rfl⟩:=hx;rw[hop,happ0];rfl
  ·cases hr
 ·rename_i hs;split at hr
  ·rename_i id' g' o' l' z' H' happ;rcases append_nil (H:=av h) (fun a b c d e he=>hs a b c d e he) happ with ⟨h1,_⟩|⟨l2,z2,e,c2,h1,h2⟩
   ·cases h1
   ·have hget:H'.get h.nx=some (.arr 0 e c2):=by
     rw[h2];show (if h.nx=h.nx then some (Blk.arr 0 e c2) else _)=_;rw[SQ rfl]
    rw[hget]at hr;refine ja (x:=.eff (.own id' g' o' l' z') h.nx 0 e c2 true) hv rfl (fun v H'' hx=>?_) hr;obtain⟨rfl,rfl⟩:=hx;rw[hop,happ,h2];rfl
  ·rename_i v H' happ;rcases append_nil (H:=av h) (fun a b c d e he=>hs a b c d e he) happ with ⟨h1,h2⟩|⟨l2,z2,e,c2,h1,h2⟩
   ·refine ja (x:=.val (.lit v)) hv trivial (fun v H'' hx=>?_) hr;obtain⟨rfl,rfl⟩:=hx;rw[hop,happ,h2]
   ·cases h1
  ·cases hr
theorem Ms (c:Call)(b:Builtin):(∃ t x,b=.len/\c.argTypes.toList=[t]/\c.args.toList=[x]/\pj c b=tZ t x) \/
  (∃ t u s x,b=.append/\c.argTypes.toList=[t,u]/\c.args.toList=[s,x]/\pj c b=ua t u s x)\/pj c b=fJ (.call c):=by
 unfold pj;split
 ·rename_i t x h1 h2;exact .inl ⟨t,x,rfl,h1,h2,rfl⟩
 ·rename_i t u s x h1 h2;exact .inr (.inl ⟨t,u,s,x,rfl,h1,h2,rfl⟩)
 ·exact .inr (.inr rfl)
theorem Mt {o:Op}(hv:VH h)(hr:ub o E ih rd d k env h=some r):
  Plain E.P E.G o d k env h r\/B7 E.P E.G o d k env h r\/(∃ fv args ats,o=.call ⟨.value fv,args,ats⟩/\xU fv args E ih rd d k env h=some r)\/(∃ x,o=.panic x/\xT x E ih rd d k env h=some r):=by
 cases o with
 | move x=>exact .inl (L3 hv (show mi x E ih rd d k env h=some r from hr))
 | assign x=>exact .inl (L4 hv (show mi x E ih rd d k env h=some r from hr))
 | pick c a b=>exact .inl (Me hv (show tO c a b E ih rd d k env h=some r from hr))
 | alloc e=>exact .inl (Mf hv (show tP e E ih rd d k env h=some r from hr))
 | box e x=>exact .inl (L5 hv (show tD e x E ih rd d k env h=some r from hr))
 | build t parts=>exact .inl (L6 hv (show tE t parts E ih rd d k env h=some r from hr))
 | buildSlice t l parts=>exact .inl (L7 hv (show tF t l parts E ih rd d k env h=some r from hr))
 | load t a=>exact .inl (L8 hv (show tG t a E ih rd d k env h=some r from hr))
 | store t a x=>exact .inl (Ma hv (show tH t a x E ih rd d k env h=some r from hr))
 | nilCheck x=>exact .inl (Mg hv (show tQ x E ih rd d k env h=some r from hr))
 | binOp op t x y u=>exact(Mb hv (show tJ op t x y u E ih rd d k env h=some r from hr)).elim .inl fun h=>.inr (.inl h)
 | unOp op t x=>exact .inl (Mh hv (show tR op t x E ih rd d k env h=some r from hr))
 | convert s t x=>exact .inl (Mi hv (show tS s t x E ih rd d k env h=some r from hr))
 | makeInterface t x=>exact .inl (mo hv (show fJ (.makeInterface t x) E ih rd d k env h=some r from hr))
 | insert t m a x=>exact .inl (mo hv (show fJ (.insert t m a x) E ih rd d k env h=some r from hr))
 | makeMap t x=>exact .inl (mo hv (show fJ (.makeMap t x) E ih rd d k env h=some r from hr))
 | lookup t x i ok=>exact .inl (mo hv (show fJ (.lookup t x i ok) E ih rd d k env h=some r from hr))
 | mapUpdate t m a x=>exact .inl (mo hv (show fJ (.mapUpdate t m a x) E ih rd d k env h=some r from hr))
 | mapEntry t m a=>exact .inl (mo hv (show fJ (.mapEntry t m a) E ih rd d k env h=some r from hr))
 | entryStore t m a x=>exact .inl (mo hv (show fJ (.entryStore t m a x) E ih rd d k env h=some r from hr))
 | makeFunc fn a b=>exact .inl (Mc hv (show tK fn a b E ih rd d k env h=some r from hr))
 | makeSlice t l c=>exact .inl (Mn hv (show tT t l c E ih rd d k env h=some r from hr))
 | slice t x l u m=>exact .inl (Mo hv (show tU t x l u m E ih rd d k env h=some r from hr))
 | fieldAddr t x f=>exact .inl (Mm hv (show tV t x f E ih rd d k env h=some r from hr))
 | field t x f=>exact .inl (Ml hv (show tW t x f E ih rd d k env h=some r from hr))
 | indexAddr t x i=>exact .inl (Md hv (show tL t x i E ih rd d k env h=some r from hr))
 | index t x i=>exact .inl (Mk hv (show tX t x i E ih rd d k env h=some r from hr))
 | extract t i=>exact .inl (Mj hv (show tY t i E ih rd d k env h=some r from hr))
 | panic x=>exact .inr (.inr (.inr ⟨x,rfl,hr⟩))
 | call c =>
  have hr':BI c E ih rd d k env h=some r:=hr;obtain⟨callee,args,ats⟩:=c;cases callee with
  | value fv=>exact .inr (.inr (.inl ⟨fv,args,ats,rfl,hr'⟩))
  | builtin b =>
   refine .inl ?_;have hr2:pj ⟨.builtin b,args,ats⟩ b E ih rd d k env h=some r:=hr';rcases Ms ⟨.builtin b,args,ats⟩ b with ⟨t,x,rfl,h1,h2,h3⟩|⟨t,u,s,x,rfl,h1,h2,h3⟩|h3
   ·rw[h3]at hr2;exact Mp rfl h1 h2 hv hr2
   ·rw[h3]at hr2;exact Mr rfl h1 h2 hv hr2
   ·rw[h3]at hr2;exact mo hv hr2
  | invoke a b=>cases hr'
 | _=>cases hr
end Go.Hx
namespace Go.Hx
theorem nF {f:AVal->Option (AVal × List Nat)}:∀ {l l':List AVal} {rs:List Nat},bW f l=some (l',rs) ->
  l'.length=l.length/\∀ i (_:i<l.length) (_:i<l'.length),∃ ri,f l[i]=some (l'[i],ri)/\∀ r,r∈ri->r∈rs:=by
 intro l
 induction l with
 | nil =>
  intro l' rs h;simp only[bW,Option.some.injEq,Prod.mk.injEq]at h;obtain⟨rfl,rfl⟩:=h;exact⟨rfl,fun i h _=>absurd h (S7 _)⟩
 | cons x l ih =>
  intro l' rs h;have h':(match f x,bW f l with|some (y,a),some (l,b)=>some (y :: l,a++b)|_,_=>none)=some (l',rs):=h;split at h'
  ·rename_i y a l2 b h1 h2;simp only[Option.some.injEq,Prod.mk.injEq]at h';obtain⟨rfl,rfl⟩:=h';obtain⟨h3,h4⟩:=ih h2;refine⟨by simp [h3],fun i hi hi'=>?_⟩;cases i with
   | zero=>exact⟨a,h1,fun r hr=>Uu _ hr⟩
   | succ i =>
    obtain⟨ri,h5,h6⟩:=h4 i (by simpa using hi) (by simpa using hi');exact⟨ri,h5,fun r hr=>Ud _ (h6 r hr)⟩
  ·cases h'
theorem mq {h:EH}{id g:Nat}{e:TypeId}{c:List AVal}(hg:aW h.hp id=some (.arr g e c)):(av h).get id=some (.arr g e c):=by
 show Option.map EBlk.kj (aW h.hp id)=_;rw[hg];rfl
theorem B8 {h:EH}:∀ (fuel:Nat) {v v':AVal} {rs:List Nat},ie h fuel v=some (v',rs)->∀ H2:AHeap,(∀ r,r∈rs->H2.get r=(av h).get r)->Fz (fun _=>True) H2 0 v v':=by
 intro fuel
 induction fuel with
 | zero=>intro v v' rs h;cases h
 | succ f ih =>
  intro v v' rs hv H2 ha;have list:∀ {l l':List AVal} {rs':List Nat},bW (ie h f) l=some (l',rs')->(∀ r,r∈rs'->H2.get r=(av h).get r) ->
    l'.length=l.length/\∀ i (_:i<l.length) (_:i<l'.length),Fz (fun _=>True) H2 0 l[i] l'[i]:=fun hm ha'=>by
   obtain⟨h1,h2⟩:=nF hm;exact⟨h1,fun i hi hi'=>let ⟨ri,h3,h4⟩:=h2 i hi hi';ih h3 H2 fun r hr=>ha' r (h4 r hr)⟩
  cases v with
  | lit v =>
   have hv':some (AVal.lit v,[])=some (v',rs):=hv;simp only[Option.some.injEq,Prod.mk.injEq]at hv';obtain⟨rfl,rfl⟩:=hv';exact .lit _
  | vec n c =>
   have hv':(bW (ie h f) c).map (fun p=>(AVal.vec n p.1,p.2))=some (v',rs):=hv;simp only[SL,Prod.mk.injEq]at hv';obtain⟨⟨c',rs'⟩,h1,rfl,rfl⟩:=hv';obtain⟨h2,h3⟩:=list h1 ha;exact .vec h2 h3
  | vptr c o =>
   have hv':(bW (ie h f) c).map (fun p=>(AVal.vptr p.1 o,p.2))=some (v',rs):=hv;simp only[SL,Prod.mk.injEq]at hv';obtain⟨⟨c',rs'⟩,h1,rfl,rfl⟩:=hv';obtain⟨h2,h3⟩:=list h1 ha;exact .vptr h2 h3
  | agg c =>
   have hv':(bW (ie h f) c).map (fun p=>(AVal.agg p.1,p.2))=some (v',rs):=hv;simp only[SL,Prod.mk.injEq]at hv';obtain⟨⟨c',rs'⟩,h1,rfl,rfl⟩:=hv';obtain⟨h2,h3⟩:=list h1 ha;exact .agg h2 h3
  | tup c =>
   have hv':(bW (ie h f) c).map (fun p=>(AVal.tup p.1,p.2))=some (v',rs):=hv;simp only[SL,Prod.mk.injEq]at hv';obtain⟨⟨c',rs'⟩,h1,rfl,rfl⟩:=hv';obtain⟨h2,h3⟩:=list h1 ha;exact .tup h2 h3
  | clo g a b =>
   have hv':(match bW (ie h f) a,bW (ie h f) b with|some p,some q=>some (AVal.clo g p.1 q.1,p.2++q.2)|_,_=>none)=some (v',rs):=hv;split at hv'
   ·rename_i p q h1 h2;simp only[Option.some.injEq,Prod.mk.injEq]at hv';obtain⟨rfl,rfl⟩:=hv';obtain⟨h3,h4⟩:=list h1 fun r hr=>ha r (Uu _ hr);obtain⟨h5,h6⟩:=list h2 fun r hr=>ha r (Ud _ hr);exact .clo h3 h5 h4 h6
   ·cases hv'
  | own id g o l z =>
   have hv':(match aW h.hp id with|some (.arr g' _ cells)=>if g'=g/\o+l*z<=cells.length then (bW (ie h f) ((cells.drop o).take (l*z))).map fun p=>(AVal.vec l p.1,id :: p.2) else none|_=>none)=some (v',rs):=hv;split at hv'
   ·rename_i g' e cells hg;split at hv'
    ·rename_i hc;obtain⟨rfl,hle⟩:=hc;simp only[SL,Prod.mk.injEq]at hv';obtain⟨⟨c',rs'⟩,h1,rfl,rfl⟩:=hv';obtain⟨h2,h3⟩:=list h1 fun r hr=>ha r (TE _ hr);have hlen:((cells.drop o).take (l*z)).length=l*z:=(by simp;omega);refine .frz trivial ((ha id (T5 ..)).trans (mq hg)) (h2.trans hlen) fun i hi h2i hi'=>?_;have:=h3 i (by omega) hi';simpa using this
    ·cases hv'
   ·cases hv'
  | ptr id g o =>
   have hv':(match aW h.hp id with|some (.arr g' _ (x :: cells))=>if g'=g then (bW (ie h f) (x :: cells)).map fun p=>(AVal.vptr p.1 o,id :: p.2) else none|_=>none)=some (v',rs):=hv;split at hv'
   ·rename_i g' e x cells hg;split at hv'
    ·rename_i hc;subst hc;simp only[SL,Prod.mk.injEq]at hv';obtain⟨⟨c',rs'⟩,h1,rfl,rfl⟩:=hv';obtain⟨h2,h3⟩:=list h1 fun r hr=>ha r (TE _ hr);exact .pfrz trivial ((ha id (T5 ..)).trans (mq hg)) (by simp) h2 h3
    ·cases hv'
   ·cases hv'
  | yld n=>cases hv
theorem Mu {f:AVal->Option AVal}:∀ {l l':List AVal},km f l=some l'->l'.length=l.length/\∀ i (_:i<l.length) (_:i<l'.length),f l[i]=some l'[i]:=by
 intro l
 induction l with
 | nil =>
  intro l' h;simp only[km,Option.some.injEq]at h;subst h;exact⟨rfl,fun i h _=>absurd h (S7 _)⟩
 | cons x l ih =>
  intro l' h;have h':(match f x,km f l with|some y,some l=>some (y :: l)|_,_=>none)=some l':=h;split at h'
  ·rename_i y l2 h1 h2;simp only[Option.some.injEq]at h';subst h';obtain⟨h3,h4⟩:=ih h2;refine⟨by simp [h3],fun i hi hi'=>?_⟩;cases i with
   | zero=>exact h1
   | succ i=>exact h4 i (by simpa using hi) (by simpa using hi')
  ·cases h'
theorem B9 {h:EH}:∀ (fuel:Nat) {v v':AVal},nt h fuel v=some v'->Fresh (av h) v v':=by
 intro fuel
 induction fuel with
 | zero=>intro v v' h;cases h
 | succ f ih =>
  intro v v' hv;have list:∀ {l l':List AVal},km (nt h f) l=some l'->l'.length=l.length/\∀ i (_:i<l.length) (_:i<l'.length),Fresh (av h) l[i] l'[i]:=fun hm=>by
   obtain⟨h1,h2⟩:=Mu hm;exact⟨h1,fun i hi hi'=>ih (h2 i hi hi')⟩
  cases v with
  | lit v =>
   have hv':some (AVal.lit v)=some v':=hv;cases hv';exact .lit _
  | agg c =>
   have hv':(km (nt h f) c).map AVal.agg=some v':=hv;simp only[SL]at hv';obtain⟨c',h1,rfl⟩:=hv';obtain⟨h2,h3⟩:=list h1;exact .agg h2 h3
  | tup c =>
   have hv':(km (nt h f) c).map AVal.tup=some v':=hv;simp only[SL]at hv';obtain⟨c',h1,rfl⟩:=hv';obtain⟨h2,h3⟩:=list h1;exact .tup h2 h3
  | own id g o l z =>
   have hv':(match aW h.hp id with|some (.arr g' _ cells)=>if g'=g/\o+l*z<=cells.length then (km (nt h f) ((cells.drop o).take (l*z))).map (AVal.vec l) else none|_=>none)=some v':=hv;split at hv'
   ·rename_i g' e cells hg;split at hv'
    ·rename_i hc;obtain⟨rfl,hle⟩:=hc;simp only[SL]at hv';obtain⟨c',h1,rfl⟩:=hv';obtain⟨h2,h3⟩:=list h1;have hlen:((cells.drop o).take (l*z)).length=l*z:=(by simp;omega);refine .own (mq hg) (h2.trans hlen) fun i hi h2i hi'=>?_;have:=h3 i (by omega) hi';simpa using this
    ·cases hv'
   ·cases hv'
  | _=>cases hv
theorem iG {f:AVal->AVal->Bool}(hf:∀ x y,f x y=true->x=y):∀ {a b:List AVal},fI f a b=true->a=b:=by
 intro a
 induction a with
 | nil=>intro b h;cases b with
  | nil=>rfl
  | cons=>cases h
 | cons x l ih =>
  intro b h;cases b with
  | nil=>cases h
  | cons y b =>
   have h':(match f x y with|true=>fI f l b|false=>false)=true:=h;split at h'
   ·rename_i hxy;rw[hf _ _ hxy,ih h']
   ·cases h'
theorem Ca:∀ (fuel:Nat) (a b:AVal),pa fuel a b=true->a=b:=by
 intro fuel
 induction fuel with
 | zero=>intro a b h;cases h
 | succ f ih =>
  intro a b h;have h':xE (pa f) a b=true:=h;unfold xE at h';split at h'
  ·simp only[Th,decide_eq_true_eq,ur]at h';rw[h'.1,h'.2]
  ·simp only[beq_iff_eq]at h';rw[h']
  ·rfl
  ·simp only[Th]at h';rw[Tc h'.1,iG ih h'.2]
  ·simp only[Th]at h';rw[Tc h'.1,iG ih h'.2]
  ·rw[iG ih h']
  ·rw[iG ih h']
  ·simp only[Th]at h';rw[Tc h'.1,iG ih h'.2.1,iG ih h'.2.2]
  ·cases h'
theorem Cb {args:List AVal}{v:AVal}:∀ {l:List (List AVal × AVal)},tA args l=some v->(args,v)∈l:=by
 intro l
 induction l with
 | nil=>intro h;cases h
 | cons p l ih =>
  intro h;have h':Bool.casesOn (motive:=fun _=>Option AVal) (fI (pa 40) p.1 args) (tA args l) (some p.2)=some v:=h;cases he:fI (pa 40) p.1 args with
  | true =>
   rw[he]at h';have:=iG (Ca 40) he;have h2:p.2=v:=Option.some.inj h';rw[<- this,<- h2];exact T5 ..
  | false =>
   rw[he]at h';exact TE _ (ih h')
theorem Mv {k:BT AVal->R}{r:RR}:∀ {l:List AVal} {i:Nat} {t:BT AVal},tw k l i t=some r->∃ t',k t'=some r/\∀ m,ep t' m=if i<=m/\m<i+l.length then l[m - i]? else ep t m:=by
 intro l
 induction l with
 | nil=>intro i t h;exact⟨t,h,fun m=>by rw[SO (by simp only[List.length_nil];omega)]⟩
 | cons x l ih =>
  intro i t h;have h':(mf t i x fun t=>de (Nat.succ i) fun i=>tw k l i t)=some r:=h;obtain⟨t1,h1,h2⟩:=x9 _ _ _ _ _ h';rw[ig]at h1;obtain⟨t',h3,h4⟩:=ih h1;refine⟨t',h3,fun m=>?_⟩;rw[h4,h2];simp only[List.length_cons,Nat.succ_eq_add_one];by_cases hm:m=i
  ·subst hm;rw[SO (by omega),SQ rfl,SQ (by omega)];simp
  ·rw[SO hm];by_cases hm2:i+1<=m/\m<i+1+l.length
   ·rw[SQ hm2,SQ (by omega)];have:m - i=(m - (i+1))+1:=(by omega);rw[this,List.getElem?_cons_succ]
   ·rw[SO hm2,SO (by omega)]
theorem Mw {k:BT AVal->R}{r:RR}{l:List AVal}(h:tw k l 0 .nil=some r):∃ t,k t=some r/\aE t=gI l:=by
 obtain⟨t,h1,h2⟩:=Mv h;refine⟨t,h1,funext fun m=>?_⟩;rw[uk,h2];unfold gI;split
 ·rfl
 ·rename_i hm;rw[SV (by omega),uj]
theorem Mx {k:BT AVal->R}{r:RR}:∀ {ps:List Tmp} {vs:List AVal} {e:BT AVal},tB k ps vs e=some r->∃ e',k e'=some r/\vs.length=ps.length/\aE e'=iZ (aE e) (ps.zip vs):=by
 intro ps
 induction ps with
 | nil =>
  intro vs e h;cases vs with
  | nil=>exact⟨e,h,rfl,rfl⟩
  | cons=>cases h
 | cons p ps ih =>
  intro vs e h;cases vs with
  | nil=>cases h
  | cons v vs =>
   have h':(mf e p v fun e=>tB k ps vs e)=some r:=h;obtain⟨t1,h1,h2⟩:=x9 _ _ _ _ _ h';obtain⟨e',h3,h4,h5⟩:=ih h1;refine⟨e',h3,by simp [h4],?_⟩;rw[h5,BX h2];rfl
theorem My {n:Nat}:∀ (t:BT AVal) (a b:Nat),okB t a b n=true->∀ j v,ep t j=some v->a*j+b<n:=by
 intro t
 induction t with
 | nil=>intro a b _ j v h;cases h
 | node v l r ihl ihr =>
  intro a b h j u hj;have h':(BA v b n && (okB l (2*a) (a+b) n && okB r (2*a) (2*a+b) n))=true:=h;simp only[Th]at h';obtain⟨h1,h2,h3⟩:=h';cases j with
  | zero =>
   rw[LU]at hj;rw[hj]at h1;have h4:b<n:=(by rw[<- Vx];exact h1);omega
  | succ m =>
   rw[kv]at hj;split at hj
   ·rename_i hm;have:=ihl _ _ h2 _ _ hj;have h4:m=2*(m / 2):=(by omega);generalize m / 2=q at this h4;subst h4;have h5:a*(2*q+1)=2*a*q+a:=(by rw[Nat.mul_add,Nat.mul_one,<- VO,VB a 2]);omega
   ·rename_i hm;have:=ihr _ _ h3 _ _ hj;have h4:m=2*(m / 2)+1:=(by omega);generalize m / 2=q at this h4;subst h4;have h5:a*(2*q+1+1)=2*a*q+2*a:=(by rw[show 2*q+1+1=2*q+2 from rfl,Nat.mul_add,<- VO,VB a 2]);omega
theorem Mz {env:BT AVal}{n:Nat}(h:okB env 1 0 n=true):cW (aE env) n=aE env:=by
 funext t
 unfold cW;split
 ·rfl
 ·rename_i ht;rw[uk];cases hg:ep env t with
  | none=>rfl
  | some v =>
   have:=My env 1 0 h t v hg;omega
end Go.Hx
namespace Go.Hx
theorem kz {l:List Nat}{n:Nat}:eM l n=true↔n∈l:=by
 induction l with
 | nil=>exact⟨fun h=>absurd (show false=true from h) (by decide),fun h=>absurd h (List.not_mem_nil)⟩
 | cons x l ih =>
  have h':eM (x :: l) n=Bool.rec (motive:=fun _=>Bool) (eM l n) true (Nat.beq x n):=rfl;rw[h',List.mem_cons];cases hb:Nat.beq x n with
  | true=>exact⟨fun _=>.inl (Tc hb).symm,fun _=>rfl⟩
  | false =>
   refine⟨fun h=>.inr (ih.1 h),?_⟩;rintro(rfl|h)
   ·rw[UI]at hb;cases hb
   ·exact ih.2 h
theorem Cl {l:List Nat}{n:Nat}(h:eM l n=false):n ∉ l:=fun hm=>by rw[kz.2 hm]at h;cases h
theorem MT {f:Nat->Bool}{l:List Nat}(h:xF f l=true):∀ n,n∈l->f n=true:=by
 induction l with
 | nil=>intro n hn;cases hn
 | cons x l ih =>
  have h':Bool.rec (motive:=fun _=>Bool) false (xF f l) (f x)=true:=h;cases hx:f x with
  | false=>rw[hx]at h';cases h'
  | true =>
   rw[hx]at h';intro n hn;rcases List.mem_cons.1 hn with rfl|hn
   ·exact hx
   ·exact ih h' n hn
def iH (lo:Nat)(kp acc:List Nat):Nat->Prop:=fun j=>(j<lo/\j∈kp)\/(¬ j<lo/\j∈acc)
def pE (h:EH)(lo:Nat)(kp acc:List Nat)(id:Nat):Prop:=¬ id<lo/\∃ g e c,aW h.hp id=some (.arr g e c)/\∀ i (h:i<c.length),Ev.Cln (iH lo kp acc) c[i]
def gQ (h:EH)(lo:Nat)(kp acc acc':List Nat):Prop:=(∀ id,id∈acc->id∈acc')/\∀ id,id∈acc'->id∈acc\/pE h lo kp acc' id
theorem iH.mono {lo:Nat}{kp acc acc':List Nat}(hs:∀ id,id∈acc->id∈acc')(id:Nat)(h:iH lo kp acc id):iH lo kp acc' id:=by
 rcases h with h|h
 ·exact .inl h
 ·exact .inr ⟨h.1,hs _ h.2⟩
theorem pE.mono {h:EH}{lo:Nat}{kp acc acc':List Nat}(hs:∀ id,id∈acc->id∈acc'){id:Nat}(hg:pE h lo kp acc id):pE h lo kp acc' id:=by
 obtain⟨h1,g,e,c,h2,h3⟩:=hg;exact⟨h1,g,e,c,h2,fun i hi=>(h3 i hi).mono (iH.mono hs)⟩
theorem gQ.refl (h:EH)(lo:Nat)(kp acc:List Nat):gQ h lo kp acc acc:=⟨fun _ h=>h,fun _ h=>.inl h⟩
theorem gQ.trans {h:EH}{lo:Nat}{kp a b c:List Nat}(h1:gQ h lo kp a b)(h2:gQ h lo kp b c):gQ h lo kp a c:=by
 refine⟨fun id hid=>h2.1 id (h1.1 id hid),fun id hid=>?_⟩;rcases h2.2 id hid with h3|h3
 ·rcases h1.2 id h3 with h4|h4
  ·exact .inl h4
  ·exact .inr (h4.mono h2.1)
 ·exact .inr h3
theorem rz {h:EH}{lo:Nat}{kp:List Nat}{f:KF}(hf:∀ v acc acc',f v acc=some acc'->gQ h lo kp acc acc'/\Ev.Cln (iH lo kp acc') v):
  ∀ {l:List AVal} {acc acc':List Nat},jG f l acc=some acc'->gQ h lo kp acc acc'/\∀ i (h:i<l.length),Ev.Cln (iH lo kp acc') l[i]:=by
 intro l
 induction l with
 | nil =>
  intro acc acc' hk;have:some acc=some acc':=hk;cases this;exact⟨.refl _ _ _ _,fun i h=>absurd h (S7 _)⟩
 | cons x l ih =>
  intro acc acc' hk;have h':(match f x acc with|some acc=>jG f l acc|none=>none)=some acc':=hk;split at h'
  ·rename_i a1 h1;obtain⟨h2,h3⟩:=hf _ _ _ h1;obtain⟨h4,h5⟩:=ih h';refine⟨h2.trans h4,fun i hi=>?_⟩;cases i with
   | zero=>exact h3.mono (iH.mono h4.1)
   | succ i=>exact h5 i (by simpa using hi)
  ·cases h'
theorem Cm {h:EH}{lo:Nat}{kp:List Nat}{f:KF}(hf:∀ v acc acc',f v acc=some acc'->gQ h lo kp acc acc'/\Ev.Cln (iH lo kp acc') v)
  {id:Nat} {acc acc':List Nat} (hk:pf h lo kp f id acc=some acc'):gQ h lo kp acc acc'/\iH lo kp acc' id:=by
 unfold pf at hk;split at hk
 ·rename_i hlt;rw[Vx]at hlt;split at hk
  ·rename_i hm;cases hk;exact⟨.refl _ _ _ _,.inl ⟨hlt,kz.1 hm⟩⟩
  ·cases hk
 ·rename_i hlt;have hlt':¬ id<lo:=fun h=>by rw[<- Vx]at h;rw[h]at hlt;cases hlt
  split at hk
  ·rename_i hm;cases hk;exact⟨.refl _ _ _ _,.inr ⟨hlt',kz.1 hm⟩⟩
  ·split at hk
   ·rename_i g e cells hg;obtain⟨⟨h1,h2⟩,h3⟩:=rz hf hk;have hin:id∈acc':=h1 id (T5 ..);refine⟨⟨fun j hj=>h1 j (TE _ hj),fun j hj=>?_⟩,.inr ⟨hlt',hin⟩⟩;rcases h2 j hj with h4|h4
    ·rcases List.mem_cons.1 h4 with rfl|h4
     ·exact .inr ⟨hlt',g,e,cells,hg,h3⟩
     ·exact .inl h4
    ·exact .inr h4
   ·cases hk
theorem Cn {h:EH}{lo:Nat}{kp:List Nat}:∀ (fuel:Nat) (v:AVal) (acc acc':List Nat),ko h lo kp fuel v acc=some acc'->gQ h lo kp acc acc'/\Ev.Cln (iH lo kp acc') v:=by
 intro fuel
 induction fuel with
 | zero=>intro v acc acc' h;cases h
 | succ n ih =>
  intro v acc acc' hk;cases v with
  | lit v =>
   have:some acc=some acc':=hk;cases this;exact⟨.refl _ _ _ _,.lit _⟩
  | vec m c =>
   have hk':(match AVal.vec m c with|.vec 0 []=>some acc|_=>none)=some acc':=by
    cases m<;>cases c<;>exact hk
   split at hk'
   ·rename_i he;cases he;cases hk';exact⟨.refl _ _ _ _,.nil⟩
   ·cases hk'
  | agg c =>
   obtain⟨h1,h2⟩:=rz ih (show jG (ko h lo kp n) c acc=some acc' from hk);exact⟨h1,.agg h2⟩
  | tup c =>
   obtain⟨h1,h2⟩:=rz ih (show jG (ko h lo kp n) c acc=some acc' from hk);exact⟨h1,.tup h2⟩
  | clo f a b =>
   have hk':(match jG (ko h lo kp n) a acc with|some acc=>jG (ko h lo kp n) b acc|none=>none)=some acc':=hk;split at hk'
   ·rename_i a1 h1;obtain⟨h2,h3⟩:=rz ih h1;obtain⟨h4,h5⟩:=rz ih hk';exact⟨h2.trans h4,.clo (fun i hi=>(h3 i hi).mono (iH.mono h4.1)) h5⟩
   ·cases hk'
  | own id g o l z =>
   obtain⟨h1,h2⟩:=Cm ih (show pf h lo kp (ko h lo kp n) id acc=some acc' from hk);exact⟨h1,.own h2⟩
  | ptr id g o =>
   obtain⟨h1,h2⟩:=Cm ih (show pf h lo kp (ko h lo kp n) id acc=some acc' from hk);exact⟨h1,.ptr h2⟩
  | vptr=>cases hk
  | yld=>cases hk
theorem mu {h:EH}{f:CF}(hf:∀ v acc k r,f v acc k=some r->∃ acc',k acc'=some r/\gQ h 0 [] acc acc'):
  ∀ {l:List AVal} {acc:List Nat} {k:List Nat->R} {r:RR},kq f l acc k=some r->∃ acc',k acc'=some r/\gQ h 0 [] acc acc':=by
 intro l
 induction l with
 | nil=>intro acc k r hr;exact⟨acc,hr,.refl _ _ _ _⟩
 | cons x l ih =>
  intro acc k r hr;have h':(f x acc fun acc=>kq f l acc k)=some r:=hr;obtain⟨a1,h1,h2⟩:=hf _ _ _ _ h';obtain⟨a2,h3,h4⟩:=ih h1;exact⟨a2,h3,h2.trans h4⟩
theorem MU {h:EH}:∀ (fuel:Nat) (v:AVal) (acc:List Nat) (k:List Nat->R) (r:RR),tu h fuel v acc k=some r->∃ acc',k acc'=some r/\gQ h 0 [] acc acc':=by
 intro fuel
 induction fuel with
 | zero=>intro v acc k r hr;exact⟨acc,hr,.refl _ _ _ _⟩
 | succ n ih =>
  intro v acc k r hr;have h':(match ko h 0 [] 40 v acc with|some acc=>k acc|none=>xG h (tu h n) v acc k)=some r:=hr;split at h'
  ·rename_i a1 h1;exact⟨a1,h',(Cn 40 v acc a1 h1).1⟩
  ·have blk:∀ b,tt (tu h n) acc k b=some r->∃ acc',k acc'=some r/\gQ h 0 [] acc acc':=by
    intro b hb;unfold tt at hb;split at hb
    ·exact mu ih hb
    ·exact⟨acc,hb,.refl _ _ _ _⟩
   unfold xG at h';split at h'
   ·exact mu ih h'
   ·exact mu ih h'
   ·exact mu ih h'
   ·exact mu ih h'
   ·obtain⟨a1,h1,h2⟩:=mu ih h';obtain⟨a2,h3,h4⟩:=mu ih h1;exact⟨a2,h3,h2.trans h4⟩
   ·exact blk _ h'
   ·exact blk _ h'
   ·exact⟨acc,h',.refl _ _ _ _⟩
theorem MV {h:EH}{kp:List Nat}(hkp:∀ id,id∈kp->id<h.nx):∀ (fuel:Nat) {v v':AVal} {rs:List Nat},jH h kp fuel v=some (v',rs)->∀ H2:AHeap,(∀ r,r∈rs->H2.get r=(av h).get r)->Fz (fun id=>¬ id∈kp) H2 h.nx v v':=by
 intro fuel
 induction fuel with
 | zero=>intro v v' rs h;cases h
 | succ f ih =>
  intro v v' rs hv H2 ha;have list:∀ {l l':List AVal} {rs':List Nat},bW (jH h kp f) l=some (l',rs')->(∀ r,r∈rs'->H2.get r=(av h).get r) ->
    l'.length=l.length/\∀ i (_:i<l.length) (_:i<l'.length),Fz (fun id=>¬ id∈kp) H2 h.nx l[i] l'[i]:=fun hm ha'=>by
   obtain⟨h1,h2⟩:=nF hm;exact⟨h1,fun i hi hi'=>let ⟨ri,h3,h4⟩:=h2 i hi hi';ih h3 H2 fun r hr=>ha' r (h4 r hr)⟩
  cases v with
  | lit v =>
   have hv':some (AVal.lit v,[])=some (v',rs):=hv;simp only[Option.some.injEq,Prod.mk.injEq]at hv';obtain⟨rfl,rfl⟩:=hv';exact .lit _
  | vec n c =>
   have hv':(bW (jH h kp f) c).map (fun p=>(AVal.vec n p.1,p.2))=some (v',rs):=hv;simp only[SL,Prod.mk.injEq]at hv';obtain⟨⟨c',rs'⟩,h1,rfl,rfl⟩:=hv';obtain⟨h2,h3⟩:=list h1 ha;exact .vec h2 h3
  | vptr c o =>
   have hv':(bW (jH h kp f) c).map (fun p=>(AVal.vptr p.1 o,p.2))=some (v',rs):=hv;simp only[SL,Prod.mk.injEq]at hv';obtain⟨⟨c',rs'⟩,h1,rfl,rfl⟩:=hv';obtain⟨h2,h3⟩:=list h1 ha;exact .vptr h2 h3
  | agg c =>
   have hv':(bW (jH h kp f) c).map (fun p=>(AVal.agg p.1,p.2))=some (v',rs):=hv;simp only[SL,Prod.mk.injEq]at hv';obtain⟨⟨c',rs'⟩,h1,rfl,rfl⟩:=hv';obtain⟨h2,h3⟩:=list h1 ha;exact .agg h2 h3
  | tup c =>
   have hv':(bW (jH h kp f) c).map (fun p=>(AVal.tup p.1,p.2))=some (v',rs):=hv;simp only[SL,Prod.mk.injEq]at hv';obtain⟨⟨c',rs'⟩,h1,rfl,rfl⟩:=hv';obtain⟨h2,h3⟩:=list h1 ha;exact .tup h2 h3
  | clo g a b =>
   have hv':(match bW (jH h kp f) a,bW (jH h kp f) b with|some p,some q=>some (AVal.clo g p.1 q.1,p.2++q.2)|_,_=>none)=some (v',rs):=hv;split at hv'
   ·rename_i p q h1 h2;simp only[Option.some.injEq,Prod.mk.injEq]at hv';obtain⟨rfl,rfl⟩:=hv';obtain⟨h3,h4⟩:=list h1 fun r hr=>ha r (Uu _ hr);obtain⟨h5,h6⟩:=list h2 fun r hr=>ha r (Ud _ hr);exact .clo h3 h5 h4 h6
   ·cases hv'
  | own id g o l z =>
   have hv':(match eM kp id with
    | true=>some (AVal.own id g o l z,[])
    | false=>match aW h.hp id with|some (.arr g' _ cells)=>if g'=g/\o+l*z<=cells.length then (bW (jH h kp f) ((cells.drop o).take (l*z))).map fun p=>(AVal.vec l p.1,id :: p.2) else none|_=>none)=some (v',rs):=hv
   split at hv'
   ·rename_i hm;simp only[Option.some.injEq,Prod.mk.injEq]at hv';obtain⟨rfl,rfl⟩:=hv';exact .own (hkp _ (kz.1 hm)) fun h=>h (kz.1 hm)
   ·rename_i hm;split at hv'
    ·rename_i g' e cells hg;split at hv'
     ·rename_i hc;obtain⟨rfl,hle⟩:=hc;simp only[SL,Prod.mk.injEq]at hv';obtain⟨⟨c',rs'⟩,h1,rfl,rfl⟩:=hv';obtain⟨h2,h3⟩:=list h1 fun r hr=>ha r (TE _ hr);have hlen:((cells.drop o).take (l*z)).length=l*z:=(by simp;omega);refine .frz (Cl hm) ((ha id (T5 ..)).trans (mq hg)) (h2.trans hlen) fun i hi h2i hi'=>?_;have:=h3 i (by omega) hi';simpa using this
     ·cases hv'
    ·cases hv'
  | ptr id g o =>
   have hv':(match eM kp id with
    | true=>some (AVal.ptr id g o,[])
    | false=>match aW h.hp id with|some (.arr g' _ (x :: cells))=>if g'=g then (bW (jH h kp f) (x :: cells)).map fun p=>(AVal.vptr p.1 o,id :: p.2) else none|_=>none)=some (v',rs):=hv
   split at hv'
   ·rename_i hm;simp only[Option.some.injEq,Prod.mk.injEq]at hv';obtain⟨rfl,rfl⟩:=hv';exact .ptr (hkp _ (kz.1 hm)) fun h=>h (kz.1 hm)
   ·rename_i hm;split at hv'
    ·rename_i g' e x cells hg;split at hv'
     ·rename_i hc;subst hc;simp only[SL,Prod.mk.injEq]at hv';obtain⟨⟨c',rs'⟩,h1,rfl,rfl⟩:=hv';obtain⟨h2,h3⟩:=list h1 fun r hr=>ha r (TE _ hr);exact .pfrz (Cl hm) ((ha id (T5 ..)).trans (mq hg)) (by simp) h2 h3
     ·cases hv'
    ·cases hv'
  | yld n=>cases hv
theorem MW {h:EH}{k:BT EBlk->R}{r:RR}:∀ {l:List Nat} {t:BT EBlk},xH h l k t=some r->∃ t',k t'=some r/\∀ m,aW t' m=if m∈l then aW h.hp m else aW t m:=by
 intro l
 induction l with
 | nil=>intro t hr;exact⟨t,hr,fun m=>by rw[SO (by simp)]⟩
 | cons x l ih =>
  intro t hr;have h':(match aW h.hp x with|some b=>fU t x b (xH h l k)|none=>none)=some r:=hr;split at h'
  ·rename_i b hb;obtain⟨t1,h1,h2⟩:=mn _ _ _ _ _ h';obtain⟨t',h3,h4⟩:=ih h1;refine⟨t',h3,fun m=>?_⟩;rw[h4,h2];by_cases hm:m∈l
   ·rw[SQ hm,SQ (TE _ hm)]
   ·rw[SO hm];by_cases hx:m=x
    ·subst hx;rw[SQ rfl,SQ (T5 ..),hb]
    ·rw[SO hx,SO (by simp [hx,hm])]
  ·cases h'
theorem MX {a b:Value}(h:xI a b=true):a=b:=by
 unfold xI at h;split at h
 ·simp only[Th,decide_eq_true_eq,ur]at h;rw[h.1,h.2]
 ·simp only[beq_iff_eq]at h;rw[h]
 ·rfl
 ·rfl
 ·cases h
theorem MY:∀ (fuel:Nat) (a b:AVal),xK fuel a b=true->a=b:=by
 intro fuel
 induction fuel with
 | zero=>intro a b h;cases h
 | succ f ih =>
  intro a b h;have h':xJ (xK f) a b=true:=h;unfold xJ at h';split at h'
  ·rw[MX h']
  ·simp only[Th]at h';rw[Tc h'.1,iG ih h'.2]
  ·rw[iG ih h']
  ·rw[iG ih h']
  ·simp only[Th]at h';rw[Tc h'.1,iG ih h'.2.1,iG ih h'.2.2]
  ·simp only[Th]at h';rw[Tc h'.1,Tc h'.2.1,Tc h'.2.2.1,Tc h'.2.2.2.1,Tc h'.2.2.2.2]
  ·simp only[Th]at h';rw[Tc h'.1,Tc h'.2.1,Tc h'.2.2]
  ·cases h'
theorem MZ {a b:Option EBlk}(h:xL a b=true):a=b:=by
 unfold xL at h;split at h
 ·simp only[Th]at h;rw[Tc h.1,Tc h.2.1,iG (MY 40) h.2.2]
 ·cases h
theorem M0 {h':EH}{lv:List Nat}{lo:Nat}:∀ {n:Nat} {t:BT EBlk} {k:BT EBlk->R} {r:RR},tv h' lv lo n t k=some r ->
  ∃ t',k t'=some r/\∀ m,aW t' m=if lo<=m/\m<lo+n then (if eM lv m=true then aW h'.hp m else some (.arr 0 0 [])) else aW t m:=by
 intro n
 induction n with
 | zero=>intro t k r hr;exact⟨t,hr,fun m=>by rw[SO (by omega)]⟩
 | succ n ih =>
  intro t k r hr;have h1:de (Nat.add lo n) (xM h' lv t fun t=>tv h' lv lo n t k)=some r:=hr;rw[ig]at h1;have key:∀ b,(if eM lv (lo+n)=true then aW h'.hp (lo+n) else some (.arr 0 0 []))=some b->fU t (lo+n) b (fun t=>tv h' lv lo n t k)=some r ->
    ∃ t',k t'=some r/\∀ m,aW t' m=if lo<=m/\m<lo+(n+1) then (if eM lv m=true then aW h'.hp m else some (.arr 0 0 [])) else aW t m:=by
   intro b hb hs;obtain⟨t1,h2,h3⟩:=mn _ _ _ _ _ hs;obtain⟨t',h4,h5⟩:=ih h2;refine⟨t',h4,fun m=>?_⟩;rw[h5,h3];by_cases hm:m=lo+n
   ·subst hm;rw[SO (by omega),SQ rfl,SQ (by omega),hb]
   ·rw[SO hm];by_cases hm2:lo<=m/\m<lo+n
    ·rw[SQ hm2,SQ (⟨hm2.1,by omega⟩:lo<=m/\m<lo+(n+1))]
    ·rw[SO hm2,SO (fun hc:lo<=m/\m<lo+(n+1)=>hm2 ⟨hc.1,by omega⟩)]
  unfold xM at h1;split at h1
  ·rename_i hm;split at h1
   ·rename_i b hb;exact key b ((SQ (show eM lv (lo+n)=true from hm)).trans hb) h1
   ·cases h1
  ·rename_i hm;exact key _ (SO (fun hc=>by rw[show eM lv (lo+n)=false from hm]at hc;cases hc)) h1
end Go.Hx
namespace Go.Hx
def MA (z:GD):Option AVal->AVal
 | some u=>.tup [u,.lit (.int .i64 0)]
 | none=>.tup [z.z,.lit (.int .i64 6)]
def Cc (P:Program)(G:Nat->Option (List AVal))(f:FuncId)(z:GD):Prop:=∀ g cap cap' (H:AHeap) o,cap'.length=cap.length ->
 (∀ H2:AHeap,(∀ id,id<H.next->H2.get id=H.get id)->∀ i (h:i<cap.length) (h':i<cap'.length),Fz (fun _=>True) H2 0 cap[i] cap'[i]) ->
 (∀ u,o=some u->z.ok u=true)->ae P G g cap' bZ (qu o)->ae P G f [.clo g [] cap] H fun r H'=>r=.ret (MA z o)/\H'=H
def ru (E:EP):Prop:=∀ f e,E.ext f=some e->∀ args r,e args=some r->∀ (H:AHeap) (K:ARes->AHeap->Prop),K (.ret r) H->aB E.P E.G (.clo f [] []) args H K
theorem ru.none {E:EP}(h:E.ext=fun _=>.none):ru E:=fun f e he=>by rw[h]at he;cases he
structure EOk (E:EP):Prop where
 gok:eL E.G
 mixed:E.P.follows .mixedOrders=true
 known:∀ f l,E.known f=some l->∀ a v,(a,v)∈l->ae E.P E.G f a bZ fun r H'=>∃ u,r=.ret u/\Fresh H' u v
 gd:∀ f z,E.gd f=some z->Cc E.P E.G f z
 ext:ru E
def yd:RR->ARes->EH->Prop
 | .ret v h,x,h'=>x=.ret v/\h'=h
 | .panic h,x,h'=>x=.panic/\h'=h
 | _,_,_=>False
def gO (E:EP)(ih:jI):Prop:=∀ rd n c env h r,ih rd n c env h=some r->VH h->fits n c=true ->
 ∃ x env' h',r=.ev x env' h'/\VH h'/\∀ Q:AX->St->Prop,Q x ⟨aE env',av h'⟩->W E.P E.G n rd c Q ⟨aE env,av h⟩
theorem W.here {P:Program}{G:Nat->Option (List AVal)}{n:Nat}{rd:Option Nat}{c:Code}{Q:AX->St->Prop}{s s':St}{x:AX}(h:∀ Q:AX->St->Prop,Q x s'->W P G n rd c Q s)(hq:Q x s'):W P G n rd c Q s :=
 (h (fun y t=>y=x/\t=s') ⟨rfl,rfl⟩).mono fun y t ht=>by rw[ht.1,ht.2];exact hq
def ye (E:EP)(f:FuncId)(args:List AVal)(h:EH)(r:RR):Prop :=
 ∃ x h',yd r x h'/\VH h'/\∀ K:ARes->AHeap->Prop,K x (av h')->ae E.P E.G f args (av h) K
def yg (E:EP)(fv:AVal)(args:List AVal)(h:EH)(r:RR):Prop :=
 ∃ x h',yd r x h'/\VH h'/\∀ K:ARes->AHeap->Prop,K x (av h')->aB E.P E.G fv args (av h) K
section
variable {E:EP} {ih:jI}
theorem fW {b:Bool}{x:R}{r:RR}(h:Bool.rec (motive:=fun _=>R) none x b=some r):b=true/\x=some r:=by
 cases b with
 | false=>cases h
 | true=>exact⟨rfl,h⟩
theorem yh:VH ⟨.nil,0⟩:=fun _ _ h=>by cases h
theorem mr (hI:gO E ih){f:FuncId}{args:List AVal}{h:EH}{r:RR}(hv:VH h)(hr:mh E ih f args h=some r):ye E f args h r:=by
 unfold mh at hr;cases hf:E.P.funcs[f]? with
 | none=>rw[hf]at hr;cases hr
 | some fn =>
  rw[hf]at hr;have hr1:Option.rec (motive:=fun _=>R) none (fun c=>tz E ih fn c args h) fn.body=some r:=hr;cases hb:fn.body with
  | none=>rw[hb]at hr1;cases hr1
  | some c =>
   rw[hb]at hr1;have hr2:tz E ih fn c args h=some r:=hr1;unfold tz at hr2;obtain⟨hok,hr3⟩:=fW hr2;obtain⟨hle,hr4⟩:=fW hr3;have hle:=Up hle;unfold Bw at hok;simp only[Th,Vy]at hok;obtain⟨env,hr5,henv⟩:=Mw hr4;have body:∀ K:ARes->AHeap->Prop,W E.P E.G fn.ntmps none c (qB E.P E.G fn.results.toList (av h) K) ⟨gI args,av h⟩->ae E.P E.G f args (av h) K:=fun K hW=>ae.jD hf hb rfl rfl hok.2 hle hW;unfold Bv at hr5;have ret:∀ env' h' vs,eh E.P (av h') (aE env') fn.results.toList=some vs->tx h.nx (hZ vs) h'=some r->VH h'->(∀ Q:AX->St->Prop,(Q .normal ⟨aE env',av h'⟩/\Q .ret ⟨aE env',av h'⟩)->W E.P E.G fn.ntmps none c Q ⟨aE env,av h⟩)->ye E f args h r:=by
    intro env' h' vs hvs he hv' hW;unfold tx at he;obtain⟨hnx,he2⟩:=fW he;rw[px]at he2;have he3:r=.ret (hZ vs) h':=(Option.some.inj he2).symm;subst he3;refine⟨.ret (hZ vs),h',⟨rfl,rfl⟩,hv',fun K hK=>body K ?_⟩;rw[<- henv];have hfin:bd (eh E.P (av h') (aE env') fn.results.toList) fun vs=>ay E.P E.G (av h) K (hZ vs) (av h'):=⟨vs,hvs,ay.mk (Up hnx) hK⟩
    exact hW _ ⟨hfin,hfin⟩
   split at hr5
   ·rename_i env' h' hi;obtain⟨x,e2,h2,h3,h4,h5⟩:=hI _ _ _ _ _ _ hi hv hok.1;cases h3;split at hr5
    ·rename_i vs hvs;exact ret _ _ _ hvs hr5 h4 fun Q hq=>h5 Q hq.1
    ·cases hr5
   ·rename_i env' h' hi;obtain⟨x,e2,h2,h3,h4,h5⟩:=hI _ _ _ _ _ _ hi hv hok.1;cases h3;split at hr5
    ·rename_i vs hvs;exact ret _ _ _ hvs hr5 h4 fun Q hq=>h5 Q hq.2
    ·cases hr5
   ·rename_i env' h' hi;obtain⟨x,e2,h2,h3,h4,h5⟩:=hI _ _ _ _ _ _ hi hv hok.1;cases h3;obtain⟨hnx,he2⟩:=fW hr5;have he3:r=.panic h':=(Option.some.inj he2).symm;subst he3;refine⟨.panic,h',⟨rfl,rfl⟩,h4,fun K hK=>body K ?_⟩;rw[<- henv];exact h5 _ ⟨av h',l9.refl _ _,Up hnx,hK⟩
   ·cases hr5
theorem MB (hI:gO E ih){f:FuncId}{args:List AVal}{v:AVal}(hr:xO E ih f args=some v):ae E.P E.G f args bZ fun r H'=>∃ u,r=.ret u/\Fresh H' u v:=by
 unfold xO at hr;split at hr
 ·rename_i u h' hc;obtain⟨x,h2,hcr,hv2,hK⟩:=mr hI yh hc;obtain⟨rfl,rfl⟩:=hcr;exact hK _ ⟨u,rfl,B9 _ hr⟩
 ·cases hr
theorem Cd (hI:gO E ih){f:FuncId}{args:List AVal}{o:Option AVal}(hr:xP E ih f args=some o):ae E.P E.G f args bZ (qu o):=by
 unfold xP at hr;split at hr
 ·rename_i u h' hc;obtain⟨x,h2,hcr,_,hK⟩:=mr hI yh hc;obtain⟨rfl,rfl⟩:=hcr;split at hr
  ·rename_i w hw;cases hr;exact hK (qu (some w)) ⟨u,rfl,B9 _ hw⟩
  ·cases hr
 ·rename_i h' hc;obtain⟨x,h2,hcr,_,hK⟩:=mr hI yh hc;obtain⟨rfl,rfl⟩:=hcr;cases hr;exact hK (qu none) rfl
 ·cases hr
theorem Ce (hE:EOk E){f:FuncId}{args args':List AVal}{rs:List Nat}{v:AVal}{h:EH}(hm:bW (ie h 40) args=some (args',rs))(hc:ae E.P E.G f args' bZ fun r H'=>∃ u,r=.ret u/\Fresh H' u v)
  (H2:AHeap) (ha:∀ r,r∈rs->H2.get r=(av h).get r):ae E.P E.G f args H2 fun r H'=>r=.ret v/\H'=H2:=by
 obtain⟨h1,h2⟩:=nF hm;exact ae.frame hE.gok h1 (fun i hi hi'=>let ⟨ri,h3,h4⟩:=h2 i hi hi';B8 40 h3 H2 fun r hr=>ha r (h4 r hr)) hc
theorem MC (hE:EOk E)(hI:gO E ih){f:FuncId}{first cap args:List AVal}{h:EH}{r:RR}(hv:VH h)(hr:xS E ih f first cap args h=some r):ye E f (first++args++cap) h r:=by
 unfold xS at hr;split at hr
 ·rw[iF]at hr;split at hr
  ·exact mr hI hv hr
  ·rename_i l hl;unfold BC at hr;split at hr
   ·cases hr
   ·rename_i p hm;split at hr
    ·rename_i v hk;have:r=.ret v h:=(Option.some.inj hr).symm;subst this;refine⟨.ret v,h,⟨rfl,rfl⟩,hv,fun K hK=>?_⟩;exact(Ce hE hm (hE.known f l hl _ _ (Cb hk)) (av h) fun _ _=>rfl).mono fun x H' ⟨h1,h2⟩=>by rw[h1,h2];exact hK
    ·exact mr hI hv hr
 ·rename_i z hz;rw[iF]at hr;unfold By at hr;split at hr
  ·rename_i g cap2 heq;rw[heq];split at hr
   ·rename_i p hm;obtain⟨hlt,hr⟩:=fW hr;have hview:∀ H2:AHeap,(∀ id,id<(av h).next->H2.get id=(av h).get id)->∀ i (h:i<cap2.length) (h':i<p.1.length),Fz (fun _=>True) H2 0 cap2[i] p.1[i]:=fun H2 ha i hi hi'=>by
     obtain⟨_,h2⟩:=nF hm;obtain⟨ri,h3,h4⟩:=h2 i hi hi';refine B8 40 h3 H2 fun r hr=>ha r ?_;have:=Tf.1 hlt r (h4 r hr);rw[Vx]at this;exact this
    unfold Bx at hr;split at hr
    ·rename_i u hgo;obtain⟨hok,hr⟩:=fW hr;have:r=.ret (.tup [u,.lit (.int .i64 0)]) h:=(Option.some.inj hr).symm;subst this;refine⟨_,h,⟨rfl,rfl⟩,hv,fun K hK=>?_⟩;exact(hE.gd f z hz g cap2 p.1 (av h) (some u) (nF hm).1 hview (fun _ h=>by cases h;exact hok) (Cd hI hgo)).mono fun x H' ⟨h1,h2⟩=>by rw[h1,h2];exact hK
    ·rename_i hgo;have:r=.ret (.tup [z.z,.lit (.int .i64 6)]) h:=(Option.some.inj hr).symm;subst this;refine⟨_,h,⟨rfl,rfl⟩,hv,fun K hK=>?_⟩;exact(hE.gd f z hz g cap2 p.1 (av h) none (nF hm).1 hview (fun _ h=>by cases h) (Cd hI hgo)).mono fun x H' ⟨h1,h2⟩=>by rw[h1,h2];exact hK
    ·cases hr
   ·cases hr
  ·cases hr
theorem ry {h:EH}{id:Nat}{st:LoopState}{pend:Option Code}{n:Nat}{env:BT AVal}{ps:Array Tmp}{asg body:Code}(hg:aW h.hp id=some (.loop st pend n env ps asg body)):
  (av h).get id=some (.loop st pend n (aE env) ps asg body):=by
 show Option.map EBlk.kj (aW h.hp id)=_;rw[hg];rfl
theorem VH.set {h:EH}(hv:VH h){hp:BT EBlk}{id:Nat}{b:EBlk}(hs:∀ m,aW hp m=if m=id then some b else aW h.hp m)(hid:id<h.nx):VH ⟨hp,h.nx⟩:=by
 intro j x hj;rw[hs]at hj;show j<h.nx;split at hj
 ·omega
 ·exact hv _ _ hj
theorem yi {h:EH}{hp:BT EBlk}{id:Nat}{b:EBlk}(hs:∀ m,aW hp m=if m=id then some b else aW h.hp m):av ⟨hp,h.nx⟩=(av h).upd id b.kj:=by
 rw[um (nx:=h.nx) hs];rfl
theorem MD (hI:gO E ih){id:Nat}{args:List AVal}{h:EH}{r:RR}(hv:VH h)(hr:xR ih id args h=some r):yg E (.yld id) args h r:=by
 unfold xR at hr;split at hr
 ·rename_i pend n env ps asg body hg;obtain ⟨hok,hr1⟩:=fW hr;unfold BB at hok;simp only [Th] at hok;obtain ⟨hokB,hf1,hf2,hps⟩:=hok;obtain ⟨e0,hr2,hlen,he0⟩:=Mx hr1;have hget:=ry hg;have hid : id<h.nx:=hv _ _ hg
    -- the rule of a round
  have rule:∀ K:ARes->AHeap->Prop,W E.P E.G n (some id) asg (Bo E.P E.G n id body K) ⟨aE e0,av h⟩->aB E.P E.G (.yld id) args (av h) K:=fun K hW=>by
   refine aB.yld hget (by simpa using hlen) hps ?_;rw[Mz hokB,<- he0];exact hW
  unfold Bz at hr2;split at hr2
  ·rename_i e1 h1 hi;obtain⟨x,e2,h2,h3,h4,h5⟩:=hI _ _ _ _ _ _ hi hv hf1;cases h3;split at hr2
   ·rename_i pend2 n2 env2 ps2 asg2 body2 hg1;obtain ⟨hp1,hr3,hs1⟩:=mn _ _ _ _ _ hr2;have hget1:=ry hg1;have hv1 : VH ⟨hp1,h1.nx⟩:=h4.set hs1 (h4 _ _ hg1);have hup1:=yi (h:=h1) hs1;have mk : ∀ (x2 : AX) (e3 : BT AVal) (h3 : EH) (st : LoopState) (pd : Option Code) (b : Bool),ih (some id) n body e1 ⟨hp1,h1.nx⟩=some (.ev x2 e3 h3)→qX id st pd b h3=some r →
      (∀ K:ARes->AHeap->Prop,w7 id K x2 ⟨aE e3,av h3⟩=bd (me st pd ((av h3).get id)) fun blk=>K (.ret (.lit (.bool b))) ((av h3).upd id blk))->yg E (.yld id) args h r:=by
     intro x2 e3 h3 st pd b hi2 hre hq;obtain⟨x',e',h',h6,h7,h8⟩:=hI _ _ _ _ _ _ hi2 hv1 hf2;cases h6;unfold qX at hre;split at hre
     ·rename_i n3 env3 ps3 asg3 body3 hg3;obtain⟨hp3,hr4,hs3⟩:=mn _ _ _ _ _ hre;have hr5:r=.ret (.lit (.bool b)) ⟨hp3,h3.nx⟩:=(Option.some.inj hr4).symm;subst hr5;have hup3:=yi (h:=h3) hs3;refine⟨_,_,⟨rfl,rfl⟩,h7.set hs3 (h7 _ _ hg3),fun K hK=>rule K (h5 _ ?_)⟩;refine⟨_,by rw[hget1];rfl,?_⟩;have hbusy:(av h1).upd id (.loop .busy pend2 n2 (aE env2) ps2 asg2 body2)=av ⟨hp1,h1.nx⟩:=hup1.symm;show W E.P E.G n (some id) body (w7 id K) ⟨aE e1,(av h1).upd id (.loop .busy pend2 n2 (aE env2) ps2 asg2 body2)⟩;rw[hbusy];refine h8 _ ?_;rw[hq];refine⟨.loop st pd n3 (aE env3) ps3 asg3 body3,by rw[ry hg3];rfl,?_⟩;rw[hup3]at hK;exact hK
     ·cases hre
    unfold endRound at hr3;split at hr3
    ·rename_i e3 h3 hi2;exact mk _ _ _ _ _ _ hi2 hr3 fun _=>rfl
    ·rename_i e3 h3 hi2;exact mk _ _ _ _ _ _ hi2 hr3 fun _=>rfl
    ·rename_i i e3 h3 hi2;exact mk _ _ _ _ _ _ hi2 hr3 fun _=>rfl
    ·cases hr3
   ·cases hr2
  ·cases hr2
 ·cases hr
theorem ME (hE:EOk E)(hI:gO E ih){fv:AVal}{args:List AVal}{h:EH}{r:RR}(hv:VH h)(hr:tC E ih fv args h=some r):yg E fv args h r:=by
 unfold tC at hr;split at hr
 ·rename_i f first cap
  split at hr
  ·obtain⟨x,h',h1,h2,h3⟩:=MC hE hI hv hr;exact⟨x,h',h1,h2,fun K hK=>aB.clo (h3 K hK)⟩
  ·rename_i e he;unfold BD at hr;split at hr
   ·rename_i hfc;obtain⟨rfl,rfl⟩:=VU.1 hfc;rw[iF]at hr;split at hr
    ·rename_i v hv2;rw[px]at hr;have:r=.ret v h:=(Option.some.inj hr).symm;subst this;exact⟨_,h,⟨rfl,rfl⟩,hv,fun K hK=>hE.ext f e he _ _ hv2 _ _ hK⟩
    ·cases hr
   ·cases hr
 ·exact MD hI hv hr
 ·cases hr
theorem uw {h:EH}{rd:Option Nat}(hr:pg h rd=true):ef (av h) rd:=by
 unfold pg at hr;split at hr
 ·trivial
 ·rename_i id;split at hr
  ·rename_i st pend n env ps asg body hg;exact⟨st,pend,n,aE env,ps,asg,body,ry hg⟩
  ·cases hr
abbrev Rest (r:RR)(KQ:(AX->St->Prop)->St->Prop)(env:BT AVal)(h:EH):Prop :=
 ∃ x e2 h2,r=.ev x e2 h2/\VH h2/\∀ Q:AX->St->Prop,Q x ⟨aE e2,av h2⟩->KQ Q ⟨aE env,av h⟩
theorem MF {P:Program}{H:AHeap}{op:BinOp}{t:TypeId}{x y:Operand}{a b v:AVal}(h:bh P op t x y a b=some v):iB H op a b=none:=by
 cases hn:iB H op a b with
 | none=>rfl
 | some c =>
  exfalso;unfold iB at hn;unfold bh at h;split at hn
  ·cases a<;>simp_all [AVal.cq]
  ·cases a<;>simp_all [AVal.cq]
  ·cases hn
theorem MG {P:Program}{G:Nat->Option (List AVal)}{rd:Option Nat}{Q:AX->St->Prop}{o:Oper}{K:St->Prop}{s:St}{v:AVal}{H':AHeap}(hop:aj P G s.ρ s.H s.H.next o.op=some (v,H'))(hk:K ⟨aI s.ρ o.dst v,H'⟩):aU P G rd Q o K s:=by
 unfold aU;split
 ·rename_i h;rw[h]at hop;simp [aj]at hop
 ·rename_i h;rw[h]at hop;simp [aj]at hop
 ·rename_i op t x y u h;rw[h]at hop;have hb:(bh P op t x y (ak G s.ρ x) (ak G s.ρ y)).map (fun v=>(v,s.H))=some (v,H'):=hop;simp only[SL,Prod.mk.injEq]at hb;obtain⟨v',hb1,_,_⟩:=hb;rw[MF hb1];exact⟨(v,H'),hop,hk⟩
 ·exact⟨(v,H'),hop,hk⟩
theorem MH (hE:EOk E)(hI:gO E ih){rd:Option Nat}{o:Oper}{k:BT AVal->EH->R}{env:BT AVal}{h:EH}{r:RR}{KQ:(AX->St->Prop)->St->Prop}(hv:VH h)
  (hk:∀ env' h',VH h'->k env' h'=some r->Rest r KQ env' h') (hr:ub o.op E ih rd o.dst k env h=some r):Rest r (fun Q=>aU E.P E.G rd Q o (KQ Q)) env h:=by
 rcases Mt hv hr with ⟨v,env',h',hop,hv',he,hkr⟩|⟨op,t,x,y,u,env',hop,hn,hs,he,hkr⟩|⟨fv,args,ats,hop,hrv⟩|⟨x,hop,hrp⟩
 ·obtain⟨x,e2,h2,h3,h4,h5⟩:=hk _ _ hv' hkr;refine⟨x,e2,h2,h3,h4,fun Q hq=>MG (v:=v) (H':=av h') hop ?_⟩;have:=h5 Q hq;rw[he]at this;exact this
 ·obtain⟨x',e2,h2,h3,h4,h5⟩:=hk _ _ hv hkr;refine⟨x',e2,h2,h3,h4,fun Q hq=>?_⟩;unfold aU;rw[hop];simp only;rw[hn];refine⟨hs,fun b hb=>?_⟩;have hb':=hb rfl;subst hb';have:=h5 Q hq;rw[he]at this;cases hnq:(op == BinOp.neq)<;>rw[hnq]at this<;>exact this
 ·unfold xU at hrv;rw [py,cQ] at hrv;unfold BE at hrv;have key : ∀ {x : ARes} {h' : EH} {r0 : RR},tC E ih (ak E.G (aE env) fv) (args.toList.map (ak E.G (aE env))) h=some r0→yd r0 x h'→VH h'∧∀ (Q : AX→St→Prop),(ef (av h') rd∧match (x : ARes) with
    | .ret v=>KQ Q ⟨aI (aE env) o.dst v,av h'⟩
    | .panic=>Q .panic ⟨aE env,av h'⟩)->aU E.P E.G rd Q o (KQ Q) ⟨aE env,av h⟩:=by
   intro x h' r0 happ hc;obtain⟨x2,h2,hc2,hv2,hK⟩:=ME hE hI hv happ;have hx:x2=x/\h2=h':=by
    cases r0 with
    | ret v h0=>exact⟨hc2.1.trans hc.1.symm,hc2.2.trans hc.2.symm⟩
    | panic h0=>exact⟨hc2.1.trans hc.1.symm,hc2.2.trans hc.2.symm⟩
    | ev=>exact hc.elim
   obtain⟨rfl,rfl⟩:=hx;refine⟨hv2,fun Q hq=>?_⟩;unfold aU;rw[hop];exact hK _ hq
  split at hrv
  ·rename_i v h' happ;obtain⟨hrd,hrv2⟩:=fW hrv;obtain⟨hv',hq⟩:=key happ (x:=.ret v) (h':=h') ⟨rfl,rfl⟩;obtain⟨env',h1,h2⟩:=lj hrv2;obtain⟨x,e2,h3,h4,h5,h6⟩:=hk _ _ hv' h1;refine⟨x,e2,h3,h4,h5,fun Q hQ=>hq Q ⟨uw hrd,?_⟩⟩;have:=h6 Q hQ;rw[h2]at this;exact this
  ·rename_i h' happ;obtain⟨hrd,hrv2⟩:=fW hrv;obtain⟨hv',hq⟩:=key happ (x:=.panic) (h':=h') ⟨rfl,rfl⟩;exact⟨.panic,env,h',(Option.some.inj hrv2).symm,hv',fun Q hQ=>hq Q ⟨uw hrd,hQ⟩⟩
  ·cases hrv
 ·unfold xT at hrp;split at hrp
  ·rename_i t v heq;refine⟨.panic,env,h,(Option.some.inj hrp).symm,hv,fun Q hq=>?_⟩;unfold aU;rw[hop];exact⟨⟨t,v,heq⟩,hq⟩
  ·cases hrp
theorem Cf {all:Array Oper}{ρ:Env}{o:Oper}{yes no:R}{r:RR}(hr:po all ρ o.guard yes no=some r):(eK all ρ o=some true/\yes=some r)\/(eK all ρ o=some false/\no=some r):=by
 unfold po at hr;unfold eK;cases hg:o.guard with
 | none=>rw[hg]at hr;exact .inl ⟨rfl,hr⟩
 | some jw =>
  obtain⟨j,want⟩:=jw;rw[hg]at hr;have hr2:xW all ρ yes no (j,want)=some r:=hr;unfold xW at hr2;simp only at hr2 ⊢;split at hr2
  ·rename_i d hd;rw[hd];simp only;split at hr2
   ·rename_i b hb;rw[hb];cases hbw:b == want with
    | true=>rw[hbw]at hr2;exact .inl ⟨by show some (b == want)=_;rw[hbw],hr2⟩
    | false=>rw[hbw]at hr2;exact .inr ⟨by show some (b == want)=_;rw[hbw],hr2⟩
   ·rename_i v hnb hb;rw[hb];exact .inr ⟨by cases v<;>first|rfl|exact absurd rfl (hnb _),hr2⟩
   ·cases hr2
  ·rename_i hd;rw[hd];exact .inr ⟨rfl,hr2⟩
theorem Cg (hE:EOk E)(hI:gO E ih){rd:Option Nat}{all:Array Oper}{r:RR}:∀ (l:List Oper) (env:BT AVal) (h:EH),VH h->pq E ih rd all l env h=some r->Rest r (fun Q=>opsV E.P E.G rd Q all l) env h:=by
 intro l
 induction l with
 | nil=>exact fun env h hv hr=>⟨.normal,env,h,(Option.some.inj hr).symm,hv,fun Q hq=>hq⟩
 | cons o l ihl =>
  intro env h hv hr;have hr1:po all (aE env) o.guard (ub o.op E ih rd o.dst (pq E ih rd all l) env h) (fo env o.dst (.lit undef) fun env=>pq E ih rd all l env h)=some r:=hr;rcases Cf hr1 with ⟨hw,hr2⟩|⟨hw,hr2⟩
  ·obtain⟨x,e2,h2,h3,h4,h5⟩:=MH hE hI (KQ:=fun Q=>opsV E.P E.G rd Q all l) hv (fun env' h' hv' hk=>ihl env' h' hv' hk) hr2;exact⟨x,e2,h2,h3,h4,fun Q hq=>⟨true,hw,h5 Q hq⟩⟩
  ·obtain⟨env',h1,h2⟩:=lj hr2;obtain⟨x,e2,h2',h3,h4,h5⟩:=ihl env' h hv h1;refine⟨x,e2,h2',h3,h4,fun Q hq=>⟨false,hw,?_⟩⟩;have:=h5 Q hq;rw[h2]at this;exact this
theorem pB {I:Machine->Prop}{P:Program}{m t m1:Machine}(h:StepsIn I P m t)(hs:step P m=.next m1)(hne:m≠t):StepsIn I P m1 t:=by
 cases h with
 | refl=>exact absurd rfl hne
 | head hI h' h'' =>
  rw[hs]at h';cases h';exact h''
theorem ux {b b':Frame}{a a':Act}{k k':List Item}{cs cs':List Frame}{w w':World}(h:k≠k'):lone (b.atR a k) cs w≠lone (b'.atR a' k') cs' w':=by
 intro he;simp only[lone,Machine.mk.injEq,Array.mk.injEq,List.cons.injEq,Goroutine.mk.injEq,Frame.atR,Frame.mk.injEq]at he;exact h he.2.1.1.1.2.2.1
theorem Ch {b b':Frame}{a a':Act}{k k':List Item}{cs cs':List Frame}{w w':World}{u:FrameMode}(h:u≠.run):lone (b.atR a k) cs w≠lone { b'.atR a' k' with mode:=u } cs' w':=by
 intro he;simp only[lone,Machine.mk.injEq,Array.mk.injEq,List.cons.injEq,Goroutine.mk.injEq,Frame.atR,Frame.mk.injEq]at he;exact h he.2.1.1.1.2.2.2.2.1.symm
theorem MI {id:Nat}:∀ {k k':List Item},exitTo id k=some k'->k'.length<=k.length:=by
 intro k
 induction k with
 | nil=>intro k' h;cases h
 | cons x k ih =>
  intro k' h;have hle:exitTo id k=some k'->k'.length<=(x :: k).length:=fun h=>Nat.le_succ_of_le (ih h);cases x with
  | inBlock id' =>
   simp only[exitTo]at h;split at h
   ·cases h;simp
   ·exact hle h
  | _=>exact hle h
theorem W.MJ {P:Program}{G:Nat->Option (List AVal)}{n:Nat}{rd:Option Nat}{c:Code}{Q:AX->St->Prop}{s:St}(hQ:∀ l s,¬ Q (.goto l) s)(h:W P G n rd c (iA (W P G n rd (.loop c) Q) Q) s):W P G n rd (.loop c) Q s:=by
 intro wb Γ a w rb hs hr b k cs hro hb hrm;have h0:(lone (b.atR a (.code (.loop c) :: k)) cs w).fenced P (dz rb):=fenced_calm hb hrm rfl;obtain⟨e,a₁,w₁,⟨x,s₁,Γ₁,hx,hq,hs₁,E₁,hn₁,hr₁,hf₁⟩,harr⟩:=h wb Γ a w rb hs hr b (.inLoop c :: k) cs hro hb hrm;cases e with
 | normal =>
  cases x with
  | normal =>
   obtain⟨e,a₂,w₂,hp,harr₂⟩:=hq wb Γ₁ a₁ w₁ rb hs₁ hr₁ b k cs hro hb hrm;have hp':=hp.step E₁ hn₁ hf₁ fun t ht=>ht;refine⟨e,a₂,w₂,hp',?_⟩;have start:StepsIn (Machine.fenced P (dz rb)) P (lone (b.atR a (.code (.loop c) :: k)) cs w) (lone (b.atR a₁ (.code c :: .inLoop c :: k)) cs w₁) :=
    .head h0 stepR_loop (StepsIn.trans harr (.one (fenced_calm hb hrm rfl) stepR_inLoop))
   obtain⟨y,s₂,Γ₂,hy,hq₂,_⟩:=hp;have hl:∀ (k':List Item),k'.length<=k.length->Item.code (.loop c) :: k≠k':=fun k' hk' he=>by subst he;simp only[List.length_cons]at hk';omega
   cases e with
   | normal=>exact start.trans (pB harr₂ stepR_loop (ux (hl _ (Nat.le_refl _))))
   | exit id =>
    refine⟨fun k' hk'=>start.trans (pB (harr₂.1 k' hk') stepR_loop (ux (hl _ (MI hk')))),fun hr2 hk'=>?_⟩;obtain⟨k₁,h1,h2⟩:=harr₂.2 hr2 hk';exact⟨k₁,h1,start.trans (pB h2 stepR_loop (ux (k':=.code (.exit id) :: k₁) (fun he=>by cases he)))⟩
   | goto l=>cases y with
    | goto l'=>exact absurd hq₂ (hQ _ _)
    | _=>exact hy.elim
   | ret =>
    refine⟨fun hr2=>?_,fun hr2=>?_⟩
    ·obtain⟨todo,h1⟩:=harr₂.1 hr2;exact⟨todo,start.trans (pB h1 stepR_loop (Ch (fun he=>by cases he)))⟩
    ·obtain⟨k₁,h1⟩:=harr₂.2 hr2;exact⟨k₁,start.trans (pB h1 stepR_loop (ux (k':=.code .ret :: k₁) (fun he=>by cases he)))⟩
   | panic ch =>
    obtain⟨todo,h1⟩:=harr₂;exact⟨todo,start.trans (pB h1 stepR_loop (Ch (fun he=>by cases he)))⟩
   | outgrown=>cases y<;>exact hy.elim
  | _=>exact hx.elim
 | exit id=>cases x with
  | exit j=>exact⟨_,a₁,w₁,⟨.exit j,s₁,Γ₁,hx,hq,hs₁,E₁,hn₁,hr₁,hf₁⟩,.of_steps (.one h0 stepR_loop) (.pass (x:=.inLoop c) rfl (fun _ _=>.inl (by simp)) harr)⟩
  | _=>exact hx.elim
 | goto id=>cases x with
  | goto j=>exact⟨_,a₁,w₁,⟨.goto j,s₁,Γ₁,hx,hq,hs₁,E₁,hn₁,hr₁,hf₁⟩,.of_steps (.one h0 stepR_loop) (.pass (x:=.inLoop c) rfl (fun _ _=>.inl (by simp)) harr)⟩
  | _=>exact hx.elim
 | ret=>cases x with
  | ret=>exact⟨_,a₁,w₁,⟨.ret,s₁,Γ₁,hx,hq,hs₁,E₁,hn₁,hr₁,hf₁⟩,.of_steps (.one h0 stepR_loop) (.pass (x:=.inLoop c) rfl (fun _ _=>.inl (by simp)) harr)⟩
  | _=>exact hx.elim
 | panic ch=>cases x with
  | panic=>exact⟨_,a₁,w₁,⟨.panic,s₁,Γ₁,hx,hq,hs₁,E₁,hn₁,hr₁,hf₁⟩,.of_steps (.one h0 stepR_loop) (.pass (x:=.inLoop c) rfl (fun _ _=>.inl (by simp)) harr)⟩
  | _=>exact hx.elim
 | outgrown=>cases x<;>exact hx.elim
theorem Ci {b:Nat}{f:FP}{acc:List (Nat × FP)}(h:xX b f acc=true):fS b f acc:=by
 intro p hp hb;have:=Tf.1 h p hp;rw[hb,VS,Th,Tf,Tf]at this;refine⟨fun r hr hr2=>?_,fun r hr hr2=>?_⟩
 ·have:=this.1 r hr;simp [hr2]at this
 ·have:=this.2 r hr;simp [hr2]at this
theorem lZ.MK {P:Program}{G:Nat->Option (List AVal)}{fv:AVal}{args:List AVal}{H:AHeap}{v:AVal}{rs:List Nat}(h1:∀ r,r∈rs->r<H.next)
  (h2:∀ H2:AHeap,(∀ r,r∈rs->H2.get r=H.get r)->aB P G fv args H2 fun r H3=>r=.ret v/\H3=H2):Ev.lZ P G fv args H v (fun _=>none) 0 ⟨[],rs⟩ :=
 ⟨h1,fun r (hr:false=true)=>absurd hr (by decide),fun c hc=>absurd hc (S7 _),fun H2 ha _ _=>h2 H2 ha⟩
def pC (E:EP)(fv:AVal)(args:List AVal)(h:EH)(k:AVal->FP->EH->R)(r:RR):Prop :=
 ∃ v e n fp h2,k v fp h2=some r/\VH h2/\av h2=⟨Ev.cP e (av h).get,(av h).next+n⟩/\Ev.lZ E.P E.G fv args (av h) v e n fp
theorem pC.pure {fv:AVal}{args:List AVal}{h:EH}{k:AVal->FP->EH->R}{r:RR}{v:AVal}{rs:List Nat}(hv:VH h)(hk:k v ⟨[],rs⟩ h=some r)(h1:∀ r,r∈rs->r<(av h).next)
  (h2:∀ H2:AHeap,(∀ r,r∈rs->H2.get r=(av h).get r)->aB E.P E.G fv args H2 fun r H3=>r=.ret v/\H3=H2):pC E fv args h k r :=
 ⟨v,_,0,_,h,hk,hv,rfl,lZ.MK h1 h2⟩
theorem Cj {l:List Nat}{n:Nat}(h:(l.all fun r=>Nat.blt r n)=true):∀ r,r∈l->r<n:=fun r hr=>by
 have:=Tf.1 h r hr;rw[Vx]at this;exact this
theorem yj (hE:EOk E)(hI:gO E ih){f:FuncId}{first cap args:List AVal}{h:EH}{k:AVal->FP->EH->R}{r:RR}(hv:VH h)(hr:uc E ih f (first++args++cap) h k=some r):pC E (.clo f first cap) args h k r:=by
 obtain⟨kp,hr1,hinv⟩:=mu (fun v acc k r=>MU 40 v acc k r) hr;have hgood:∀ id,id∈kp->pE h 0 [] kp id:=fun id hid=>(hinv.2 id hid).resolve_left (List.not_mem_nil);have hkn:∀ id,id∈kp->id<h.nx:=fun id hid=>let ⟨_,g,e,c,hg,_⟩:=hgood id hid;hv id _ hg
 unfold BM at hr1;split at hr1
 ·rename_i p hp;obtain⟨hfz,hr2⟩:=fW hr1;obtain⟨hp1,hr3,hget⟩:=MW hr2;have hvs:VH ⟨hp1,h.nx⟩:=by
   intro id b hb;have hb':aW hp1 id=some b:=hb;rw[hget]at hb';split at hb'
   ·exact hv id b hb'
   ·cases hb'
  unfold BL at hr3;split at hr3
  ·rename_i v h' hc;obtain⟨x,h2,hcr,hv2,hK⟩:=mr hI hvs hc;obtain⟨rfl,rfl⟩:=hcr;unfold BK at hr3;split at hr3
   ·rename_i lv hle hsame hlv;obtain⟨hi2,hcl⟩:=Cn 40 v [] lv hlv;have hgl:∀ id,id∈lv->pE h2 h.nx kp lv id:=fun id hid=>(hi2.2 id hid).resolve_left (List.not_mem_nil);have hln:∀ id,id∈lv->id<h2.nx:=fun id hid=>let ⟨_,g,e,c,hg,_⟩:=hgl id hid;hv2 id _ hg
    have hle':h.nx<=h2.nx:=Up hle;obtain⟨t',hr4,hnew⟩:=M0 hr3;rw[ig]at hr4;have hKin:∀ id,iH h.nx kp lv id->(id∈kp\/(h.nx<=id/\id<h2.nx/\eM lv id=true)):=by
     rintro id (⟨h1,h3⟩|⟨h1,h3⟩)
     ·exact .inl h3
     ·exact .inr ⟨by omega,hln id h3,kz.2 h3⟩
    obtain⟨hm1,hm2⟩:=nF hp;have hE1:=Ev.lZ.mk (P:=E.P) (G:=E.G) (f:=f) (first:=first) (cap:=cap) (args:=args) (args':=p.1) (v:=v) (H:=av h) (av ⟨hp1,h.nx⟩) (av h2) (fun id=>id∈kp) (eM lv) (kp++p.2) hE.gok
     (fun r hr=>by
      rcases Ta.1 hr with hr|hr
      ·exact hkn r hr
      ·exact Cj hfz r hr)
     rfl hle'
     (fun id hid=>by
      obtain⟨_,g,e,c,hg,hcc⟩:=hgood id hid;refine⟨Uu _ hid,?_,?_,g,e,c,mq hg,fun i hi=>(hcc i hi).mono fun j hj=>hj.elim (fun h=>absurd h.1 (S7 _)) fun h=>h.2⟩
      ·show Option.map _ (aW hp1 id)=Option.map _ (aW h.hp id);rw[hget,SQ hid]
      ·show Option.map _ (aW h2.hp id)=Option.map _ (aW h.hp id);rw[<- MZ (MT hsame id hid)])
     (fun id hid=>by
      show Option.map _ (aW hp1 id)=none;rw[hget,SO hid];rfl)
     hm1
     (fun H2 ha i hi hi'=>by
      obtain⟨ri,h3,h4⟩:=hm2 i hi hi';exact MV hkn 40 h3 H2 fun r hr=>ha r (Ud _ (h4 r hr)))
     (hK _ ⟨rfl,rfl⟩)
     (hcl.mono hKin)
     (fun id h1 h3 h4=>by
      obtain⟨_,g,e,c,hg,hcc⟩:=hgl id (kz.1 h4);exact⟨g,e,c,mq hg,fun i hi=>(hcc i hi).mono hKin⟩)
    refine⟨v,_,_,_,⟨t',h2.nx⟩,hr4,?_,?_,hE1⟩
    ·intro id b hb;have hb':aW t' id=some b:=hb;rw[hnew]at hb';show id<h2.nx;split at hb'
     ·rename_i hc;have:Nat.sub h2.nx h.nx=h2.nx - h.nx:=rfl;rw[this]at hc;omega
     ·have:=hv id b hb';omega
    ·have hget2:(av ⟨t',h2.nx⟩).get=Ev.cP (Ev.jA (av h).next (av h2).next (eM lv) (av h2).get) (av h).get:=by
      funext m
      show Option.map EBlk.kj (aW t' m)=_;rw[hnew];have hsub:h.nx+Nat.sub h2.nx h.nx=h2.nx:=by
       have:Nat.sub h2.nx h.nx=h2.nx - h.nx:=rfl;omega
      rw[hsub];unfold Ev.cP Ev.jA;by_cases hc:h.nx<=m/\m<h2.nx
      ·rw[SQ hc,SQ (show (av h).next<=m/\m<(av h2).next from hc)];by_cases hm:eM lv m=true
       ·obtain⟨_,g,e,c,hg,hcc⟩:=hgl m (kz.1 hm);rw[SQ hm,SQ hm,mq hg,hg];rfl
       ·rw[SO hm,SO hm];rfl
      ·rw[SO hc,SO (show ¬ ((av h).next<=m/\m<(av h2).next) from hc)];rfl
     have hnx:(av ⟨t',h2.nx⟩).next=(av h).next+((av h2).next - (av h).next):=by
      show h2.nx=h.nx+(h2.nx - h.nx)
      omega
     calc av ⟨t',h2.nx⟩=⟨(av ⟨t',h2.nx⟩).get,(av ⟨t',h2.nx⟩).next⟩:=rfl
      _=_:=by rw[hget2,hnx]
   ·cases hr3
  ·cases hr3
 ·cases hr1
theorem ML (hE:EOk E)(hI:gO E ih){fv:AVal}{args:List AVal}{h:EH}{k:AVal->FP->EH->R}{r:RR}(hv:VH h)(hr:xY E ih fv args h k=some r):pC E fv args h k r:=by
 unfold xY at hr;split at hr
 ·rename_i f first cap
  split at hr
  ·unfold BO at hr;split at hr
   ·cases hr
   ·rw[iF]at hr;split at hr
    ·exact yj hE hI hv hr
    ·rename_i l hl;unfold BN at hr;split at hr
     ·exact yj hE hI hv hr
     ·rename_i p hm;split at hr
      ·rename_i v hf;obtain⟨hlt,hr2⟩:=fW hr;exact pC.pure hv hr2 (Cj hlt) fun H2 ha=>aB.clo (Ce hE hm (hE.known f l hl p.1 v (Cb hf)) H2 ha)
      ·exact yj hE hI hv hr
  ·rename_i e he;unfold BJ at hr;split at hr
   ·rename_i hfc;obtain⟨rfl,rfl⟩:=VU.1 hfc;rw[iF]at hr;split at hr
    ·rename_i v hv2;exact pC.pure hv hr (fun r hr=>by cases hr) fun H2 _=>hE.ext f e he _ _ hv2 _ _ ⟨rfl,rfl⟩
    ·cases hr
   ·cases hr
 ·cases hr
theorem MM (hE:EOk E)(hI:gO E ih){o:Oper}{b i:Nat}{acc:List (Nat × FP)}{k:pr}{env:BT AVal}{h:EH}{r:RR}{KQ:(AX->St->Prop)->List (Nat × FP)->St->Prop}(hv:VH h)
  (hk:∀ acc env' h',VH h'->k acc env' h'=some r->Rest r (fun Q=>KQ Q acc) env' h') (hr:ue E ih o b i acc k env h=some r):
  Rest r (fun Q s=>Ev.cD E.P E.G o (fun f s'=>fS b f acc/\KQ Q (eU i f acc) s') s) env h:=by
 have gen:∀ {op:Op},o.op=op->ud o.dst b i acc k env (bt E.P E.G (aE env) h.nx op) (nC E env h op) h=some r->(∀ fv args ats,op≠.call ⟨.value fv,args,ats⟩) ->
   Rest r (fun Q s=>Ev.cD E.P E.G o (fun f s'=>fS b f acc/\KQ Q (eU i f acc) s') s) env h:=by
  intro op hop hd hne;unfold ud at hd;obtain⟨hap,hd2⟩:=fW hd;obtain⟨v,h',h1,h2,h3⟩:=B1 hv (uu hv).1 hd2;obtain⟨env',h4,h5⟩:=lj h3;obtain⟨x,e2,h6,h7,h8,h9⟩:=hk _ _ _ h2 h4;refine⟨x,e2,h6,h7,h8,fun Q hq=>?_⟩;have hopA:=(uu hv).2 _ _ h1;have hq2:=h9 Q hq;rw[h5]at hq2;unfold Ev.cD;split
  ·rename_i hop2;exact absurd (hop.symm.trans hop2) (hne _ _ _)
  ·refine⟨(v,av h'),by rw[hop];exact hopA,?_⟩;rw[hop];exact⟨Ci hap,hq2⟩
 unfold ue at hr;split at hr
 ·rename_i c hop;split at hr
  ·rename_i fv hc;rw[py,cQ]at hr;obtain⟨v,e,n,fp,h2,hr2,hv2,hH,hec⟩:=ML hE hI hv hr;unfold BP at hr2;obtain⟨hap,hd2⟩:=fW hr2;rw[px]at hd2;obtain⟨env',h4,h5⟩:=lj hd2;obtain⟨x,e2,h6,h7,h8,h9⟩:=hk _ _ _ hv2 h4;refine⟨x,e2,h6,h7,h8,fun Q hq=>?_⟩;have hq2:=h9 Q hq;rw[h5,hH]at hq2;obtain⟨callee,args,ats⟩:=c;simp only at hc;subst hc;unfold Ev.cD;rw[hop];exact⟨v,e,n,fp,hec,Ci hap,hq2⟩
  ·rename_i hne;refine gen hop hr fun fv args ats he=>?_;have he2:c=⟨.value fv,args,ats⟩:=Op.call.inj he;exact hne fv (by rw[he2])
 ·cases hr
 ·rename_i op hne1 hne2;exact gen rfl hr fun fv args ats he=>hne1 _ he
theorem MN (hE:EOk E)(hI:gO E ih){all:Array Oper}{tail:BT AVal->EH->R}{r:RR}{TQ:(AX->St->Prop)->St->Prop}(ht:∀ env h,VH h->tail env h=some r->Rest r TQ env h):
  ∀ (l:List Oper) (bs:List Nat) (i:Nat) (acc:List (Nat × FP)) (env:BT AVal) (h:EH),VH h->uf E ih all tail l bs i acc env h=some r->Rest r (fun Q=>Ev.dy E.P E.G all (TQ Q) bs i acc l) env h:=by
 intro l
 induction l with
 | nil =>
  intro bs i acc env h hv hr;obtain⟨x,e2,h2,h3,h4,h5⟩:=ht env h hv hr;exact⟨x,e2,h2,h3,h4,fun Q hq=>by cases bs<;>exact h5 Q hq⟩
 | cons o l ihl =>
  intro bs i acc env h hv hr;cases bs with
  | nil=>cases hr
  | cons b bs =>
   have hr1:po all (aE env) o.guard (ue E ih o b i acc (uf E ih all tail l bs (i+1)) env h) (fo env o.dst (.lit undef) fun env=>uf E ih all tail l bs (i+1) acc env h)=some r:=hr;rcases Cf hr1 with ⟨hw,hr2⟩|⟨hw,hr2⟩
   ·obtain⟨x,e2,h2,h3,h4,h5⟩:=MM hE hI (KQ:=fun Q acc=>Ev.dy E.P E.G all (TQ Q) bs (i+1) acc l) hv (fun acc env' h' hv' hk=>ihl bs (i+1) acc env' h' hv' hk) hr2;exact⟨x,e2,h2,h3,h4,fun Q hq=>⟨true,hw,h5 Q hq⟩⟩
   ·obtain⟨env',h1,h2⟩:=lj hr2;obtain⟨x,e2,h2',h3,h4,h5⟩:=ihl bs (i+1) acc env' h hv h1;refine⟨x,e2,h2',h3,h4,fun Q hq=>⟨false,hw,?_⟩⟩;have:=h5 Q hq;rw[h2]at this;exact this
theorem Ck {r0:R}{r:RR}(h:pt r0=some r):r0=some r/\∀ l e h,r≠.ev (.goto l) e h:=by
 unfold pt at h;split at h
 ·cases h
 ·rename_i hne;subst h;exact⟨rfl,fun l e h he=>hne l e h (by rw[he])⟩
theorem MO (hE:EOk E)(hI:gO E ih):gO E (BS E ih):=by
 intro rd n c env h r hr hv hf;have seqK:∀ (a:Code) (b:Code),fits n a=true->fits n b=true->rm ih rd n b (ih rd n a env h)=some r ->
   ∃ x env' h',r=.ev x env' h'/\VH h'/\∀ Q:AX->St->Prop,Q x ⟨aE env',av h'⟩->W E.P E.G n rd a (iA (W E.P E.G n rd b Q) Q) ⟨aE env,av h⟩:=by
  intro a b hfa hfb hs;unfold rm at hs;split at hs
  ·rename_i e1 h1 hi;obtain⟨x,e2,h2,h3,h4,h5⟩:=hI _ _ _ _ _ _ hi hv hfa;cases h3;obtain⟨x',e',h',h6,h7,h8⟩:=hI _ _ _ _ _ _ hs h4 hfb;exact⟨x',e',h',h6,h7,fun Q hq=>h5 _ (h8 Q hq)⟩
  ·rename_i r0 hne;obtain⟨x,e2,h2,h3,h4,h5⟩:=hI _ _ _ _ _ _ hs hv hfa;subst h3;refine⟨x,e2,h2,rfl,h4,fun Q hq=>h5 _ ?_⟩;cases x with
   | normal=>exact absurd hs (hne _ _)
   | _=>exact hq
 cases c with
 | skip=>exact⟨.normal,env,h,(Option.some.inj hr).symm,hv,fun Q hq=>.skip hq⟩
 | label l=>exact⟨.normal,env,h,(Option.some.inj hr).symm,hv,fun Q hq=>.label hq⟩
 | exit i=>exact⟨.exit i,env,h,(Option.some.inj hr).symm,hv,fun Q hq=>.exit hq⟩
 | ret=>exact⟨.ret,env,h,(Option.some.inj hr).symm,hv,fun Q hq=>.ret hq⟩
 | goto l=>cases hr
 | refuse w=>cases hr
 | region id ops dr =>
  have hr1:Bool.rec (motive:=fun _=>R) (pq E ih rd ops ops.toList env h) (ug E ih rd ops (mj ops.toList []) (rj (mj ops.toList []) ops.toList.length) env h) dr=some r:=hr;cases dr with
  | false =>
   obtain⟨x,e2,h2,h3,h4,h5⟩:=Cg hE hI ops.toList env h hv hr1;exact⟨x,e2,h2,h3,h4,fun Q hq=>.region hf (h5 Q hq)⟩
  | true =>
   have hr2:ug E ih rd ops (mj ops.toList []) (rj (mj ops.toList []) ops.toList.length) env h=some r:=hr1;unfold ug at hr2;obtain⟨hok,hr3⟩:=fW hr2;obtain⟨x,e2,h2,h3,h4,h5⟩:=MN hE hI (TQ:=fun Q=>opsV E.P E.G rd Q ops (ops.toList.drop (rj (mj ops.toList []) ops.toList.length))) (fun env h hv hr=>Cg hE hI _ env h hv hr) _ _ _ _ env h hv hr3;exact⟨x,e2,h2,h3,h4,fun Q hq=>Ev.W.FW _ _ hE.mixed hf hok (h5 Q hq)⟩
 | seq a b =>
  simp only[fits,Th]at hf;obtain⟨x,e2,h2,h3,h4,h5⟩:=seqK a b hf.1 hf.2 hr;exact⟨x,e2,h2,h3,h4,fun Q hq=>.seq (h5 Q hq)⟩
 | cond x a b =>
  simp only[fits,Th]at hf;have hr1:x6 (ak E.G (aE env) x) (ih rd n a env h) (ih rd n b env h)=some r:=hr;unfold x6 at hr1;split at hr1
  ·rename_i t ht;cases t with
   | true =>
    obtain⟨y,e2,h2,h3,h4,h5⟩:=hI _ _ _ _ _ _ hr1 hv hf.1;exact⟨y,e2,h2,h3,h4,fun Q hq=>.cond ht (h5 Q hq)⟩
   | false =>
    obtain⟨y,e2,h2,h3,h4,h5⟩:=hI _ _ _ _ _ _ hr1 hv hf.2;exact⟨y,e2,h2,h3,h4,fun Q hq=>.cond ht (h5 Q hq)⟩
  ·cases hr1
 | block id b =>
  have hr1:xZ id (ih rd n b env h)=some r:=hr;unfold xZ at hr1;split at hr1
  ·rename_i i e1 h1 hi;obtain⟨x,e2,h2,h3,h4,h5⟩:=hI _ _ _ _ _ _ hi hv hf;cases h3;cases hb:Nat.beq i id with
   | true =>
    rw[hb]at hr1;have:=Tc hb;refine⟨.normal,e1,h1,(Option.some.inj hr1).symm,h4,fun Q hq=>.block (h5 _ ?_)⟩;show (if i=id then Q .normal _ else Q (.exit i) _);rw[SQ this];exact hq
   | false =>
    rw[hb]at hr1;have:¬ i=id:=fun h=>by rw[h]at hb;rw[show Nat.beq id id=true from UI _]at hb;cases hb
    refine⟨.exit i,e1,h1,(Option.some.inj hr1).symm,h4,fun Q hq=>.block (h5 _ ?_)⟩;show (if i=id then Q .normal _ else Q (.exit i) _);rw[SO this];exact hq
  ·rename_i r0 hne;obtain⟨x,e2,h2,h3,h4,h5⟩:=hI _ _ _ _ _ _ hr1 hv hf;subst h3;refine⟨x,e2,h2,rfl,h4,fun Q hq=>.block (h5 _ ?_)⟩;cases x with
   | exit i=>exact absurd hr1 (hne _ _ _)
   | _=>exact hq
 | loop b =>
  have hr1:pt (rm ih rd n (.loop b) (ih rd n b env h))=some r:=hr;obtain⟨hr2,hng⟩:=Ck hr1;obtain⟨x,e2,h2,h3,h4,h5⟩:=seqK b (.loop b) hf hf hr2;refine⟨x,e2,h2,h3,h4,fun Q hq=>(W.MJ (Q:=fun y t=>y=x/\t=⟨aE e2,av h2⟩) (fun l s hx=>?_) (h5 _ ⟨rfl,rfl⟩)).mono fun y t ht=>by rw[ht.1,ht.2];exact hq⟩;subst h3;rw[<- hx.1]at hng;exact hng _ _ _ rfl
 | scope b =>
  have hr1:pt (ih rd n b env h)=some r:=hr;obtain⟨hr2,hng⟩:=Ck hr1;obtain⟨x,e2,h2,h3,h4,h5⟩:=hI _ _ _ _ _ _ hr2 hv hf;subst h3;refine⟨x,e2,h2,rfl,h4,fun Q hq=>.scope (h5 _ ?_)⟩;cases x with
  | goto i=>exact absurd rfl (hng _ _ _)
  | _=>exact hq
 | rangeFunc f ps asg body =>
  have hr1:x7 E ih rd n env h ps asg body (ak E.G (aE env) f)=some r:=hr;unfold x7 at hr1;split at hr1
  ·rename_i g first cap hg
   obtain⟨hp1,hr2,hs1⟩:=mn _ _ _ _ _ hr1;rw[iF]at hr2;have hv1:VH ⟨hp1,h.nx+1⟩:=by
    intro j b hj;rw[hs1]at hj;show j<h.nx+1;split at hj
    ·omega
    ·have:=hv _ _ hj;omega
   have hlay:(av h).lay (av h).next (.loop .ready none n (aE env) ps asg body)=some (av ⟨hp1,h.nx+1⟩):=by
    rw[um (nx:=h.nx+1) hs1];unfold AHeap.lay;rw[SQ rfl];rfl
   have rule:∀ Q:AX->St->Prop,ae E.P E.G g (first++[.yld h.nx]++cap) (av ⟨hp1,h.nx+1⟩) (td rd Q (aE env) h.nx)->W E.P E.G n rd (.rangeFunc f ps asg body) Q ⟨aE env,av h⟩ :=
    fun Q hq=>W.rangeFunc hg ⟨_,hlay,hq⟩
   unfold BQ at hr2;split at hr2
   ·rename_i v h2 hc;obtain⟨x,h3,hcr,hv3,hK⟩:=mr hI hv1 hc;obtain⟨rfl,rfl⟩:=hcr;obtain⟨hrd,hr3⟩:=fW hr2;split at hr3
    ·cases hr3
    ·rename_i st pend n2 env2 ps2 asg2 body2 hne hg3;obtain⟨hp3,hr4,hs3⟩:=mn _ _ _ _ _ hr3;have hup:=yi (h:=h3) hs3;have hv4:=hv3.set hs3 (hv3 _ _ hg3);have hend:qJ ((av h3).get h.nx)=some (pend,.loop .exhausted pend n2 (aE env2) ps2 asg2 body2):=by
      rw[ry hg3];unfold qJ;cases st with
      | busy=>exact(hne rfl).elim
      | _=>rfl
     have fin:∀ x:AX,(∀ Q:AX->St->Prop,Q x ⟨aE env,av ⟨hp3,h3.nx⟩⟩->Bp Q ⟨aE env,av ⟨hp3,h3.nx⟩⟩ pend)->r=.ev x env ⟨hp3,h3.nx⟩ ->
       ∃ x env' h',r=.ev x env' h'/\VH h'/\∀ Q:AX->St->Prop,Q x ⟨aE env',av h'⟩->W E.P E.G n rd (.rangeFunc f ps asg body) Q ⟨aE env,av h⟩:=by
      intro x hx he;refine⟨x,env,_,he,hv4,fun Q hq=>rule Q (hK _ ⟨uw hrd,_,hend,?_⟩)⟩;have:=hx Q hq;rw[hup]at this;exact this
     unfold endLoop at hr4;split at hr4
     ·exact fin .normal (fun Q hq=>hq) (Option.some.inj hr4).symm
     ·exact fin .ret (fun Q hq=>hq) (Option.some.inj hr4).symm
     ·rename_i i;exact fin (.exit i) (fun Q hq=>hq) (Option.some.inj hr4).symm
     ·cases hr4
    ·cases hr3
   ·rename_i h2 hc;obtain⟨x,h3,hcr,hv3,hK⟩:=mr hI hv1 hc;obtain⟨rfl,rfl⟩:=hcr;obtain⟨hrd,hr3⟩:=fW hr2;exact⟨.panic,env,h3,(Option.some.inj hr3).symm,hv3,fun Q hq=>rule Q (hK _ ⟨uw hrd,hq⟩)⟩
   ·cases hr2
  ·cases hr1
theorem MP (hE:EOk E):∀ fuel,gO E (BU E fuel):=by
 intro fuel
 induction fuel with
 | zero=>intro rd n c env h r hr;cases hr
 | succ f ih=>exact MO hE ih
theorem MQ (hE:EOk E){fuel:Nat}{f:FuncId}{args:List AVal}{v:AVal}(h:BV E fuel f args=some v):ae E.P E.G f args bZ fun r H'=>∃ u,r=.ret u/\Fresh H' u v :=
 MB (MP hE fuel) h
end
end Go.Hx
namespace Go.Hx
open Go.ChangeShapes Go.WideShapes Go.RowKit
variable {P:Program} {G:Nat->Option (List AVal)}
def fQ:aC:=fun _=>none
def vU (P:Program)(G:Nat->Option (List AVal))(W:World):Prop:=∀ g cells,G g=some cells->RelV P fQ bZ W (.vptr cells 0) (.pointer (some ⟨g,0,none⟩))/\∃ c e f,W.heap[g]?=some (.cells c e f)/\c.size=cells.length
theorem FH {W:World}(hg:vU P G W):RelH P G fQ bZ W where
 arr _ _ _ _ h:=by cases h
 loop _ _ _ _ _ _ _ _ h:=by cases h
 mp _ _ h:=by cases h
 rsv _ h:=by cases h
 inj _ _ _ _ _ _ _ h:=by cases h
 dom _ _ h:=by cases h
 lt _ _ _ _ h:=by cases h
 next _ _ h:=by cases h
 glob g cells h:=(hg g cells h).1
 gsz g cells h:=(hg g cells h).2
theorem Aa (b:Nat):¬ fQ.fD b:=fun ⟨_,_,_,h⟩=>by cases h
theorem FI {f:FuncId}{args:List AVal}{cargs:Array Value}{W:World}(hA:ae P G f args bZ fun r H'=>∃ u,r=.ret u/\Fresh H' u (.lit (.bool true)))(hg:vU P G W)(hr:da P fQ bZ W args cargs):
  Calls P f cargs W fun e W'=>e=.returned (.bool true)/\RowKit.Below W.heap.size W W'/\∀ a,a.block<W.heap.size->W'.frozen? a=W.frozen? a:=by
 refine callsIn_wide.1 ((hA.2 fQ W cargs (FH hg) hr).mono ?_);rintro e W' ⟨r,H',Γ',hend,⟨u,rfl,hf⟩,_,E,_⟩;cases e with
 | returned cv =>
  have hu:u=.lit (.bool true):=by cases hf;rfl
  subst hu;cases hend;exact⟨rfl,⟨E.os,E.tape,E.output,E.size,fun k hk=>(E.keep k hk (Aa k)).1⟩,E.frz⟩
 | panicked=>exact hend.elim
 | outgrown=>exact hend.elim
theorem FJ {W W':World}(hb:RowKit.Below W.heap.size W W')(may:MemPlace->Prop):W.keptBut W' may:=by
 refine⟨hb.os,hb.output,fun i hi=>?_⟩;rw[hb.block i hi];cases h:W.heap[i]? with
 | none=>rfl
 | some o=>cases o<;>first|exact rfl|exact⟨rfl,rfl,rfl,fun _ _=>rfl⟩|exact .inr ⟨rfl,rfl⟩
theorem FK {H:Type}{enc:TypeId × Value->H}(hl:laidOutB P=true){W W':World}(hb:RowKit.Below W.heap.size W W'){sp:Nat->Bool}:∀ {ts:List TypeId} {vs:List Value} {ds:List (DataW H)} {ps:List MemPlace},
  ts.all (fun t=>P.readableRec t && decide (t<P.types.size))=true->DataW.TrodAll enc P W 0 (fun _=>true) true ts vs ds ps->(∀ x∈ps,x.block<W.heap.size)->(∀ x∈ps,sp x.block=true)->DataW.TrodAll enc P W' 0 sp true ts vs ds ps:=by
 intro ts
 induction ts with
 | nil =>
  intro vs ds ps _ h _ _;cases vs<;>cases ds<;>first|exact h|exact h.elim
 | cons t ts ih =>
  intro vs ds ps hok h hlt hsp;simp only[List.all_cons,Th,decide_eq_true_eq]at hok;cases vs with
  | nil=>cases ds<;>exact h.elim
  | cons v vs=>cases ds with
   | nil=>exact h.elim
   | cons d ds =>
    obtain⟨p,q,h1,h2,rfl⟩:=h;refine⟨p,q,?_,ih hok.2 h2 (fun x hx=>hlt x (by simp [hx])) (fun x hx=>hsp x (by simp [hx])),rfl⟩;exact WideElems.Trod_stays hl hok.1.1 hok.1.2 h1 (fun x hx=>hb.same (hlt x (by simp [hx]))) (fun x hx=>hsp x (by simp [hx]))
theorem FL {H:Type}{enc:TypeId × Value->H}{W:World}{base:Nat}{sp:Nat->Bool}{held:Bool}:∀ {ts:List TypeId} {vs:List Value} {ds:List (DataW H)} {ps:List MemPlace},
  DataW.TrodAll enc P W base sp held ts vs ds ps->vs.length=ts.length/\ds.length=ts.length:=by
 intro ts
 induction ts with
 | nil =>
  intro vs ds ps h;cases vs<;>cases ds<;>first|exact⟨rfl,rfl⟩|exact h.elim
 | cons t ts ih =>
  intro vs ds ps h;cases vs with
  | nil=>cases ds<;>exact h.elim
  | cons v vs=>cases ds with
   | nil=>exact h.elim
   | cons d ds =>
    obtain⟨p,q,_,h2,_⟩:=h;obtain⟨h3,h4⟩:=ih h2;exact⟨by simp [h3],by simp [h4]⟩
theorem FM {H:Type}{enc:TypeId × Value->H}{f:Func}{s:ChangeSpec}{apart fresh handsOn again:Bool}{W W':World}{args:Array Value}{ds gs:List (DataW H)}{before:List MemPlace}{t:TypeId}
  (hl:laidOutB P=true) (hok:f.params.toList.all (fun t=>P.readableRec t && decide (t<P.types.size))=true) (hvars:s.vars=[]) (hrt:f.resultTypes=#[t]) (ht:P.underlying t=some .bool)
  (hs:∀ ds:List (DataW H),ds.length=f.params.toList.length->s.fn H (ds++[])={ results:=[.lit (.bool true)],args:=ds })
  (hW:DataW.Whole enc P f.params.toList s.vars apart W args.toList ds gs before) (hb:RowKit.Below W.heap.size W W') (hfz:∀ a,a.block<W.heap.size->W'.frozen? a=W.frozen? a):s.post enc P f apart fresh handsOn again W args (.bool true) W':=by
 have hW':=hW;obtain⟨p,q,hA,hV,rfl,hz,hn⟩:=hW;have hgs:gs=[]/\q=[]:=by
  rw[hvars]at hV;cases gs with
  | nil=>exact⟨rfl,hV⟩
  | cons=>exact hV.elim
 obtain⟨rfl,rfl⟩:=hgs;have hfn:=hs ds (FL hA).2;have hlt:∀ x∈p,x.block<W.heap.size:=fun x hx=>by simpa using hW'.lt x (by simp [hx])
 have hres:∀ (b:Nat) (sp:Nat->Bool) (hd:Bool),DataW.TrodAll enc P W' b sp hd f.resultTypes.toList ((Value.bool true).resultList f.resultTypes.size) (s.fn H (ds++[])).results []:=fun b sp hd=>by
  rw[hfn,hrt];exact trodAll_mk1 (shut_bool ht true)
 have hargs:∀ sp:Nat->Bool,(∀ x∈p,sp x.block=true)->DataW.TrodAll enc P W' 0 sp true f.params.toList args.toList (s.fn H (ds++[])).args p:=fun sp hsp=>by
  rw[hfn];exact FK hl hb hok hA hlt hsp
 have hva:∀ sp:Nat->Bool,DataW.TrodVars enc P W' sp s.vars (s.fn H (ds++[])).vars []:=fun sp=>by
  rw[hfn,hvars];exact rfl
 have hpp:p++[]=p:=List.append_nil p;have hold:∀ x∈p,(fun b=>decide (b<W.heap.size)) x.block=true:=fun x hx=>by simpa using hlt x hx
 rw[hpp]at hW' hz hn;refine⟨ds,[],p,[],p,[],hW',hres _ _ _,hargs _ hold,hva _,World.keptBut_mono (fun x hx=>⟨hx,.inr (.inl hx)⟩) (FJ hb _),fun _=>⟨ok_one hrt rfl (okWide_bool_mk ht true),(s.fn H (ds++[])).results++(s.fn H (ds++[])).args,(s.fn H (ds++[])).vars,p,?_,fun x hx _=>hx⟩⟩;have hall:=trodAll_append (hargs (fun _=>true) fun _ _=>rfl) (hres 0 (fun _=>true) true);refine⟨p,[],by simpa using hall,hva _,by simp,fun b off hx=>?_,fun ha=>by simpa using hn ha⟩;rw[hfz _ (hlt _ hx)];exact hz b off hx
end Go.Hx
namespace Go.Hx
variable {P:Program} {G:Nat->Option (List AVal)}
abbrev fX:=List (List AVal × AVal)
def fY (P:Program)(G:Nat->Option (List AVal))(f:FuncId)(l:fX):Prop:=∀ p,p∈l->ae P G f p.1 bZ fun r H'=>∃ u,r=.ret u/\Fresh H' u p.2
theorem fY.nil {f:FuncId}:fY P G f []:=fun _ h=>by cases h
theorem fY.cons {f:FuncId}{p:List AVal × AVal}{l:fX}(h:ae P G f p.1 bZ fun r H'=>∃ u,r=.ret u/\Fresh H' u p.2)(hl:fY P G f l):fY P G f (p :: l):=fun q hq=>by
 rcases List.mem_cons.1 hq with rfl|hq
 ·exact h
 ·exact hl q hq
theorem fY.append {f:FuncId}{l l':fX}(h:fY P G f l)(h':fY P G f l'):fY P G f (l++l'):=fun q hq=>(Ta.1 hq).elim (h q) (h' q)
noncomputable def lk (l:List (FuncId × fX))(f:FuncId):Option fX :=
 List.rec (motive:=fun _=>Option fX) none (fun p _ ih=>Bool.rec (motive:=fun _=>Option fX) ih (some p.2) (Nat.beq p.1 f)) l
def yk (P:Program)(G:Nat->Option (List AVal)):List (FuncId × fX)->Prop
 | []=>True
 | p :: l=>fY P G p.1 p.2/\yk P G l
theorem MR:∀ {l:List (FuncId × fX)},yk P G l->∀ f t,lk l f=some t->fY P G f t:=by
 intro l
 induction l with
 | nil=>intro _ f t h;cases h
 | cons p l ih =>
  intro ha f t h;have h':Bool.rec (motive:=fun _=>Option fX) (lk l f) (some p.2) (Nat.beq p.1 f)=some t:=h;cases hb:Nat.beq p.1 f with
  | true =>
   rw[hb]at h';have:=Tc hb;have h2:p.2=t:=Option.some.inj h';rw[<- this,<- h2];exact ha.1
  | false =>
   rw[hb]at h';exact ih ha.2 f t h'
theorem EOk.pD {E:EP}{l:List (FuncId × fX)}(hk:E.known=lk l)(gok:eL E.G)(mixed:E.P.follows .mixedOrders=true)
  (gd:∀ f z,E.gd f=some z->Cc E.P E.G f z) (ha:yk E.P E.G l) (hx:ru E:=by exact ru.none rfl):EOk E :=
 ⟨gok,mixed,fun f t h a v hm=>MR ha f t (by rw[<- hk];exact h) (a,v) hm,gd,hx⟩
noncomputable def fq (E:EP)(fuel:Nat)(f:FuncId)(args:List AVal)(v:AVal):Bool:=match BV E fuel f args with
 | some u=>pa 40 u v
 | none=>false
theorem fZ {E:EP}{fuel:Nat}{f:FuncId}{args:List AVal}{v:AVal}(hE:EOk E)(h:fq E fuel f args v=true):ae E.P E.G f args bZ fun r H'=>∃ u,r=.ret u/\Fresh H' u v:=by
 unfold fq at h;split at h
 ·rename_i u hu;rw[<- Ca 40 _ _ h];exact MQ hE hu
 ·cases h
def ik:Nat->Option (List AVal):=fun _=>none
theorem nG:eL ik:=fun _ _ h=>by cases h
theorem MS (W:World):vU P ik W:=fun _ _ h=>by cases h
end Go.Hx
namespace Go.Hx
variable {P:Program} {G:Nat->Option (List AVal)} {Γ Γ':aC} {H H':AHeap} {w w':World}
section
variable {n:Nat} {wb:Base} {rd rb:Option Nat} {Q:AX->St->Prop}
end
end Go.Hx
namespace Go.Hx
open Go.ChangeShapes Go.WideShapes Go.RowKit
variable {P:Program} {W:World} {H:Type} {enc:TypeId × Value->H} {spare:Nat->Bool} {held:Bool}
def ic (P:Program)(W:World)(as:List AVal)(cs:List Value):Prop:=cs.length=as.length/\∀ i (h:i<as.length) (h':i<cs.length),RelV P fQ bZ W as[i] cs[i]
def ei (enc:TypeId × Value->H)(P:Program)(W:World)(spare:Nat->Bool)(held:Bool)(t:TypeId)(φ:DataW H->List AVal->Prop):Prop :=
 ∀ fuel cs x,DataW.trod enc P W 0 spare held fuel t cs=some x->∃ as,ic P W as cs/\φ x.1 as
theorem ic.nil:ic P W [] []:=⟨rfl,fun i h _=>absurd h (S7 _)⟩
theorem ic.one {a:AVal}{c:Value}(h:RelV P fQ bZ W a c):ic P W [a] [c]:=⟨rfl,fun i hi _=>by
 match i,hi with
 | 0,_=>exact h⟩
theorem ic.append {as bs:List AVal}{cs ds:List Value}(h1:ic P W as cs)(h2:ic P W bs ds):ic P W (as++bs) (cs++ds):=by
 refine⟨by simp [h1.1,h2.1],fun i h h'=>?_⟩;by_cases hi:i<as.length
 ·rw[TK hi,TK (by rw[h1.1];exact hi)];exact h1.2 i hi _
 ·have e:=h1.1;rw[TM (by omega),TM (by omega)];have:=h2.2 (i - as.length) (by simp at h;omega) (by rw[h2.1];simp at h;omega);simpa [e] using this
theorem GI {t:TypeId}(ht:P.underlying t=some .bool):ei enc P W spare held t fun d as=>∃ b,d=.lit (.bool b)/\as=[.lit (.bool b)]:=by
 intro fuel cs x h;cases fuel with
 | zero=>simp [DataW.trod]at h
 | succ n =>
  unfold DataW.trod at h;rw[ht]at h;split at h
  ·cases h;exact⟨_,.one (.lit _),_,rfl,rfl⟩
  all_goals simp_all
theorem iC {t:TypeId}{k:IntKind}(ht:P.underlying t=some (.int k)):ei enc P W spare held t fun d as=>∃ n,d=.lit (.int k n)/\as=[.lit (.int k n)]/\(Lit.int k n).wf=true:=by
 intro fuel cs x h;cases fuel with
 | zero=>simp [DataW.trod]at h
 | succ n =>
  unfold DataW.trod at h;rw[ht]at h;split at h<;>simp_all
  rename_i k' n' _ _;obtain⟨⟨rfl,hw⟩,rfl⟩:=h;exact⟨_,.one (.lit _),_,rfl,rfl,hw⟩
theorem AM:∀ {rows:List (List AVal)} {css:List (List Value)},css.length=rows.length->(∀ i (h:i<rows.length) (h':i<css.length),ic P W rows[i] css[i])->ic P W rows.flatten css.flatten:=by
 intro rows
 induction rows with
 | nil=>intro css h _;obtain rfl:=SY h;exact .nil
 | cons r rows ih =>
  intro css h h'
  match css,h with
  | c :: css,h =>
   simp only[List.flatten_cons];exact(h' 0 (by simp) (by simp)).append (ih (by simpa using h) fun i hi hi'=>h' (i+1) (by simpa using hi) (by simpa using hi'))
theorem AN {α:Type}{Q:Nat->α->Prop}:∀ n,(∀ i,i<n->∃ a,Q i a)->∃ l:List α,l.length=n/\∀ i (h:i<l.length),Q i l[i]:=by
 intro n
 induction n with
 | zero=>intro _;exact⟨[],rfl,fun i h=>absurd h (S7 _)⟩
 | succ n ih =>
  intro h;obtain⟨l,hl,hq⟩:=ih fun i hi=>h i (by omega);obtain⟨a,ha⟩:=h n (by omega);refine⟨l++[a],by simp [hl],fun i hi=>?_⟩;by_cases hi':i<l.length
  ·rw[TK hi'];exact hq i hi'
  ·have:i=l.length:=(by simp at hi;omega);subst this;simp only[List.getElem_concat_length];rw[hl];exact ha
theorem GJ {α:Type}{z:Nat}:∀ {rows:List (List α)},(∀ i (h:i<rows.length),rows[i].length=z)->rows.flatten.length=rows.length*z:=by
 intro rows
 induction rows with
 | nil=>intro _;simp
 | cons r rows ih =>
  intro h;have h0:=h 0 (by simp);have:=ih fun i hi=>h (i+1) (by simpa using hi);simp only[Tp]at h0;simp only[List.flatten_cons,List.length_append,List.length_cons,this,h0,VA];omega
theorem GK {α:Type}{z:Nat}:∀ {rows:List (List α)},(∀ i (h:i<rows.length),rows[i].length=z)->∀ i j (hi:i<rows.length) (hj:j<z),rows.flatten[i*z+j]?=(rows[i])[j]?:=by
 intro rows
 induction rows with
 | nil=>intro _ i j hi;exact absurd hi (S7 _)
 | cons r rows ih =>
  intro h i j hi hj;have h0:=h 0 (by simp);simp only[Tp]at h0;cases i with
  | zero=>simp only[List.flatten_cons,Tp,Uy,Nat.zero_add];rw[SW (by omega)]
  | succ i =>
   simp only[List.flatten_cons,TV];rw[S5 (by rw[h0,VA];omega),<- ih (fun i hi=>h (i+1) (by simpa using hi)) i j (by simpa using hi) hj];congr 1;rw[h0,VA];omega
def AO (φ:DataW H->List AVal->Prop)(ds:List (DataW H))(rows:List (List AVal)):Prop:=ds.length=rows.length/\∀ i (h:i<rows.length) (h':i<ds.length),φ ds[i] rows[i]
theorem wM {t e:TypeId}{φ:DataW H->List AVal->Prop}(ht:P.underlying t=some (.slice e))(hz:0<P.cellsOf e)(he:ei enc P W spare held e φ):
  ei enc P W spare held t fun d as=>(d=.nil/\as=[.vec 0 []])\/∃ ds rest rows,d=.slice ds rest/\as=[.vec rows.length rows.flatten]/\AO φ ds rows/\(∀ i (h:i<rows.length),rows[i].length=P.cellsOf e)/\rows.length<=maxLen:=by
 intro fuel cs x h;rcases DataW.trod_slice ht h with ⟨rfl,rfl⟩|⟨a,len,cap,elems,rest,n,rfl,rfl,rfl,_,hl,hm,hlen,hel,_,_⟩
 ·exact⟨_,.one (.vec0 _ _),.inl ⟨rfl,rfl⟩⟩
 have hrow:∀ i,i<len->∃ p:List Value × List AVal,W.cells? 0 (a.add (i*P.cellsOf e)) (P.cellsOf e)=some p.1/\ic P W p.2 p.1/\∃ x,elems[i]?=some x/\φ x.1 p.2:=by
  intro i hi;have:=hel i hi;rw[SN (by omega),SR]at this;obtain⟨cs,hc,hx⟩:=this;obtain⟨as,ha,hφ⟩:=he _ _ _ hx;exact⟨(cs,as),hc,ha,_,SN (by omega),hφ⟩
 obtain⟨l,hll,hQ⟩:=AN len hrow;have hzr:∀ i (h:i<(l.map Prod.snd).length),(l.map Prod.snd)[i].length=P.cellsOf e:=by
  intro i h;simp only[SZ]at h;simp only[S4];obtain⟨hc,hr,_⟩:=hQ i h;rw[<- hr.1];exact(World.cells?_some hc).2.1
 have hzc:∀ i (h:i<(l.map Prod.fst).length),(l.map Prod.fst)[i].length=P.cellsOf e:=by
  intro i h;simp only[SZ]at h;simp only[S4];exact(World.cells?_some (hQ i h).1).2.1
 refine⟨[.vec (l.map Prod.snd).length (l.map Prod.snd).flatten],.one ?_,.inr ⟨_,_,l.map Prod.snd,rfl,rfl,⟨by simp [hll,hlen],fun i h h'=>?_⟩,hzr,by simp only[SZ];omega⟩⟩
 ·rcases T2 len with h0|h0
  ·subst h0;obtain rfl:=SY hll;exact .vec0 _ _
  have hrc:ic P W (l.map Prod.snd).flatten (l.map Prod.fst).flatten:=AM (by simp) fun i h h'=>by
   simp only[SZ]at h;simp only[S4];exact(hQ i h).2.1
  have hla:(l.map Prod.snd).length=len:=by simp [hll]
  have hsp:∀ i,i<len->∀ j,j<P.cellsOf e->∃ v,W.cell? ((a.add (i*P.cellsOf e)).add j)=some v/\(l.map Prod.fst).flatten[i*P.cellsOf e+j]?=some v:=by
   intro i hi j hj;obtain⟨hc,_⟩:=hQ i (by omega);obtain⟨_,hcl,hcell⟩:=World.cells?_some hc;refine⟨(l[i]'(by omega)).1[j]'(by omega),?_,?_⟩
   ·rw[hcell j hj,SN]
   ·rw[GK hzc i j (by simp;omega) hj];simp only[S4];rw[SN]
  have hspot:a.spot=none:=by
   obtain⟨v,hv,_⟩:=hsp 0 h0 0 hz;unfold World.cell? at hv;split at hv
   ·split at hv
    ·cases hv
    ·rename_i hs;simpa [Addr.add] using hs
   ·cases hv
  obtain⟨b,off,spot⟩:=a;simp only at hspot;subst hspot;have hadd:∀ (b off n:Nat),(⟨b,off,none⟩:Addr).add n=⟨b,off+n,none⟩:=by
   intro b off n;unfold Addr.add;by_cases hn:n=0
   ·subst hn;simp
   ·simp [hn]
  have hlt:b<W.heap.size:=by
   obtain⟨v,hv,_⟩:=hsp 0 h0 0 hz;rw[hadd,hadd]at hv;unfold World.cell? at hv;rcases Te b W.heap.size with h|h
   ·exact h
   ·rw[TW h]at hv;cases hv
  rw[hla];refine .vec (Aa b) hlt hl hrc.1 (fun i hi=>?_) fun i h h'=>hrc.2 i h h';have hlc:=GJ hzc;simp only[SZ,hll]at hlc;have hi':i<len*P.cellsOf e:=by omega
  obtain⟨v,hv,hg⟩:=hsp (i / P.cellsOf e) (Nat.div_lt_of_lt_mul (by rw[VB];exact hi')) (i % P.cellsOf e) (Vn _ hz);have hdm:i / P.cellsOf e*P.cellsOf e+i % P.cellsOf e=i:=by rw[VB];exact Nat.div_add_mod _ _
  rw[hdm]at hg;rw[SN hi]at hg;rw[Option.some.inj hg,<- hv,hadd,hadd];congr 2;omega
 ·simp only[SZ]at h h';obtain⟨_,_,y,hy,hφ⟩:=hQ i h;simp only[S4];rw[SN h']at hy;rw[Option.some.inj hy];exact hφ
theorem oJ {t:TypeId}{fs:Array Field}{φ:Nat->DataW H->List AVal->Prop}(ht:P.underlying t=some (.struct fs))
  (hlay:∀ cs:List Value,cs.length=P.cellsOf t->(fs.toList.map fun f=>(cs.drop f.offset).take (P.cellsOf f.type)).flatten=cs)
  (he:∀ i (h:i<fs.size),ei enc P W spare held fs[i].type (φ i)):
  ei enc P W spare held t fun d as=>∃ (ds:List (DataW H)) (rows:List (List AVal)),d=.agg ds/\as=rows.flatten/\ds.length=fs.size/\rows.length=fs.size/\∀ i (h:i<rows.length) (h':i<ds.length),φ i ds[i] rows[i]:=by
 intro fuel cs x h;obtain⟨xs,m,rfl,rfl,hcl,hxl,hel⟩:=DataW.trod_struct ht h;have hrow:∀ i,i<fs.size->∃ as:List AVal,(∀ h:i<fs.size,ic P W as ((cs.drop fs[i].offset).take (P.cellsOf fs[i].type)))/\∃ x,xs[i]?=some x/\φ i x.1 as:=by
  intro i hi;have:=hel i fs[i] (S3 hi);rw[SN (by omega)]at this;obtain⟨as,ha,hφ⟩:=he i hi _ _ _ this;exact⟨as,fun _=>ha,_,SN (by omega),hφ⟩
 obtain⟨l,hll,hQ⟩:=AN fs.size hrow;refine⟨l.flatten,?_,_,l,rfl,rfl,by simp [hxl],hll,fun i h h'=>?_⟩
 ·rw[<- hlay cs hcl];refine AM (by simp [hll]) fun i h h'=>?_;simp only[S4,TH];exact(hQ i h).1 (by omega)
 ·obtain⟨_,y,hy,hφ⟩:=hQ i h;simp only[SZ]at h';simp only[S4];rw[SN h']at hy;rw[Option.some.inj hy];exact hφ
end Go.Hx
namespace Go.Hx
variable {P:Program} {G:Nat->Option (List AVal)} {H:AHeap}
theorem K4:(1=0)=False:=by simp
theorem K5 (l:List AVal)(i:Nat):kV (.tup l) i=l[i]?:=rfl
theorem K6 (cells:List AVal)(off:Nat):jy H (.vptr cells off)=some (.vptr cells off):=rfl
theorem K7 (id gen off:Nat):jy H (.ptr id gen off)=(H.live id gen).map fun _=>.ptr id gen off:=by
 simp only[jy]
theorem K8 (t:TypeId)(f:Nat)(id gen off:Nat):oT P H t f (.ptr id gen off)=(bA P t f).bind fun of=>(H.live id gen).map fun _=>.ptr id gen (off+of.1):=rfl
theorem K9 (t:TypeId)(f:Nat)(cells:List AVal)(off:Nat):oT P H t f (.vptr cells off)=(bA P t f).bind fun of=>some (.vptr cells (off+of.1)):=rfl
def cO (H:AHeap)(L:List Blk)(e:TypeId)(lo hi:Nat)(v:AVal)(cs:List AVal):Prop :=
 (v=.lit (.slice none 0 0)/\cs=[])\/∃ i g,lo<=i/\i<hi/\v=.own (H.next+i) g 0 cs.length 1/\L[i]?=some (.arr g e cs)
theorem cO.nil {L:List Blk}{e:TypeId}{lo hi:Nat}:cO H L e lo hi (.lit (.slice none 0 0)) []:=.inl ⟨rfl,rfl⟩
theorem cO.keep {L L':List Blk}{e:TypeId}{lo hi lo' hi':Nat}{v:AVal}{cs:List AVal}(h:cO H L e lo hi v cs)(hl:lo'<=lo)(hh:hi<=hi')(hk:∀ i g,lo<=i->i<hi->L[i]?=some (.arr g e cs)->L'[i]?=L[i]?):
  cO H L' e lo' hi' v cs:=by
 rcases h with h|⟨i,g,h1,h2,h3,h4⟩
 ·exact .inl h
 ·exact .inr ⟨i,g,by omega,by omega,h3,by rw[hk i g h1 h2 h4];exact h4⟩
theorem Bt {L:List Blk}{i g:Nat}{e:TypeId}{cs:List AVal}(h:L[i]?=some (.arr g e cs)):(ext H L).live (H.next+i) g=some (e,cs):=by
 have hi:i<L.length:=by
  rcases Te i L.length with h'|h'
  ·exact h'
  ·rw[SV h']at h;cases h
 rw[wY H L i g hi,h];simp [qE]
theorem La {L:List Blk}{t e:TypeId}{lo hi:Nat}{v x:AVal}{cs:List AVal}{z:List AVal}(ht:P.underlying t=some (.slice e))(hz:P.cellsOf e=1)(hzero:bE P e=some z)(hx:x.one=true)
  (hb:(cs.length+1)*P.bytesOf e<=2 ^ 46/\cs.length+1<=2 ^ 46) (ho:cO H L e lo hi v cs) (hlo:lo<=L.length) (hhi:hi<=L.length):
  ∃ v' L',bf P (ext H (L++[.arr 0 e [x]])) (H.next+(L.length+1)) t t v (.own (H.next+L.length) 0 0 1 1)=some (v',ext H L')/\cO H L' e lo L'.length v' (cs++[x])/\L.length<=L'.length /\
   (∀ k,k<L.length->(∀ g n,v≠.own (H.next+k) g 0 n 1)->L'[k]?=L[k]?):=by
 have hsrc:cw (ext H (L++[.arr 0 e [x]])) 1 (.own (H.next+L.length) 0 0 1 1)=some (1,[x]):=by
  unfold cw;have:=Bt (H:=H) (L:=L++[Blk.arr 0 e [x]]) (i:=L.length) (g:=0) (e:=e) (cs:=[x]) (by simp);simp [this]
 rcases ho with ⟨rfl,rfl⟩|⟨i,g,h1,h2,rfl,h4⟩
 ·refine⟨.own (H.next+(L.length+1)) 0 0 1 1,L++[.arr 0 e [x]]++[.arr 0 e [x]],?_,.inr ⟨L.length+1,0,by omega,by simp,by simp,by simp⟩,by simp,fun k hk _=>?_⟩
  ·unfold bf;rw[ht];simp only[hzero,hz,Option.bind_some,hsrc,K4,if_false];have h1:1*P.bytesOf e<=2 ^ 46/\1<=2 ^ 46:=(by simpa using hb);rw[SQ h1,Bc H _ (L.length+1) _ (by simp)];rfl
  ·rw[List.append_assoc,SW hk]
 ·have hi':i<L.length:=by omega
  refine⟨.own (H.next+i) (g+1) 0 (cs.length+1) 1,(L++[Blk.arr 0 e [x]]).set i (Blk.arr (g+1) e (cs++[x])),?_,.inr ⟨i,g+1,h1,by simp;omega,by simp,?_⟩,by simp,fun k hk hne=>?_⟩
  ·unfold bf;rw[ht];simp only[hzero,hz,Option.bind_some,hsrc];have hl:=Bt (H:=H) (L:=L++[Blk.arr 0 e [x]]) (i:=i) (g:=g) (e:=e) (cs:=cs) (by rw[SW hi'];exact h4);simp only[hl,Option.bind_some];rw[SQ ⟨trivial,trivial,by omega,hb.1,hb.2,by simp [hx]⟩];rw[wX H _ i _ (by simp;omega)];simp
  ·rw[S1 (by simp;omega)]
  ·have:i≠k:=(by rintro rfl;exact hne _ _ rfl);rw[Tb this,SW hk]
theorem cO.fz {S:Nat->Prop}{L:List Blk}{e:TypeId}{lo hi:Nat}{v:AVal}{cs cs':List AVal}{nx:Nat}(h:cO H L e lo hi v cs)(hS:∀ i,S (H.next+i))(hl:cs'.length=cs.length)
  (hc:∀ i (h:i<cs.length) (h':i<cs'.length),Fz S (ext H L) nx cs[i] cs'[i]):Fz S (ext H L) nx v (.vec cs'.length cs'):=by
 rcases h with ⟨rfl,rfl⟩|⟨i,g,_,_,rfl,h4⟩
 ·obtain rfl:=SY hl;exact .nil
 ·rw[hl];have hi:i<L.length:=by
   rcases Te i L.length with h'|h'
   ·exact h'
   ·rw[SV h']at h4;cases h4
  refine .frz (hS i) (by rw[bB H L i hi];exact h4) (by omega) fun j hj h2 h'=>?_;simp only[Nat.zero_add]at h2 ⊢;exact hc j h2 h'
end Go.Hx
namespace Go.Hx
variable {P:Program} {G:Nat->Option (List AVal)} {H:AHeap}
def xh (P:Program)(s d:TypeId)(x:Bool)(y:Option TypeDesc)(v:AVal):Option AVal :=
 if x=true then (match y,v with
  | some (.int k'),.lit (.int _ a)=>some (.lit (.int k' (k'.wrap a)))
  | _,_=>j9 P s d v) else j9 P s d v
theorem Lb (s d:TypeId)(v:AVal):j9 P s d v=xh P s d (P.underlying s).isSome (P.underlying d) v:=by
 unfold xh;split
 ·rename_i hs;split
  ·rename_i k' k a hd;exact IR hs hd
  ·rfl
 ·rfl
theorem Lc (s d:TypeId)(k k':IntKind)(a:Int):xh P s d true (some (.int k')) (.lit (.int k a))=some (.lit (.int k' (k'.wrap a))):=rfl
def Bu (P:Program)(d:Option TypeDesc)(cells:List AVal)(i:Int):Option AVal:=match d with
 | some (.array n e)=>if 0<=i/\i<(n:Int) then eH P e cells (i.toNat*P.cellsOf e) else none
 | _=>none
theorem Ld (t:TypeId)(cells:List AVal)(k:IntKind)(i:Int):qh P t (.agg cells) (.lit (.int k i))=Bu P (P.underlying t) cells i:=rfl
theorem Le (n:Nat)(e:TypeId)(cells:List AVal)(i:Int):Bu P (some (.array n e)) cells i=if 0<=i/\i<(n:Int) then eH P e cells (i.toNat*P.cellsOf e) else none:=rfl
theorem ag {id g:Nat}{e:TypeId}{c:List AVal}(h:H.get id=some (.arr g e c)):H.live id g=some (e,c):=by
 unfold AHeap.live;rw[h];simp
theorem aw (a:Nat)(x:Blk):(H.upd a x).next=H.next:=rfl
theorem dv {L:List Blk}{id g:Nat}(h:id<H.next):(ext H L).live id g=H.live id g:=by
 unfold AHeap.live;rw[dH H L id h]
def kh (H:AHeap)(L:List Blk)(e1 e0:TypeId)(v:AVal)(rows:List (List AVal)):Prop :=
 ∃ cs:List AVal,cO H L e1 0 L.length v cs/\cs.length=rows.length/\∀ (j:Nat) (r:List AVal) (c:AVal),rows[j]?=some r->cs[j]?=some c->cO H L e0 0 L.length c r
theorem kh.nil {L:List Blk}{e1 e0:TypeId}:kh H L e1 e0 (.lit (.slice none 0 0)) []:=⟨[],.nil,rfl,fun j r c h=>by simp at h⟩
theorem cO.lt {L:List Blk}{e:TypeId}{lo hi i g n z:Nat}{cs:List AVal}(h:cO H L e lo hi (.own (H.next+i) g 0 n z) cs):i<L.length/\L[i]?=some (.arr g e cs)/\n=cs.length/\z=1:=by
 rcases h with ⟨h,_⟩|⟨j,g2,_,_,h3,h4⟩
 ·cases h
 ·have:=AVal.own.inj h3;obtain rfl:i=j:=by omega
  obtain⟨_,rfl,_,rfl,rfl⟩:=this;refine⟨?_,h4,rfl,rfl⟩;rcases Te i L.length with h|h
  ·exact h
  ·rw[SV h]at h4;cases h4
theorem cO.qO {L L':List Blk}{e e':TypeId}{lo hi lo' hi':Nat}{v u:AVal}{cs cs':List AVal}(hv:cO H L e lo hi v cs)(hu:cO H L e' lo' hi' u cs')(hne:e≠e')(hh:hi'<=L.length)
  (hp:∀ k,k<L.length->(∀ g n,v≠.own (H.next+k) g 0 n 1)->L'[k]?=L[k]?):cO H L' e' lo' hi' u cs':=by
 refine hu.keep (Nat.le_refl _) (Nat.le_refl _) fun i g h1 h2 h3=>hp i (by omega) fun g' n he=>?_;rcases hv with ⟨rfl,_⟩|⟨j,g2,_,_,rfl,h4⟩
 ·cases he
 ·have hj:j=i:=by
   have:=AVal.own.inj he;omega
  subst hj;rw[h3]at h4;cases h4;exact hne rfl
theorem cO.lY {L:List Blk}{e:TypeId}{lo hi:Nat}{v:AVal}{cs:List AVal}(hv:cO H L e lo hi v cs):v.one=true:=by
 rcases hv with ⟨rfl,_⟩|⟨_,_,_,_,rfl,_⟩<;>rfl
theorem cO.eW {L:List Blk}{e:TypeId}{lo hi:Nat}{v:AVal}{cs:List AVal}(hv:cO H L e lo hi v cs):v.cells=[v]:=by
 rcases hv with ⟨rfl,_⟩|⟨_,_,_,_,rfl,_⟩<;>rfl
theorem cO.other {L L':List Blk}{e e':TypeId}{lo hi lo' hi':Nat}{v u:AVal}{cs cs':List AVal}(hv:cO H L e lo hi v cs)(hu:cO H L e' lo' hi' u cs')(hne:e≠e')(hh:hi'<=L.length)
  (hp:∀ k,k<L.length->(∀ g n,v≠.own (H.next+k) g 0 n 1)->L'[k]?=L[k]?):cO H L' e' lo' hi' u cs':=hv.qO hu hne hh hp
theorem cO.one {L:List Blk}{e:TypeId}{lo hi:Nat}{v:AVal}{cs:List AVal}(hv:cO H L e lo hi v cs):v.one=true:=hv.lY
theorem cO.cells {L:List Blk}{e:TypeId}{lo hi:Nat}{v:AVal}{cs:List AVal}(hv:cO H L e lo hi v cs):v.cells=[v]:=hv.eW
theorem kh.keep {L L':List Blk}{e1 e0:TypeId}{v:AVal}{rows:List (List AVal)}(h:kh H L e1 e0 v rows)(hl:L.length<=L'.length)(hk:∀ i,i<L.length->L'[i]?=L[i]?):kh H L' e1 e0 v rows:=by
 obtain⟨cs,c1,c2,c3⟩:=h;exact⟨cs,c1.keep (Nat.le_refl _) hl fun i _ _ hi _=>hk i hi,c2,fun j r c hr hc=>(c3 j r c hr hc).keep (Nat.le_refl _) hl fun i _ _ hi _=>hk i hi⟩
theorem kh.fz {S:Nat->Prop}{L:List Blk}{e1 e0:TypeId}{v:AVal}{rows rows':List (List AVal)}{nx:Nat}(h:kh H L e1 e0 v rows)(hS:∀ i,S (H.next+i))(hl:rows'.length=rows.length)
  (hr:∀ (j:Nat) (r r':List AVal),rows[j]?=some r->rows'[j]?=some r'->r'.length=r.length/\∀ i (h:i<r.length) (h':i<r'.length),Fz S (ext H L) nx r[i] r'[i]):
  Fz S (ext H L) nx v (.vec rows'.length (rows'.map fun r=>.vec r.length r)):=by
 obtain⟨cs,h1,h2,h3⟩:=h;have:=h1.fz (S:=S) (nx:=nx) (cs':=rows'.map fun r=>.vec r.length r) hS (by simp [h2,hl]) fun i hi hi'=>by
  simp only[S4];have hi2:i<rows.length:=by omega
  have hi3:i<rows'.length:=by omega
  obtain⟨a1,a2⟩:=hr i rows[i] rows'[i] (SN hi2) (SN hi3);exact(h3 i rows[i] cs[i] (SN hi2) (SN hi)).fz (S:=S) (nx:=nx) (cs':=rows'[i]) hS a1 a2
 rw[SZ]at this;exact this
theorem kh.app {L:List Blk}{e1 e0:TypeId}{v x:AVal}{rows:List (List AVal)}{r:List AVal}{t:TypeId}{z:List AVal}(ht:P.underlying t=some (.slice e1))(hz:P.cellsOf e1=1)(hzero:bE P e1=some z)(hby:P.bytesOf e1=24)(hne:e1≠e0)
  (hb:rows.length<2 ^ 40) (h:kh H L e1 e0 v rows) (hx:cO H L e0 0 L.length x r):
  ∃ v' L',bf P (ext H (L++[.arr 0 e1 [x]])) (H.next+(L.length+1)) t t v (.own (H.next+L.length) 0 0 1 1)=some (v',ext H L')/\kh H L' e1 e0 v' (rows++[r])/\L.length<=L'.length:=by
 obtain⟨cs,h1,h2,h3⟩:=h;obtain⟨v',L',hA,hO,hL,hp⟩:=La (t:=t) ht hz hzero hx.lY (by rw[hby,h2];omega) h1 (U1 _) (Nat.le_refl _);refine⟨v',L',hA,⟨cs++[x],hO,by simp [h2],fun j r' c hr hc=>?_⟩,hL⟩;have key:∀ u l,cO H L e0 0 L.length u l->cO H L' e0 0 L'.length u l:=fun u l hu=>(h1.qO hu hne (Nat.le_refl _) hp).keep (Nat.le_refl _) hL fun _ _ _ _ _=>rfl;rcases Te j rows.length with hj|hj
 ·rw[SW hj]at hr;rw[SW (by omega)]at hc;exact key _ _ (h3 j r' c hr hc)
 ·rw[S5 hj]at hr;rw[S5 (by omega)]at hc;have hj0:j - rows.length=0:=by
   rcases T2 (j - rows.length) with h|h
   ·exact h
   ·rw[SV (by simp;omega)]at hr;cases hr
  have hj1:j - cs.length=0:=by omega
  rw[hj0]at hr;rw[hj1]at hc;cases hr;cases hc;exact key _ _ hx
theorem gK (H:AHeap)(L L':List Blk):ext (ext H L) L'=ext H (L++L'):=by
 unfold ext;simp only[List.length_append];congr 1
 ·funext j
  by_cases h1:H.next+L.length<=j/\j<H.next+L.length+L'.length
  ·rw[SQ h1,SQ (by omega),S5 (by omega)];congr 1;omega
  ·rw[SO h1];by_cases h2:H.next<=j/\j<H.next+L.length
   ·rw[SQ h2,SQ (by omega),SW (by omega)]
   ·rw[SO h2,SO (by omega)]
 ·omega
theorem Lf (t:TypeId)(id g o l z:Nat):jE P t (.own id g o l z)=if lf (P.underlying t)=true then [id] else []:=by
 unfold jE;cases h:P.underlying t with
 | none=>rfl
 | some d=>cases d<;>rfl
structure Over (H H2:AHeap):Prop where
 next:H.next<=H2.next
 old:∀ id,id<H.next->H2.get id=H.get id
theorem Over.refl (H:AHeap):Over H H:=⟨Nat.le_refl _,fun _ _=>rfl⟩
theorem Over.trans {H H2 H3:AHeap}(a:Over H H2)(b:Over H2 H3):Over H H3 :=
 ⟨TA a.next b.next,fun id h=>(b.old id (S6 h a.next)).trans (a.old id h)⟩
theorem Over.ext (H:AHeap)(L:List Blk):Over H (ext H L):=⟨by simp [bI],fun id h=>dH H L id h⟩
theorem Lg {H H2:AHeap}(hc:Clo H)(ho:Over H H2):FzH (fun id=>H.next<=id) H2 H where
 gone id hs:=by
  cases h:H.get id with
  | none=>rfl
  | some b=>have:=hc.lt id b h;omega
 kept id b hs hb:=by
  have hlt:id<H.next:=US hs;rw[ho.old id hlt]at hb;have hbb:=hc.below id b hb;refine⟨hlt,b,hb,?_⟩;have hno:∀ i,i<H.next->¬ H.next<=i:=fun i h=>Nat.not_le_of_lt h;cases b with
  | rsv=>trivial
  | mp=>rfl
  | arr g e cells=>exact⟨rfl,rfl,rfl,fun i h _=>.refl (hbb i h) hno⟩
  | loop st pend n env ps asg body=>exact⟨rfl,rfl,rfl,rfl,rfl,rfl,rfl,fun t ht=>.refl (hbb t ht) hno⟩
 none id hs hb:=by
  rw[ho.old id (US hs)]at hb;exact hb
theorem ay.bx {H2:AHeap}(hG:eL G)(hc:Clo H)(ho:Over H H2){K:ARes->AHeap->Prop}{v v':AVal}(hv:Fz (fun id=>H.next<=id) H2 H.next v v')(hk:K (.ret v') H):ay P G H K v H2 :=
 ⟨v',H,.freeze hG (Lg hc ho) hv,Nat.le_refl _,hk⟩
theorem Fz.old {H H2:AHeap}{nx:Nat}{v:AVal}(h:Below H.next v)(hn:H.next<=nx):Fz (fun id=>H.next<=id) H2 nx v v:=by
 induction h with
 | lit v=>exact .lit v
 | vec _ ih=>exact .vec rfl fun i h _=>ih i h
 | vptr _ ih=>exact .vptr rfl fun i h _=>ih i h
 | agg _ ih=>exact .agg rfl fun i h _=>ih i h
 | tup _ ih=>exact .tup rfl fun i h _=>ih i h
 | clo _ _ ih1 ih2=>exact .clo rfl rfl (fun i h _=>ih1 i h) fun i h _=>ih2 i h
 | own h=>exact .own (by omega) (by omega)
 | ptr h=>exact .ptr (by omega) (by omega)
 | yld h=>exact .yld (by omega) (by omega)
theorem Fz.put {S:Nat->Prop}{H:AHeap}{nx d:Nat}{ρ ρ':Env}{v v':AVal}(h:∀ t,Fz S H nx (ρ t) (ρ' t))(hv:Fz S H nx v v'):∀ t,Fz S H nx (aI ρ (some d) v t) (aI ρ' (some d) v' t):=by
 intro t;simp only[aI];split
 ·exact hv
 ·exact h t
theorem Fz.ah {S:Nat->Prop}{H:AHeap}{nx:Nat}(rows:List (List Int)):Fz S H nx (.vec rows.length (rows.map af)) (.vec rows.length (rows.map af)) :=
 .vec rfl fun i h _=>by simp only[S4];exact .dq _
theorem Fz.env {S:Nat->Prop}{H:AHeap}{nx:Nat}{args args':List AVal}(hl:args'.length=args.length)(h:∀ i (h:i<args.length) (h':i<args'.length),Fz S H nx args[i] args'[i]):∀ t,Fz S H nx (gI args t) (gI args' t):=by
 intro t;rw[wW,wW];by_cases ht:t<args.length
 ·rw[SN ht,SN (by omega)];exact h t ht (by omega)
 ·rw[SV (by omega),SV (by omega)];exact .lit _
end Go.Hx
namespace Go.Hx
open Go.ChangeShapes Go.WideShapes Go.RowKit
variable {P:Program} {W:World} {H:Type} {enc:TypeId × Value->H} {spare:Nat->Bool} {held:Bool}
theorem ei.mono {t:TypeId}{φ ψ:DataW H->List AVal->Prop}(h:ei enc P W spare held t φ)(hm:∀ d as,φ d as->ψ d as):ei enc P W spare held t ψ:=fun fuel cs x hx =>
 let ⟨as,h1,h2⟩:=h fuel cs x hx;⟨as,h1,hm _ _ h2⟩
def ke (k:IntKind)(l:List Int):List AVal:=l.map fun n=>.lit (.int k n)
theorem wO {α:Type}{φ:DataW H->List AVal->Prop}{f:α->List AVal}{q:α->Prop}(hφ:∀ d as,φ d as->∃ a,as=f a/\q a):∀ {rows:List (List AVal)} {ds:List (DataW H)},AO φ ds rows ->
  ∃ l:List α,rows=l.map f/\∀ a,a∈l->q a:=by
 intro rows
 induction rows with
 | nil=>intro ds _;exact⟨[],rfl,fun a h=>by cases h⟩
 | cons r rows ih =>
  intro ds h;obtain⟨h1,h2⟩:=h;cases ds with
  | nil=>simp at h1
  | cons d ds =>
   obtain⟨a,ha,hq⟩:=hφ _ _ (h2 0 (by simp) (by simp));obtain⟨l,hl,hq2⟩:=ih (ds:=ds) ⟨by simpa using h1,fun i hi hi'=>h2 (i+1) (by simpa using hi) (by simpa using hi')⟩;refine⟨a :: l,by simp only[List.map_cons,<- hl];simp only[Tp]at ha;rw[ha],fun b hb=>?_⟩;rcases List.mem_cons.1 hb with rfl|hb
   ·exact hq
   ·exact hq2 b hb
theorem AP {α β:Type}(f:α->β)(l:List α):(l.map fun a=>[f a]).flatten=l.map f:=by
 induction l with
 | nil=>rfl
 | cons a l ih=>simp only[List.map_cons,List.flatten_cons,ih];rfl
theorem qC {t e:TypeId}{k:IntKind}(ht:P.underlying t=some (.slice e))(he:P.underlying e=some (.int k))(hc:P.cellsOf e=1):
  ei enc P W spare held t fun _ as=>∃ l:List Int,as=[.vec l.length (ke k l)]/\l.length<=maxLen/\∀ c,c∈l->(Lit.int k c).wf=true :=
 (wM ht (by omega) (iC he)).mono fun d as h=>by
  rcases h with ⟨_,rfl⟩|⟨ds,rest,rows,_,rfl,hr,_,hl⟩
  ·exact⟨[],rfl,by decide,fun c h=>by cases h⟩
  ·obtain⟨l,rfl,hq⟩:=wO (f:=fun n=>[AVal.lit (.int k n)]) (q:=fun n=>(Lit.int k n).wf=true) (fun d as ⟨n,_,h2,h3⟩=>⟨n,h2,h3⟩) hr;refine⟨l,?_,by simpa using hl,hq⟩;rw[SZ];congr 2;exact AP _ l
theorem GL {t u e:TypeId}{k:IntKind}(ht:P.underlying t=some (.slice u))(hu:P.underlying u=some (.slice e))(he:P.underlying e=some (.int k))(hc:P.cellsOf e=1)(hcu:P.cellsOf u=1):
  ei enc P W spare held t fun _ as=>∃ l:List (List Int),as=[.vec l.length (l.map fun r=>.vec r.length (ke k r))]/\l.length<=maxLen/\∀ r,r∈l->r.length<=maxLen/\∀ c,c∈r->(Lit.int k c).wf=true :=
 (wM ht (by omega) (qC hu he hc)).mono fun d as h=>by
  rcases h with ⟨_,rfl⟩|⟨ds,rest,rows,_,rfl,hr,_,hl⟩
  ·exact⟨[],rfl,by decide,fun c h=>by cases h⟩
  ·obtain⟨l,rfl,hq⟩:=wO (f:=fun r=>[AVal.vec r.length (ke k r)]) (q:=fun r=>r.length<=maxLen/\∀ c,c∈r->(Lit.int k c).wf=true) (fun d as ⟨n,h2,h3⟩=>⟨n,h2,h3⟩) hr;refine⟨l,?_,by simpa using hl,hq⟩;rw[SZ];congr 2;exact AP _ l
theorem AQ {r:Reach}{b:Nat}{t:TypeId}{v:Value}{d:DataW H}{ps:List MemPlace}{φ:DataW H->List AVal->Prop}(hop:ei enc P W spare held t φ)
  (ht:(∃ fs,P.underlying t=some (.struct fs))\/∃ n e,P.underlying t=some (.array n e)) (hval:Value.okWide P W r b t v) (hd:DataW.Trod enc P W 0 spare held t v d ps):
  ∃ as,RelV P fQ bZ W (.agg as) v/\φ d as:=by
 obtain⟨cs,rfl⟩:∃ cs,v=.agg cs:=by
  unfold Value.okWide at hval;rcases ht with ⟨fs,ht⟩|⟨n,e,ht⟩
  ·rw[ht]at hval;obtain⟨cs,h,_⟩:=hval;exact⟨cs,h⟩
  ·rw[ht]at hval;obtain⟨cs,h,_⟩:=hval;exact⟨cs,h⟩
 obtain⟨fuel,hf⟩:=hd;obtain⟨as,hr,hφ⟩:=hop _ _ _ hf;refine⟨as,?_,hφ⟩;have:=RelV.agg (P:=P) (Γ:=fQ) (H:=bZ) (w:=W) (cells:=as) (cs:=cs.toList) hr.1 hr.2;simpa using this
theorem wQ {r:Reach}{b:Nat}{t:TypeId}{v:Value}{d:DataW H}{ps:List MemPlace}{φ:DataW H->List AVal->Prop}{ψ:AVal->Prop}(hop:ei enc P W spare held t φ)(h1:∀ d as,φ d as->∃ a,as=[a]/\ψ a)
  (hno:∀ cs,¬ Value.okWide P W r b t (.agg cs)) (hval:Value.okWide P W r b t v) (hd:DataW.Trod enc P W 0 spare held t v d ps):∃ a,RelV P fQ bZ W a v/\ψ a:=by
 have hc:v.cells.toList=[v]:=by
  cases v with
  | agg cs=>exact absurd hval (hno cs)
  | _=>rfl
 obtain⟨fuel,hf⟩:=hd;rw[hc]at hf;obtain⟨as,hr,hφ⟩:=hop _ _ _ hf;obtain⟨a,rfl,hψ⟩:=h1 _ _ hφ;exact⟨a,hr.2 0 (by simp) (by simp),hψ⟩
theorem GM {r:Reach}{b:Nat}{t:TypeId}{k:IntKind}(ht:P.underlying t=some (.int k))(cs:Array Value):¬ Value.okWide P W r b t (.agg cs):=fun h=>by
 obtain⟨n,hn⟩:=okWide_int ht h;cases hn
theorem AR {r:Reach}{b:Nat}{t e:TypeId}(ht:P.underlying t=some (.slice e))(cs:Array Value):¬ Value.okWide P W r b t (.agg cs):=fun h=>by
 simp [Value.okWide,ht,Cell.okWide,Cell.ok]at h
theorem AS {r:Reach}{b:Nat}{t:TypeId}{k:IntKind}{v:Value}{d:DataW H}{ps:List MemPlace}(ht:P.underlying t=some (.int k))(hval:Value.okWide P W r b t v)(hd:DataW.Trod enc P W 0 spare held t v d ps):
  ∃ n,RelV P fQ bZ W (.lit (.int k n)) v/\(Lit.int k n).wf=true:=by
 obtain⟨a,h1,n,rfl,h2⟩:=wQ (ψ:=fun a=>∃ n,a=.lit (.int k n)/\(Lit.int k n).wf=true) (iC ht) (fun d as ⟨n,_,h2,h3⟩=>⟨_,h2,n,rfl,h3⟩) (GM ht) hval hd;exact⟨n,h1,h2⟩
theorem GN {r:Reach}{b:Nat}{t e:TypeId}{k:IntKind}{v:Value}{d:DataW H}{ps:List MemPlace}(ht:P.underlying t=some (.slice e))(he:P.underlying e=some (.int k))(hc:P.cellsOf e=1)
  (hval:Value.okWide P W r b t v) (hd:DataW.Trod enc P W 0 spare held t v d ps):∃ l:List Int,RelV P fQ bZ W (.vec l.length (ke k l)) v/\l.length<=maxLen/\∀ c,c∈l->(Lit.int k c).wf=true:=by
 obtain⟨a,h1,n,rfl,h2⟩:=wQ (ψ:=fun a=>∃ l:List Int,a=.vec l.length (ke k l)/\l.length<=maxLen/\∀ c,c∈l->(Lit.int k c).wf=true) (qC ht he hc) (fun d as ⟨n,h2,h3⟩=>⟨_,h2,n,rfl,h3⟩) (AR ht) hval hd;exact⟨n,h1,h2⟩
theorem GO {r:Reach}{b:Nat}{t u e:TypeId}{k:IntKind}{v:Value}{d:DataW H}{ps:List MemPlace}(ht:P.underlying t=some (.slice u))(hu:P.underlying u=some (.slice e))(he:P.underlying e=some (.int k))(hc:P.cellsOf e=1)(hcu:P.cellsOf u=1)
  (hval:Value.okWide P W r b t v) (hd:DataW.Trod enc P W 0 spare held t v d ps):∃ l:List (List Int),RelV P fQ bZ W (.vec l.length (l.map fun r=>.vec r.length (ke k r))) v/\l.length<=maxLen/\∀ r,r∈l->r.length<=maxLen/\∀ c,c∈r->(Lit.int k c).wf=true:=by
 obtain⟨a,h1,n,rfl,h2⟩:=wQ (ψ:=fun a=>∃ l:List (List Int),a=.vec l.length (l.map fun r=>.vec r.length (ke k r))/\l.length<=maxLen/\∀ r,r∈l->r.length<=maxLen/\∀ c,c∈r->(Lit.int k c).wf=true) (GL ht hu he hc hcu) (fun d as ⟨n,h2,h3⟩=>⟨_,h2,n,rfl,h3⟩) (AR ht) hval hd;exact⟨n,h1,h2⟩
theorem wf_u8 {n:Int}(h:(Lit.int .u8 n).wf=true):0<=n/\n<=255:=by
 simpa [Lit.wf,IntKind.min,IntKind.max,IntKind.signed,IntKind.bits] using h
end Go.Hx
namespace Go.Hx
attribute [go_sem] List.replicate_one List.flatten_cons List.flatten_nil List.length_append List.append_nil Nat.sub_zero Bool.not_true Bool.not_false
attribute [go_sem] Bool.true_eq_false List.map_eq_nil_iff ta Int.le_refl decide_true decide_false eq_self List.getElem?_map
attribute [go_sem] Ht Hv HA HB HC HD HE HF
attribute [go_sem] HG HH HI HJ HL HK HM HN
attribute [go_sem] HO HP HQ HR G5 G6 G7 G8
attribute [go_sem] G9 Hg Hh Hi Hl Ho noGoto_normal noGoto_exit
attribute [go_sem] noGoto_ret noGoto_panic ni sV wV fT AY G1
attribute [go_sem] G2 Ia Ib IZ IV IW IX IY
attribute [go_sem] List.getElem?_toArray Option.bind_some I0 I1 I2 I3 I4 I5
attribute [go_sem] I6 I7 I9 Ja Jb Jc Jd Je
attribute [go_sem] Jf Jg Jh Ji Jj Jk Jl Jm
attribute [go_sem] Jn Jo Jp Jq Jr JU o7 JV
attribute [go_sem] JW JX Bq JY JZ J0 J1 J2
attribute [go_sem] J3 J4 J5 J6 J7 J8 J9 List.set_cons_zero
attribute [go_sem] List.set_cons_succ Ka Kc Kd Ke Kf Kg Kh
attribute [go_sem] Ki Kj Kk Kl Km Kn Ko Kp
attribute [go_sem] Kq Kr Ks Kt Ku Kv Kw
attribute [go_sem] qN xe Kx Ky Kz KA KB
attribute [go_sem] KC KD KE KG KH KI KJ KK
attribute [go_sem] KL KM KN KO KP KR KS KT
attribute [go_sem] KU KV KW KX KY KZ K0 K2
attribute [go_sem] K3 gJ aP aa Int.toNat_natCast Int.natCast_nonneg af List.all_cons
attribute [go_sem] List.all_nil Bool.and_true Nat.mul_one Js Jt Ju Jv Jw
attribute [go_sem] Jx Jy Jz JA JB JC
attribute [go_sem] JE JF JH JG
attribute [go_sem] JI JJ JK JL List.take_succ_cons List.take_zero
attribute [go_sem] List.take_nil List.drop_succ_cons List.drop_zero List.drop_nil List.forall_mem_cons List.not_mem_nil List.mem_cons List.mem_singleton
attribute [go_sem] or_false false_or or_true true_or not_or false_implies implies_true forall_const
attribute [go_sem] If Ig Ih Ii Ij Ik Il Im
attribute [go_sem] Io Ip Iq Ir Is It Iu Iv
attribute [go_sem] Iw Ix Iy Iz IA Bool.false_eq_true IB IC
attribute [go_sem] ID IE IF IG IH II
attribute [go_sem] IJ IK builtin_len builtin_append builtin_copy builtin_min builtin_max A1
attribute [go_sem] A2 A3 IL IM A4 A5 A6 A7
attribute [go_sem] A8 A9 IN bI sX Ba Bc wY
attribute [go_sem] IT wX IU IS List.map_cons List.map_nil if_true if_false
attribute [go_sem] ne_eq not_false_eq_true not_true_eq_false true_and and_true false_and and_false List.length_cons
attribute [go_sem] List.length_nil Nat.zero_add Nat.add_zero Option.isSome_some List.append_assoc List.cons_append List.nil_append Option.map_some
attribute [go_sem] Option.map_none ef wW List.getElem?_cons_zero List.getElem?_cons_succ List.getElem?_nil Option.getD_some Option.getD_none
attribute [go_sem] HS HT HU HV HW HX HY HZ
attribute [go_sem] K5 K6 K7 Int.natCast_zero Int.cast_ofNat_Int Ld Le Lf
attribute [go_sem] IP IQ Lb Lc K8 K9 aQ Nat.le_refl
end Go.Hx
namespace Go.Hx
variable {P:Program} {G:Nat->Option (List AVal)} {H H':AHeap}
def AHeap.cut (H:AHeap)(n:Nat):AHeap:=⟨fun j=>if j<n then H.get j else none,H.next⟩
theorem xi {n id:Nat}(h:id<n):(H.cut n).get id=H.get id:=by simp [AHeap.cut,h]
theorem Lh {n id:Nat}(h:n<=id):(H.cut n).get id=none:=by simp [AHeap.cut,Nat.not_lt.2 h]
theorem Over.cut {B:AHeap}(h:Over B H):Over B (H.cut B.next):=⟨h.next,fun id hi=>(xi hi).trans (h.old id hi)⟩
open Classical in
theorem Fz.dead {S:Nat->Prop}{H:AHeap}{nx:Nat}{v:AVal}(h:Below nx v):Fz S H nx v v:=by
 induction h with
 | lit v=>exact .lit v
 | vec _ ih=>exact .vec rfl fun i h _=>ih i h
 | vptr _ ih=>exact .vptr rfl fun i h _=>ih i h
 | agg _ ih=>exact .agg rfl fun i h _=>ih i h
 | tup _ ih=>exact .tup rfl fun i h _=>ih i h
 | clo _ _ ih1 ih2=>exact .clo rfl rfl (fun i h _=>ih1 i h) fun i h _=>ih2 i h
 | @own id _ _ _ _ h=>by_cases hs:S id;exact .deadOwn h hs;exact .own h hs
 | @ptr id _ _ h=>by_cases hs:S id;exact .deadPtr h hs;exact .ptr h hs
 | @yld id h=>by_cases hs:S id;exact .deadYld h hs;exact .yld h hs
theorem Li (hc:Clo H)(n:Nat):FzH (fun id=>n<=id) H (H.cut n) where
 gone id hs:=Lh hs
 kept id b hs hb:=by
  have hlt:id<n:=US hs;have hbb:=hc.below id b hb;refine⟨hc.lt id b hb,b,by rw[xi hlt];exact hb,?_⟩;cases b with
  | rsv=>trivial
  | mp=>rfl
  | arr g e cells=>exact⟨rfl,rfl,rfl,fun i h _=>.dead (hbb i h)⟩
  | loop st pend n env ps asg body=>exact⟨rfl,rfl,rfl,rfl,rfl,rfl,rfl,fun t ht=>.dead (hbb t ht)⟩
 none id hs hb:=by rw[xi (US hs)];exact hb
theorem ae.Lj {f:FuncId}{args args':List AVal}{K:ARes->AHeap->Prop}(n:Nat)(hG:eL G)(hl:args'.length=args.length)(hv:∀ i (h:i<args.length) (h':i<args'.length),Fz (fun id=>n<=id) H H.next args[i] args'[i])
  (h:ae P G f args' (H.cut n) K):ae P G f args H K:=by
 refine⟨h.1,fun Γ w cargs R hr=>?_⟩;have F:=Li R.clo n;have R0:=F.rel hG R;have E0:Evo Γ H w (eV (fun id=>n<=id) Γ) (H.cut n) w:=F.bc;refine(h.2 _ w cargs R0 ⟨by have:=hr.1;omega,fun i h1 h2=>(hv i (by omega) h1).sound R F (hr.2 i (by omega) h2)⟩).mono ?_;rintro e w' ⟨r,H',Γ',h1,h2,h3,h4,h5⟩;exact⟨r,H',Γ',h1,h2,h3,E0.trans (Nat.le_refl _) h4,h5⟩
def aA (lo:Nat)(H:AHeap)(e:TypeId)(v:AVal)(cs:List AVal):Prop :=
 (v=.lit (.slice none 0 0)/\cs=[])\/∃ id g,lo<=id/\id<H.next/\v=.own id g 0 cs.length 1/\H.get id=some (.arr g e cs)
theorem aA.nil {lo:Nat}{e:TypeId}:aA lo H e (.lit (.slice none 0 0)) []:=.inl ⟨rfl,rfl⟩
theorem aA.keep {lo lo':Nat}{e:TypeId}{v:AVal}{cs:List AVal}(h:aA lo H e v cs)(hl:lo'<=lo)(hn:H.next<=H'.next)(hk:∀ id g,lo<=id->id<H.next->H.get id=some (.arr g e cs)->v=.own id g 0 cs.length 1->H'.get id=H.get id):aA lo' H' e v cs:=by
 rcases h with h|⟨id,g,h1,h2,h3,h4⟩
 ·exact .inl h
 ·exact .inr ⟨id,g,by omega,by omega,h3,by rw[hk id g h1 h2 h4 h3];exact h4⟩
theorem aA.over {lo:Nat}{e:TypeId}{v:AVal}{cs:List AVal}(h:aA lo H e v cs)(ho:Over H H'):aA lo H' e v cs:=h.keep (Nat.le_refl _) ho.next fun id _ _ h2 _ _=>ho.old id h2
theorem aA.one {lo:Nat}{e:TypeId}{v:AVal}{cs:List AVal}(h:aA lo H e v cs):v.one=true:=by
 rcases h with ⟨rfl,_⟩|⟨_,_,_,_,rfl,_⟩<;>rfl
theorem aA.cells {lo:Nat}{e:TypeId}{v:AVal}{cs:List AVal}(h:aA lo H e v cs):v.cells=[v]:=by
 rcases h with ⟨rfl,_⟩|⟨_,_,_,_,rfl,_⟩<;>rfl
theorem aA.fz {S:Nat->Prop}{lo nx:Nat}{e:TypeId}{v:AVal}{cs cs':List AVal}(h:aA lo H e v cs)(hS:∀ i,lo<=i->S i)(hl:cs'.length=cs.length)
  (hc:∀ i (h:i<cs.length) (h':i<cs'.length),Fz S H nx cs[i] cs'[i]):Fz S H nx v (.vec cs'.length cs'):=by
 rcases h with ⟨rfl,rfl⟩|⟨id,g,h1,_,rfl,h4⟩
 ·obtain rfl:=SY hl;exact .nil
 ·rw[hl];refine .frz (hS id h1) h4 (by omega) fun j hj h2 h'=>?_;simp only[Nat.zero_add]at h2 ⊢;exact hc j h2 h'
theorem aA.eX {S:Nat->Prop}{lo nx:Nat}{e:TypeId}{v:AVal}{l:List Int}(h:aA lo H e v (ints l))(hS:∀ i,lo<=i->S i):Fz S H nx v (af l):=by
 have:=h.fz (S:=S) (nx:=nx) (cs':=ints l) hS rfl fun i hi _=>by simp only[ints,S4];exact .lit _
 rw[aP]at this;exact this
theorem aA.new {e:TypeId}{cs:List AVal}:aA H.next (ext H [.arr 0 e cs]) e (.own H.next 0 0 cs.length 1) cs :=
 .inr ⟨H.next,0,Nat.le_refl _,by simp [bI],rfl,by simpa using bB H [.arr 0 e cs] 0 (by simp)⟩
theorem cz {b:Blk}{id:Nat}(h:id<H.next):(ext H [b]).get id=H.get id:=dH H [b] id h
theorem bT {b:Blk}:(ext H [b]).get H.next=some b:=by simpa using bB H [b] 0 (by simp)
theorem qQ {n:Nat}{b:Blk}(h:n=H.next):H.lay n b=some (ext H [b]):=by subst h;exact sX H b
theorem qR {t e:TypeId}{lo n:Nat}{v:AVal}{cs src:List AVal}{z:List AVal}(ht:P.underlying t=some (.slice e))(hz:P.cellsOf e=1)(hzero:bE P e=some z)(hx:src.all AVal.one=true)
  (hb:(cs.length+src.length)*P.bytesOf e<=2 ^ 46/\cs.length+src.length<=2 ^ 46) (ho:aA lo H e v cs) (hlo:lo<=H.next) (hn:n=H.next):
  ∃ v' H',bf P H n t t v (.vec src.length src)=some (v',H')/\aA lo H' e v' (cs++src)/\H.next<=H'.next/\(∀ k,k<H.next->(∀ g n,v≠.own k g 0 n 1)->H'.get k=H.get k):=by
 have hsrc:cw H 1 (.vec src.length src)=some (src.length,src):=by
  unfold cw;simp
 by_cases h0:src.length=0
 ·have e0:src=[]:=SY h0;subst e0;refine⟨v,H,?_,?_,Nat.le_refl _,fun _ _ _=>rfl⟩
  ·rcases ho with ⟨rfl,rfl⟩|⟨i,g,h1,h2,rfl,h4⟩
   ·unfold bf;rw[ht];simp only[hzero,hz,Option.bind_some];rw[hsrc];rfl
   ·unfold bf;rw[ht];have hl:=ag h4;simp only[hzero,hz,Option.bind_some,hsrc,hl];rw[SQ ⟨trivial,trivial,by omega,hb.1,hb.2,rfl⟩];simp
  ·rw[List.append_nil];exact ho
 rcases ho with ⟨rfl,rfl⟩|⟨i,g,h1,h2,rfl,h4⟩
 ·refine⟨.own H.next 0 0 src.length 1,ext H [.arr 0 e src],?_,.inr ⟨H.next,0,hlo,by simp [bI],by simp,by simpa using bT⟩,by simp [bI],fun k hk _=>cz hk⟩;unfold bf;rw[ht];simp only[hzero,hz,Option.bind_some,hsrc];rw[SO h0,SQ (by simpa using hb),qQ hn,hn];rfl
 ·refine⟨.own i (g+1) 0 (cs.length+src.length) 1,H.upd i (.arr (g+1) e (cs++src)),?_,.inr ⟨i,g+1,h1,h2,by simp,by rw[ab,SQ rfl]⟩,Nat.le_refl _,fun k hk hne=>?_⟩
  ·unfold bf;rw[ht];have hl:=ag h4;simp only[hzero,hz,Option.bind_some,hsrc,hl];rw[SQ ⟨trivial,trivial,by omega,hb.1,hb.2,hx⟩,SO h0];simp
  ·rw[ab,SO];rintro rfl;exact hne _ _ rfl
theorem gL {t e:TypeId}{lo n:Nat}{v x:AVal}{cs:List AVal}{z:List AVal}(ht:P.underlying t=some (.slice e))(hz:P.cellsOf e=1)(hzero:bE P e=some z)(hx:x.one=true)
  (hb:(cs.length+1)*P.bytesOf e<=2 ^ 46/\cs.length+1<=2 ^ 46) (ho:aA lo H e v cs) (hlo:lo<=H.next) (hn:n=H.next+1):
  ∃ v' H',bf P (ext H [.arr 0 e [x]]) n t t v (.own H.next 0 0 1 1)=some (v',H')/\aA lo H' e v' (cs++[x])/\H.next<=H'.next/\(∀ k,k<H.next->(∀ g n,v≠.own k g 0 n 1)->H'.get k=H.get k):=by
 have hsrc:cw (ext H [.arr 0 e [x]]) 1 (.own H.next 0 0 1 1)=some (1,[x]):=by
  unfold cw;have:=ag (H:=ext H [.arr 0 e [x]]) (g:=0) (bT (b:=.arr 0 e [x]));simp [this]
 have hne:(ext H [Blk.arr 0 e [x]]).next=H.next+1:=rfl;rcases ho with ⟨rfl,rfl⟩|⟨i,g,h1,h2,rfl,h4⟩
 ·refine⟨.own (H.next+1) 0 0 1 1,ext (ext H [.arr 0 e [x]]) [.arr 0 e [x]],?_,.inr ⟨H.next+1,0,by omega,by simp [bI],by simp,?_⟩,by simp [bI];omega,fun k hk _=>?_⟩
  ·unfold bf;rw[ht];simp only[hzero,hz,Option.bind_some,hsrc];rw[SO (by decide),SQ (by simpa using hb),qQ (by rw[hn,hne]),hn];rfl
  ·rw[<- hne];exact bT
  ·rw[cz (by rw[hne];omega),cz hk]
 ·have h4':(ext H [.arr 0 e [x]]).get i=some (.arr g e cs):=by rw[cz h2];exact h4
  refine⟨.own i (g+1) 0 (cs.length+1) 1,(ext H [.arr 0 e [x]]).upd i (.arr (g+1) e (cs++[x])),?_,.inr ⟨i,g+1,h1,by rw[aw,hne];omega,by simp,by rw[ab,SQ rfl]⟩,by rw[aw,hne];omega,fun k hk hne=>?_⟩
  ·unfold bf;rw[ht];have hl:=ag h4';simp only[hzero,hz,Option.bind_some,hsrc,hl];rw[SQ ⟨trivial,trivial,by omega,hb.1,hb.2,by simp [hx]⟩];simp
  ·rw[ab,SO,cz hk];rintro rfl;exact hne _ _ rfl
def dP (lo:Nat)(H:AHeap)(e1 e0:TypeId)(v:AVal)(rows:List (List AVal)):Prop :=
 ∃ cs:List AVal,aA lo H e1 v cs/\cs.length=rows.length/\∀ (j:Nat) (r:List AVal) (c:AVal),rows[j]?=some r->cs[j]?=some c->aA lo H e0 c r
theorem dP.nil {lo:Nat}{e1 e0:TypeId}:dP lo H e1 e0 (.lit (.slice none 0 0)) []:=⟨[],.nil,rfl,fun j r c h=>by simp at h⟩
theorem dP.over {lo:Nat}{e1 e0:TypeId}{v:AVal}{rows:List (List AVal)}(h:dP lo H e1 e0 v rows)(ho:Over H H'):dP lo H' e1 e0 v rows:=by
 obtain⟨cs,c1,c2,c3⟩:=h;exact⟨cs,c1.over ho,c2,fun j r c hr hc=>(c3 j r c hr hc).over ho⟩
theorem dP.fz {S:Nat->Prop}{lo nx:Nat}{e1 e0:TypeId}{v:AVal}{rows rows':List (List AVal)}(h:dP lo H e1 e0 v rows)(hS:∀ i,lo<=i->S i)(hl:rows'.length=rows.length)
  (hr:∀ (j:Nat) (r r':List AVal),rows[j]?=some r->rows'[j]?=some r'->r'.length=r.length/\∀ i (h:i<r.length) (h':i<r'.length),Fz S H nx r[i] r'[i]):
  Fz S H nx v (.vec rows'.length (rows'.map fun r=>.vec r.length r)):=by
 obtain⟨cs,h1,h2,h3⟩:=h;have:=h1.fz (S:=S) (nx:=nx) (cs':=rows'.map fun r=>.vec r.length r) hS (by simp [h2,hl]) fun i hi hi'=>by
  simp only[S4];have hi2:i<rows.length:=by omega
  have hi3:i<rows'.length:=by omega
  obtain⟨a1,a2⟩:=hr i rows[i] rows'[i] (SN hi2) (SN hi3);exact(h3 i rows[i] cs[i] (SN hi2) (SN hi)).fz (S:=S) (nx:=nx) (cs':=rows'[i]) hS a1 a2
 rw[SZ]at this;exact this
theorem aA.qO {lo lo':Nat}{e e':TypeId}{v u:AVal}{cs cs':List AVal}(hv:aA lo H e v cs)(hu:aA lo' H e' u cs')(hne:e≠e')(hn:H.next<=H'.next)
  (hp:∀ k,k<H.next->(∀ g n,v≠.own k g 0 n 1)->H'.get k=H.get k):aA lo' H' e' u cs':=by
 refine hu.keep (Nat.le_refl _) hn fun i g h1 h2 h3 _=>hp i h2 fun g' n he=>?_;rcases hv with ⟨rfl,_⟩|⟨j,g2,_,_,rfl,h4⟩
 ·cases he
 ·have:=AVal.own.inj he;obtain rfl:j=i:=this.1;rw[h3]at h4;cases h4;exact hne rfl
theorem dP.app {lo n:Nat}{e1 e0:TypeId}{v x:AVal}{rows:List (List AVal)}{r:List AVal}{t:TypeId}{z:List AVal}(ht:P.underlying t=some (.slice e1))(hz:P.cellsOf e1=1)(hzero:bE P e1=some z)(hby:P.bytesOf e1=24)(hne:e1≠e0)
  (hb:rows.length<2 ^ 40) (h:dP lo H e1 e0 v rows) (hlo:lo<=H.next) (hx:aA lo H e0 x r) (hn:n=H.next+1):
  ∃ v' H',bf P (ext H [.arr 0 e1 [x]]) n t t v (.own H.next 0 0 1 1)=some (v',H')/\dP lo H' e1 e0 v' (rows++[r])/\H.next<=H'.next/\(∀ k,k<H.next->k<lo->H'.get k=H.get k):=by
 obtain⟨cs,h1,h2,h3⟩:=h;obtain⟨v',H',hA,hO,hL,hp⟩:=gL (t:=t) ht hz hzero hx.one (by rw[hby,h2];omega) h1 hlo hn;refine⟨v',H',hA,⟨cs++[x],hO,by simp [h2],fun j r' c hr hc=>?_⟩,hL,fun k hk hkl=>hp k hk fun g n he=>?_⟩
 ·have key:∀ u l,aA lo H e0 u l->aA lo H' e0 u l:=fun u l hu=>h1.qO hu hne hL hp;rcases Te j rows.length with hj|hj
  ·rw[SW hj]at hr;rw[SW (by omega)]at hc;exact key _ _ (h3 j r' c hr hc)
  ·rw[S5 hj]at hr;rw[S5 (by omega)]at hc;have hj0:j - rows.length=0:=by
    rcases T2 (j - rows.length) with h|h
    ·exact h
    ·rw[SV (by simp;omega)]at hr;cases hr
   have hj1:j - cs.length=0:=(by omega);rw[hj0]at hr;rw[hj1]at hc;cases hr;cases hc;exact key _ _ hx
 ·rcases h1 with ⟨rfl,_⟩|⟨i,g2,a1,_,rfl,_⟩
  ·cases he
  ·have:=AVal.own.inj he;omega
attribute [go_sem] Int.reduceToNat Int.reduceLE Int.reduceLT Int.reduceAdd Int.reduceSub Int.reduceMul Int.reduceEq Int.reduceNe Nat.reduceEqDiff Nat.reducePow Nat.reduceDiv Nat.reduceMod Nat.reduceAdd Nat.reduceMul Nat.reduceSub Nat.reduceLT Nat.reduceLeDiff reduceIte reduceCtorEq
end Go.Hx
