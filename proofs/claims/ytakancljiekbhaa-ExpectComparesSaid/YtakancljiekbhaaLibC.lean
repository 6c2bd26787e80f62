/-
  An evaluator of code on abstract states, made for the kernel. Own work: no program stands in this text.
-/
import Derived.Test.YtakancljiekbhaaLibB
import Derived.ProofKit
import Derived.SevenTiedAt
import Derived.RecoverIn
import Derived.MakeChecks
import Derived.OpenShut
set_option linter.all false
namespace Go.Hx
inductive BT (α:Type) where
 | nil
 | node (v:Option α) (l r:BT α)
inductive EBlk where
 | arr (gen:Nat) (elem:TypeId) (cells:List AVal)
 | loop (st:LoopState) (pend:Option Code) (n:Nat) (env:BT AVal) (ps:Array Tmp) (asg body:Code)
 | mp (es:List (Int × Int))
structure EH where
 hp:BT EBlk
 nx:Nat
inductive RR where
 | ev (x:AX) (env:BT AVal) (h:EH)
 | ret (v:AVal) (h:EH)
 | panic (h:EH)
abbrev R:=Option RR
noncomputable def dP:BT AVal->Nat->Option AVal :=
 BT.rec (motive:=fun _=>Nat->Option AVal) (fun _=>none) (fun v _ _ gl gr n =>
  Nat.rec (motive:=fun _=>Option AVal) v (fun m _=>Nat.rec (motive:=fun _=>Option AVal) (gl (Nat.div m 2)) (fun _ _=>gr (Nat.div m 2)) (Nat.mod m 2)) n)
noncomputable def aP:BT EBlk->Nat->Option EBlk :=
 BT.rec (motive:=fun _=>Nat->Option EBlk) (fun _=>none) (fun v _ _ gl gr n =>
  Nat.rec (motive:=fun _=>Option EBlk) v (fun m _=>Nat.rec (motive:=fun _=>Option EBlk) (gl (Nat.div m 2)) (fun _ _=>gr (Nat.div m 2)) (Nat.mod m 2)) n)
noncomputable def rF:Nat->Nat->AVal->(BT AVal->R)->R :=
 Nat.rec (motive:=fun _=>Nat->AVal->(BT AVal->R)->R) (fun _ _ _=>none) (fun _ ih n x k =>
  Nat.rec (motive:=fun _=>R) (k (.node (some x) .nil .nil)) (fun m _=>Nat.rec (motive:=fun _=>R) (ih (Nat.div m 2) x fun l=>k (.node none l .nil)) (fun _ _=>ih (Nat.div m 2) x fun r=>k (.node none .nil r)) (Nat.mod m 2)) n)
noncomputable def km:BT AVal->Nat->AVal->(BT AVal->R)->R :=
 BT.rec (motive:=fun _=>Nat->AVal->(BT AVal->R)->R) (rF 20) (fun v l r sl sr n x k =>
  Nat.rec (motive:=fun _=>R) (k (.node (some x) l r)) (fun m _=>Nat.rec (motive:=fun _=>R) (sl (Nat.div m 2) x fun l=>k (.node v l r)) (fun _ _=>sr (Nat.div m 2) x fun r=>k (.node v l r)) (Nat.mod m 2)) n)
noncomputable def rG:Nat->Nat->EBlk->(BT EBlk->R)->R :=
 Nat.rec (motive:=fun _=>Nat->EBlk->(BT EBlk->R)->R) (fun _ _ _=>none) (fun _ ih n x k =>
  Nat.rec (motive:=fun _=>R) (k (.node (some x) .nil .nil)) (fun m _=>Nat.rec (motive:=fun _=>R) (ih (Nat.div m 2) x fun l=>k (.node none l .nil)) (fun _ _=>ih (Nat.div m 2) x fun r=>k (.node none .nil r)) (Nat.mod m 2)) n)
noncomputable def fh:BT EBlk->Nat->EBlk->(BT EBlk->R)->R :=
 BT.rec (motive:=fun _=>Nat->EBlk->(BT EBlk->R)->R) (rG 20) (fun v l r sl sr n x k =>
  Nat.rec (motive:=fun _=>R) (k (.node (some x) l r)) (fun m _=>Nat.rec (motive:=fun _=>R) (sl (Nat.div m 2) x fun l=>k (.node v l r)) (fun _ _=>sr (Nat.div m 2) x fun r=>k (.node v l r)) (Nat.mod m 2)) n)
noncomputable def cV (n:Nat)(k:Nat->R):R:=Nat.rec (motive:=fun _=>R) (k 0) (fun m _=>k (Nat.succ m)) n
noncomputable def lH (i:Int)(k:Int->R):R:=Int.rec (motive:=fun _=>R) (fun n=>cV n fun n=>k (.ofNat n)) (fun n=>cV n fun n=>k (.negSucc n)) i
noncomputable def uT (b:Bool)(k:Bool->R):R:=Bool.rec (motive:=fun _=>R) (k false) (k true) b
noncomputable def fj:List AVal->(List AVal->R)->R :=
 List.rec (motive:=fun _=>(List AVal->R)->R) (fun k=>k []) (fun x _ ih k=>ih fun l=>k (x :: l))
noncomputable def rH:List (Int × Int)->(List (Int × Int)->R)->R :=
 List.rec (motive:=fun _=>(List (Int × Int)->R)->R) (fun k=>k []) (fun p _ ih k=>Prod.casesOn (motive:=fun _=>R) p fun a b=>lH a fun a=>lH b fun b=>ih fun l=>k ((a,b) :: l))
noncomputable def uU (v:Value)(k:Value->R):R:=match v with
 | .int i n=>lH n fun n=>k (.int i n)
 | .bool b=>uT b fun b=>k (.bool b)
 | v=>k v
noncomputable def uV (v:Value)(k:AVal->R):R:=uU v fun v=>k (.lit v)
noncomputable def uW (n:Nat)(cs:List AVal)(k:AVal->R):R:=cV n fun n=>fj cs fun cs=>k (.vec n cs)
noncomputable def uX (a b c d e:Nat)(k:AVal->R):R:=cV a fun a=>cV b fun b=>cV c fun c=>cV d fun d=>cV e fun e=>k (.own a b c d e)
noncomputable def uY (a b c:Nat)(k:AVal->R):R:=cV a fun a=>cV b fun b=>cV c fun c=>k (.ptr a b c)
noncomputable def uZ (cs:List AVal)(n:Nat)(k:AVal->R):R:=cV n fun n=>fj cs fun cs=>k (.vptr cs n)
noncomputable def u0 (cs:List AVal)(k:AVal->R):R:=fj cs fun cs=>k (.agg cs)
noncomputable def u6 (cs:List AVal)(k:AVal->R):R:=fj cs fun cs=>k (.tup cs)
noncomputable def u7 (f:FuncId)(a b:List AVal)(k:AVal->R):R:=cV f fun f=>fj a fun a=>fj b fun b=>k (.clo f a b)
noncomputable def u9 (n:Nat)(k:AVal->R):R:=cV n fun n=>k (.yld n)
noncomputable def jd:AVal->(AVal->R)->R:=fun v=>AVal.casesOn (motive_1:=fun _=>(AVal->R)->R) v uV uW uX uY uZ u0 u6 u7 u9
noncomputable def aD (env:BT AVal):Env:=fun t=>Option.casesOn (motive:=fun _=>AVal) (dP env t) (.lit undef) fun v=>v
noncomputable def EBlk.je:EBlk->Blk
 | .arr g e c=>.arr g e c
 | .loop st p n env ps a b=>.loop st p n (aD env) ps a b
 | .mp es=>.mp es
noncomputable def ao (h:EH):AHeap:=⟨fun j=>(aP h.hp j).map EBlk.je,h.nx⟩
noncomputable def eG (env:BT AVal)(d:Option Tmp)(v:AVal)(k:BT AVal->R):R :=
 Option.casesOn (motive:=fun _=>R) d (k env) fun d=>km env d v k
noncomputable def va (G:Nat->Option (List AVal))(g:Nat)(k:AVal->R):R :=
 Option.casesOn (motive:=fun _=>R) (G g) (k (.lit (.pointer (some ⟨g,0,none⟩)))) fun cells=>fj cells fun cells=>k (.vptr cells 0)
noncomputable def vb (env:BT AVal)(t:Tmp)(k:AVal->R):R:=Option.casesOn (motive:=fun _=>R) (dP env t) (k (.lit undef)) k
noncomputable def bZ (G:Nat->Option (List AVal))(env:BT AVal)(x:Operand)(k:AVal->R):R :=
 Operand.casesOn (motive:=fun _=>R) x (fun t=>vb env t k) (fun v=>k (.lit v)) (fun g=>va G g k) (fun f=>k (.clo f [] []))
noncomputable def ko (G:Nat->Option (List AVal))(env:BT AVal)(l:List Operand):(List AVal->R)->R :=
 List.rec (motive:=fun _=>(List AVal->R)->R) (fun k=>k []) (fun x _ ih k=>bZ G env x fun x=>ih fun l=>k (x :: l)) l
inductive OR where
 | fail
 | val (v:AVal)
 | eff (v:AVal) (r g:Nat) (e:TypeId) (cells:List AVal) (fresh:Bool)
 | effM (v:AVal) (r:Nat) (es:List (Int × Int)) (fresh:Bool)
noncomputable def OR.opt (o:Option AVal):OR:=Option.casesOn (motive:=fun _=>OR) o .fail .val
noncomputable def pF (k:IntKind)(i:Int):Int :=
 match k with
 | .i64=>Int.casesOn (motive:=fun _=>Int) i
   (fun n=>Bool.casesOn (motive:=fun _=>Int) (Nat.ble n 9223372036854775807) (IntKind.i64.wrap (.ofNat n)) (.ofNat n))
   (fun n=>Bool.casesOn (motive:=fun _=>Int) (Nat.ble n 9223372036854775807) (IntKind.i64.wrap (.negSucc n)) (.negSucc n))
 | k=>k.wrap i
noncomputable def pG (a b:Int):Bool :=
 Int.casesOn (motive:=fun _=>Bool) a
  (fun m=>Int.casesOn (motive:=fun _=>Bool) b (fun n=>Nat.ble (Nat.succ m) n) fun _=>false)
  (fun m=>Int.casesOn (motive:=fun _=>Bool) b (fun _=>true) fun n=>Nat.ble (Nat.succ n) m)
noncomputable def pH (a b:Int):Bool :=
 Int.casesOn (motive:=fun _=>Bool) a
  (fun m=>Int.casesOn (motive:=fun _=>Bool) b (fun n=>Nat.beq m n) fun _=>false)
  (fun m=>Int.casesOn (motive:=fun _=>Bool) b (fun _=>false) fun n=>Nat.beq m n)
noncomputable def vd (P:Program)(h:EH)(t:TypeId)(a:AVal):Option AVal :=
 match a with
 | .ptr id gen off=>match aP h.hp id with
  | some (.arr g _ cells)=>Bool.casesOn (motive:=fun _=>Option AVal) (Nat.beq g gen) none (dS P t cells off)
  | _=>none
 | .vptr cells off=>dS P t cells off
 | _=>none
noncomputable def nu (P:Program)(h:EH)(t:TypeId)(a v:AVal):OR :=
 match a with
 | .ptr id gen off=>match aP h.hp id with
  | some (.arr g e cells)=>Bool.casesOn (motive:=fun _=>OR) (Nat.beq g gen) .fail
    (if v.cells.length=P.cellsOf t/\v.cells.all AVal.one=true/\off+v.cells.length<=cells.length then .eff (.lit undef) id g e (setAt cells off v.cells) false else .fail)
  | _=>.fail
 | _=>.fail
noncomputable def pI (h:EH)(f:FP)(r:Option (AVal × AHeap)):OR :=
 match r with
 | none=>.fail
 | some (v,H')=>match f.eff with
  | []=>.val v
  | r :: _=>match H'.get r with
   | some (.arr g e c)=>.eff v r g e c (Nat.beq r h.nx)
   | some (.mp es)=>.effM v r es (Nat.beq r h.nx)
   | _=>.fail
noncomputable def ve (h:EH)(k:AVal->EH->R)(o:OR):R :=
 OR.casesOn (motive:=fun _=>R) o none (fun v=>jd v fun v=>k v h)
  (fun v r g e c fresh=>cV r fun r=>cV g fun g=>fj c fun c=>fh h.hp r (EBlk.arr g e c) fun hp=>jd v fun v=>k v ⟨hp,Bool.casesOn (motive:=fun _=>Nat) fresh h.nx (Nat.succ h.nx)⟩)
  (fun v r es fresh=>cV r fun r=>rH es fun es=>fh h.hp r (EBlk.mp es) fun hp=>jd v fun v=>k v ⟨hp,Bool.casesOn (motive:=fun _=>Nat) fresh h.nx (Nat.succ h.nx)⟩)
structure GD where
 z:AVal
 ok:AVal->Bool
structure EP where
 P:Program
 G:Nat->Option (List AVal)
 gd:FuncId->Option GD
  /-- What is known already of a function's calls. -/
 known:FuncId->Option (List (List AVal × AVal))
  /-- What a call of a function without a body comes to. -/
 ext:FuncId->Option (List AVal->Option AVal):=fun _=>none
noncomputable def bK (f:AVal->Option (AVal × List Nat))(l:List AVal):Option (List AVal × List Nat) :=
 List.rec (motive:=fun _=>Option (List AVal × List Nat)) (some ([],[])) (fun x _ r=>match f x,r with
  | some (y,a),some (l,b)=>some (y :: l,a++b)
  | _,_=>none) l
noncomputable def fV (h:EH)(fuel:Nat):AVal->Option (AVal × List Nat) :=
 Nat.rec (motive:=fun _=>AVal->Option (AVal × List Nat)) (fun _=>none) (fun _ ih v=>match v with
  | .lit v=>some (.lit v,[])
  | .vec n c=>(bK ih c).map fun p=>(.vec n p.1,p.2)
  | .vptr c o=>(bK ih c).map fun p=>(.vptr p.1 o,p.2)
  | .agg c=>(bK ih c).map fun p=>(.agg p.1,p.2)
  | .tup c=>(bK ih c).map fun p=>(.tup p.1,p.2)
  | .clo f a b=>match bK ih a,bK ih b with
   | some p,some q=>some (.clo f p.1 q.1,p.2++q.2)
   | _,_=>none
  | .own id g o l z=>match aP h.hp id with
   | some (.arr g' _ cells)=>if g'=g/\o+l*z<=cells.length then (bK ih ((cells.drop o).take (l*z))).map fun p=>(.vec l p.1,id :: p.2) else none
   | _=>none
  | .ptr id g o=>match aP h.hp id with
   | some (.arr g' _ (x :: cells))=>if g'=g then (bK ih (x :: cells)).map fun p=>(.vptr p.1 o,id :: p.2) else none
   | _=>none
  | .yld _=>none) fuel
noncomputable def jf (f:AVal->Option AVal)(l:List AVal):Option (List AVal) :=
 List.rec (motive:=fun _=>Option (List AVal)) (some []) (fun x _ r=>match f x,r with
  | some y,some l=>some (y :: l)
  | _,_=>none) l
noncomputable def lJ (h:EH)(fuel:Nat):AVal->Option AVal :=
 Nat.rec (motive:=fun _=>AVal->Option AVal) (fun _=>none) (fun _ ih v=>match v with
  | .lit v=>some (.lit v)
  | .agg c=>(jf ih c).map .agg
  | .tup c=>(jf ih c).map .tup
  | .own id g o l z=>match aP h.hp id with
   | some (.arr g' _ cells)=>if g'=g/\o+l*z<=cells.length then (jf ih ((cells.drop o).take (l*z))).map (.vec l) else none
   | _=>none
  | _=>none) fuel
noncomputable def eR (f:AVal->AVal->Bool)(a:List AVal):List AVal->Bool :=
 List.rec (motive:=fun _=>List AVal->Bool) (fun b=>match b with|[]=>true|_=>false) (fun x _ ih b=>match b with
  | []=>false
  | y :: b=>match f x y with|true=>ih b|false=>false) a
noncomputable def vf (ih:AVal->AVal->Bool)(a b:AVal):Bool:=match a,b with
 | .lit (.int k x),.lit (.int k' y)=>decide (k=k') && pH x y
 | .lit (.bool x),.lit (.bool y)=>x == y
 | .lit (.slice none 0 0),.lit (.slice none 0 0)=>true
 | .vec n c,.vec m d=>Nat.beq n m && eR ih c d
 | .vptr c n,.vptr d m=>Nat.beq n m && eR ih c d
 | .agg c,.agg d=>eR ih c d
 | .tup c,.tup d=>eR ih c d
 | .clo f a b,.clo g c d=>Nat.beq f g && (eR ih a c && eR ih b d)
 | _,_=>false
noncomputable def nA (fuel:Nat):AVal->AVal->Bool:=Nat.rec (motive:=fun _=>AVal->AVal->Bool) (fun _ _=>false) (fun _ ih=>vf ih) fuel
noncomputable def dW (l:List Nat)(n:Nat):Bool:=List.rec (motive:=fun _=>Bool) false (fun x _ ih=>Bool.rec (motive:=fun _=>Bool) ih true (Nat.beq x n)) l
noncomputable def vg (f:Nat->Bool)(l:List Nat):Bool:=List.rec (motive:=fun _=>Bool) true (fun x _ ih=>Bool.rec (motive:=fun _=>Bool) false ih (f x)) l
abbrev KF:=AVal->List Nat->Option (List Nat)
noncomputable def iF (f:KF)(l:List AVal):List Nat->Option (List Nat) :=
 List.rec (motive:=fun _=>List Nat->Option (List Nat)) (fun acc=>some acc) (fun x _ ih acc=>match f x acc with
  | some acc=>ih acc
  | none=>none) l
noncomputable def nC (h:EH)(lo:Nat)(kp:List Nat)(rc:KF)(id:Nat)(acc:List Nat):Option (List Nat) :=
 match Nat.blt id lo with
 | true=>match dW kp id with
  | true=>some acc
  | false=>none
 | false=>match dW acc id with
  | true=>some acc
  | false=>match aP h.hp id with
   | some (.arr _ _ cells)=>iF rc cells (id :: acc)
   | _=>none
noncomputable def jg (h:EH)(lo:Nat)(kp:List Nat)(fuel:Nat):KF :=
 Nat.rec (motive:=fun _=>KF) (fun _ _=>none) (fun _ ih v acc=>match v with
  | .lit _=>some acc
  | .vec 0 []=>some acc
  | .agg c=>iF ih c acc
  | .tup c=>iF ih c acc
  | .clo _ a b=>match iF ih a acc with
   | some acc=>iF ih b acc
   | none=>none
  | .own id _ _ _ _=>nC h lo kp ih id acc
  | .ptr id _ _=>nC h lo kp ih id acc
  | _=>none) fuel
abbrev CF:=AVal->List Nat->(List Nat->R)->R
noncomputable def jh (f:CF)(l:List AVal):List Nat->(List Nat->R)->R :=
 List.rec (motive:=fun _=>List Nat->(List Nat->R)->R) (fun acc k=>k acc) (fun x _ ih acc k=>f x acc fun acc=>ih acc k) l
noncomputable def rI (f:CF)(acc:List Nat)(k:List Nat->R)(b:Option EBlk):R:=match b with
 | some (.arr _ _ cells)=>jh f cells acc k
 | _=>k acc
noncomputable def vh (h:EH)(f:CF)(v:AVal)(acc:List Nat)(k:List Nat->R):R:=match v with
 | .vec _ c=>jh f c acc k
 | .vptr c _=>jh f c acc k
 | .agg c=>jh f c acc k
 | .tup c=>jh f c acc k
 | .clo _ a b=>jh f a acc fun acc=>jh f b acc k
 | .own id _ _ _ _=>rI f acc k (aP h.hp id)
 | .ptr id _ _=>rI f acc k (aP h.hp id)
 | _=>k acc
noncomputable def rJ (h:EH)(fuel:Nat):CF:=Nat.rec (motive:=fun _=>CF) (fun _ acc k=>k acc) (fun _ ih v acc k=>match jg h 0 [] 40 v acc with
 | some acc=>k acc
 | none=>vh h ih v acc k) fuel
noncomputable def iG (h:EH)(kp:List Nat)(fuel:Nat):AVal->Option (AVal × List Nat) :=
 Nat.rec (motive:=fun _=>AVal->Option (AVal × List Nat)) (fun _=>none) (fun _ ih v=>match v with
  | .lit v=>some (.lit v,[])
  | .vec n c=>(bK ih c).map fun p=>(.vec n p.1,p.2)
  | .vptr c o=>(bK ih c).map fun p=>(.vptr p.1 o,p.2)
  | .agg c=>(bK ih c).map fun p=>(.agg p.1,p.2)
  | .tup c=>(bK ih c).map fun p=>(.tup p.1,p.2)
  | .clo f a b=>match bK ih a,bK ih b with
   | some p,some q=>some (.clo f p.1 q.1,p.2++q.2)
   | _,_=>none
  | .own id g o l z=>match dW kp id with
   | true=>some (.own id g o l z,[])
   | false=>match aP h.hp id with
    | some (.arr g' _ cells)=>if g'=g/\o+l*z<=cells.length then (bK ih ((cells.drop o).take (l*z))).map fun p=>(.vec l p.1,id :: p.2) else none
    | _=>none
  | .ptr id g o=>match dW kp id with
   | true=>some (.ptr id g o,[])
   | false=>match aP h.hp id with
    | some (.arr g' _ (x :: cells))=>if g'=g then (bK ih (x :: cells)).map fun p=>(.vptr p.1 o,id :: p.2) else none
    | _=>none
  | .yld _=>none) fuel
noncomputable def vj (h:EH)(l:List Nat)(k:BT EBlk->R):BT EBlk->R :=
 List.rec (motive:=fun _=>BT EBlk->R) (fun t=>k t) (fun id _ ih t=>match aP h.hp id with
  | some b=>fh t id b ih
  | none=>none) l
noncomputable def vk (a b:Value):Bool:=match a,b with
 | .int k x,.int k' y=>decide (k=k') && pH x y
 | .bool x,.bool y=>x == y
 | .slice none 0 0,.slice none 0 0=>true
 | .pointer none,.pointer none=>true
 | _,_=>false
noncomputable def vm (ih:AVal->AVal->Bool)(a b:AVal):Bool:=match a,b with
 | .lit x,.lit y=>vk x y
 | .vec n c,.vec m d=>Nat.beq n m && eR ih c d
 | .agg c,.agg d=>eR ih c d
 | .tup c,.tup d=>eR ih c d
 | .clo f a b,.clo g c d=>Nat.beq f g && (eR ih a c && eR ih b d)
 | .own a b c d e,.own a' b' c' d' e'=>Nat.beq a a' && (Nat.beq b b' && (Nat.beq c c' && (Nat.beq d d' && Nat.beq e e')))
 | .ptr a b c,.ptr a' b' c'=>Nat.beq a a' && (Nat.beq b b' && Nat.beq c c')
 | _,_=>false
noncomputable def vn (fuel:Nat):AVal->AVal->Bool:=Nat.rec (motive:=fun _=>AVal->AVal->Bool) (fun _ _=>false) (fun _ ih=>vm ih) fuel
noncomputable def vp (a b:Option EBlk):Bool:=match a,b with
 | some (.arr g e c),some (.arr g' e' c')=>Nat.beq g g' && (Nat.beq e e' && eR (vn 40) c c')
 | _,_=>false
noncomputable def vq (h':EH)(lv:List Nat)(t:BT EBlk)(k:BT EBlk->R)(id:Nat):R:=match dW lv id with
 | true=>match aP h'.hp id with
  | some b=>fh t id b k
  | none=>none
 | false=>fh t id (.arr 0 0 []) k
noncomputable def rK (h':EH)(lv:List Nat)(lo n:Nat):BT EBlk->(BT EBlk->R)->R :=
 Nat.rec (motive:=fun _=>BT EBlk->(BT EBlk->R)->R) (fun t k=>k t) (fun i ih t k=>cV (Nat.add lo i) (vq h' lv t fun t=>ih t k)) n
noncomputable def rL (k:BT AVal->R)(l:List AVal):Nat->BT AVal->R :=
 List.rec (motive:=fun _=>Nat->BT AVal->R) (fun _ t=>k t) (fun v _ ih i t=>km t i v fun t=>cV (Nat.succ i) fun i=>ih i t) l
noncomputable def nD (h:EH):Option Nat->Bool
 | none=>true
 | some id=>match aP h.hp id with|some (.loop ..)=>true|_=>false
abbrev iH:=Option Nat->Nat->Code->BT AVal->EH->R
section step
variable (E:EP) (ih:iH)
noncomputable def rN (nx:Nat)(v:AVal)(h':EH):R:=Bool.rec (motive:=fun _=>R) none (jd v fun v=>some (.ret v h')) (Nat.ble nx h'.nx)
noncomputable def zm (rs:List ResultVar)(nx:Nat)(r:R):R:=match r with
 | some (.ev .normal env h')=>match dN E.P (ao h') (aD env) rs with
  | some vs=>rN nx (fR vs) h'
  | none=>none
 | some (.ev .ret env h')=>match dN E.P (ao h') (aD env) rs with
  | some vs=>rN nx (fR vs) h'
  | none=>none
 | some (.ev .panic _ h')=>Bool.rec (motive:=fun _=>R) none (some (.panic h')) (Nat.ble nx h'.nx)
 | _=>none
def zp (fn : Func) (c : Code) : Bool := fits fn.ntmps c && !(fn.name == "runtime.NumGoroutine")
noncomputable def rP (fn:Func)(c:Code)(args:List AVal)(h:EH):R :=
 Bool.rec (motive:=fun _=>R) none (Bool.rec (motive:=fun _=>R) none (rL (fun env=>zm E fn.results.toList h.nx (ih none fn.ntmps c env h)) args 0 .nil) (Nat.ble args.length fn.ntmps)) (zp fn c)
noncomputable def kq (f:FuncId)(args:List AVal)(h:EH):R :=
 Option.rec (motive:=fun _=>R) none (fun fn=>Option.rec (motive:=fun _=>R) none (fun c=>rP E ih fn c args h) fn.body) (E.P.funcs[f]?)
noncomputable def vr (f:FuncId)(args:List AVal):Option AVal:=match kq E ih f args ⟨.nil,0⟩ with
 | some (.ret v h')=>lJ h' 40 v
 | _=>none
noncomputable def rQ (args:List AVal)(l:List (List AVal × AVal)):Option AVal :=
 List.rec (motive:=fun _=>Option AVal) none (fun p _ ih=>Bool.casesOn (motive:=fun _=>Option AVal) (eR (nA 40) p.1 args) ih (some p.2)) l
noncomputable def vt (f:FuncId)(args:List AVal):Option (Option AVal):=match kq E ih f args ⟨.nil,0⟩ with
 | some (.ret v h')=>match lJ h' 40 v with
  | some u=>some (some u)
  | none=>none
 | some (.panic _)=>some none
 | _=>none
noncomputable def zq (z:GD)(h:EH)(r:Option (Option AVal)):R:=match r with
 | some (some u)=>Bool.rec (motive:=fun _=>R) none (some (.ret (.tup [u,.lit (.int .i64 0)]) h)) (z.ok u)
 | some none=>some (.ret (.tup [z.z,.lit (.int .i64 6)]) h)
 | none=>none
noncomputable def zt (z:GD)(args:List AVal)(h:EH):R:=match args with
 | [.clo g [] cap]=>match bK (fV h 40) cap with
  | some p=>Bool.rec (motive:=fun _=>R) none (zq z h (vt E ih g p.1)) (p.2.all fun r=>Nat.blt r h.nx)
  | none=>none
 | _=>none
noncomputable def rR (k:BT AVal->R):List Tmp->List AVal->BT AVal->R
 | p :: ps,v :: vs,e=>km e p v fun e=>rR k ps vs e
 | [],[],e=>k e
 | _,_,_=>none
noncomputable def pJ (id:Nat)(st:LoopState)(pend:Option Code)(b:Bool)(h2:EH):R:=match aP h2.hp id with
 | some (.loop _ _ n env ps asg body)=>fh h2.hp id (EBlk.loop st pend n env ps asg body) fun hp=>some (.ret (.lit (.bool b)) ⟨hp,h2.nx⟩)
 | _=>none
noncomputable def endRound (id:Nat)(r:R):R:=match r with
 | some (.ev .normal _ h2)=>pJ id .ready none true h2
 | some (.ev .ret _ h2)=>pJ id .done (some .ret) false h2
 | some (.ev (.exit i) _ h2)=>pJ id .done (some (.exit i)) false h2
 | _=>none
noncomputable def zu (id n:Nat)(body:Code)(r:R):R:=match r with
 | some (.ev .normal e h1)=>match aP h1.hp id with
  | some (.loop .ready pend n2 env2 ps2 asg2 body2)=>fh h1.hp id (EBlk.loop .busy pend n2 env2 ps2 asg2 body2) fun hp1=>endRound id (ih (some id) n body e ⟨hp1,h1.nx⟩)
  | _=>none
 | _=>none
def zw (v:Option AVal)(b n:Nat):Bool:=match v with
 | none=>true
 | some _=>Nat.blt b n
noncomputable def okB:BT AVal->Nat->Nat->Nat->Bool :=
 BT.rec (motive:=fun _=>Nat->Nat->Nat->Bool) (fun _ _ _=>true) (fun v _ _ fl fr a b n=>zw v b n && (fl (Nat.mul 2 a) (Nat.add a b) n && fr (Nat.mul 2 a) (Nat.add (Nat.mul 2 a) b) n))
noncomputable def zx (env:BT AVal)(n:Nat)(ps:Array Tmp)(asg body:Code):Bool:=okB env 1 0 n && (fits n asg && (fits n body && ps.toList.all fun p=>decide (p<n)))
noncomputable def vu (id:Nat)(args:List AVal)(h:EH):R :=
 match aP h.hp id with
 | some (.loop .ready _ n env ps asg body) =>
  Bool.rec (motive:=fun _=>R) none (rR (fun e=>zu ih id n body (ih (some id) n asg e h)) ps.toList args env) (zx env n ps asg body)
 | _=>none
noncomputable def zy (f:FuncId)(args:List AVal)(h:EH)(l:List (List AVal × AVal)):R :=
 match bK (fV h 40) args with
 | none=>none
 | some p=>match rQ p.1 l with
  | some v=>some (.ret v h)
  | none=>kq E ih f args h
noncomputable def vv (f:FuncId)(first cap args:List AVal)(h:EH):R :=
 match E.gd f with
 | none=>fj (first++args++cap) fun args=>match E.known f with
  | none=>kq E ih f args h
  | some l=>zy E ih f args h l
 | some z=>fj (first++args++cap) fun args=>zt E ih z args h
noncomputable def zz (e:List AVal->Option AVal)(fc args:List AVal)(h:EH):R:=match fc with
 | []=>fj args fun args=>match e args with
  | some r=>jd r fun r=>some (.ret r h)
  | none=>none
 | _=>none
noncomputable def rS (fv:AVal)(args:List AVal)(h:EH):R :=
 match fv with
 | .clo f first cap=>match E.ext f with
  | none=>vv E ih f first cap args h
  | some e=>zz e (first++cap) args h
 | .yld id=>vu ih id args h
 | _=>none
noncomputable def zA (rd:Option Nat)(d:Option Tmp)(k:BT AVal->EH->R)(env:BT AVal)(r:R):R:=match r with
 | some (.ret v h')=>Bool.casesOn (motive:=fun _=>R) (nD h' rd) none (eG env d v fun env=>k env h')
 | some (.panic h')=>Bool.casesOn (motive:=fun _=>R) (nD h' rd) none (some (.ev .panic env h'))
 | _=>none
noncomputable def cZ (d:Option Tmp)(k:BT AVal->EH->R)(env:BT AVal)(o:OR)(h:EH):R:=ve h (fun v h=>eG env d v fun env=>k env h) o
noncomputable def pK (d:Option Tmp)(k:BT AVal->EH->R)(env:BT AVal)(h:EH)(kd:IntKind)(i:Int):R:=lH i fun i=>eG env d (.lit (.int kd i)) fun env=>k env h
noncomputable def ji (d:Option Tmp)(k:BT AVal->EH->R)(env:BT AVal)(h:EH)(b:Bool):R:=uT b fun b=>eG env d (.lit (.bool b)) fun env=>k env h
abbrev bO:=EP->iH->Option Nat->Option Tmp->(BT AVal->EH->R)->BT AVal->EH->R
end step
noncomputable def ks (x:Operand):bO:=fun E _ _ d k env h=>bZ E.G env x fun v=>eG env d v fun env=>k env h
noncomputable def rT (e:TypeId)(x:Operand):bO:=fun E _ _ d k env h=>bZ E.G env x fun v=>cZ d k env (.eff (.ptr h.nx 0 0) h.nx 0 e v.cells true) h
noncomputable def rU (t:TypeId)(parts:Array (Nat × Operand)):bO:=fun E _ _ d k env h =>
 ko E.G env (parts.toList.map (·.2)) fun vs=>cZ d k env (.opt (mL E.P t ((parts.toList.map (·.1)).zip vs))) h
noncomputable def rV (t:TypeId)(len:Nat)(parts:Array (Nat × Operand)):bO:=fun E _ _ d k env h =>
 ko E.G env (parts.toList.map (·.2)) fun vs=>cZ d k env (pI h ⟨[h.nx],[]⟩ (ix E.P (ao h) h.nx t len ((parts.toList.map (·.1)).zip vs))) h
noncomputable def rW (t:TypeId)(a:Operand):bO:=fun E _ _ d k env h=>bZ E.G env a fun a=>cZ d k env (.opt (vd E.P h t a)) h
noncomputable def rX (t:TypeId)(a x:Operand):bO:=fun E _ _ d k env h =>
 Bool.rec (motive:=fun _=>R) none (bZ E.G env a fun a=>bZ E.G env x fun v=>cZ d k env (nu E.P h t a v) h) (E.P.underlying t).isSome
abbrev iI:=IntKind->Int->Int->Option Tmp->(BT AVal->EH->R)->BT AVal->EH->R
noncomputable def IC:iI:=fun kd a b d k env h=>pK d k env h kd (pF kd (Int.add a b))
noncomputable def ID:iI:=fun kd a b d k env h=>pK d k env h kd (pF kd (Int.sub a b))
noncomputable def IE:iI:=fun kd a b d k env h=>pK d k env h kd (pF kd (Int.mul a b))
noncomputable def IF:iI:=fun _ a b d k env h=>ji d k env h (pG a b)
noncomputable def IG:iI:=fun _ a b d k env h=>ji d k env h (pG b a)
noncomputable def IH:iI:=fun _ a b d k env h=>ji d k env h (pG b a).not
noncomputable def II:iI:=fun _ a b d k env h=>ji d k env h (pG a b).not
noncomputable def IJ:iI:=fun _ a b d k env h=>ji d k env h (pH a b)
noncomputable def IK:iI:=fun _ a b d k env h=>ji d k env h (pH a b).not
noncomputable def pL (op:BinOp):Option iI:=match op with
 | .add=>some IC|.sub=>some ID|.mul=>some IE|.lss=>some IF|.gtr=>some IG|.leq=>some IH|.geq=>some II|.eql=>some IJ|.neq=>some IK
 | _=>none
def lK:IntKind->Nat
 | .i8=>0|.i16=>1|.i32=>2|.i64=>3|.u8=>4|.u16=>5|.u32=>6|.u64=>7
noncomputable def rY (E:EP)(op:BinOp)(t:TypeId)(x y:Operand)(a b:AVal)(d:Option Tmp)(k:BT AVal->EH->R)(env:BT AVal)(h:EH):R:=cZ d k env (.opt (aX E.P op t x y a b)) h
noncomputable def zB (E:EP)(op:BinOp)(t:TypeId)(x y:Operand)(a b:AVal)(d:Option Tmp)(k:BT AVal->EH->R)(env:BT AVal)(h:EH):R:=match gz (ao h) op a b with
 | none=>rY E op t x y a b d k env h
 | some true=>Bool.rec (motive:=fun _=>R) none (ji d k env h (op == .neq)) (jK (E.P.underlying t))
 | some false=>none
noncomputable def zC (E:EP)(op:BinOp)(t:TypeId)(x y:Operand)(a b:AVal)(d:Option Tmp)(k:BT AVal->EH->R)(env:BT AVal)(h:EH):R :=
 match a,b with
 | .lit (.int kd a),.lit (.int kd' b)=>Bool.rec (motive:=fun _=>R) (rY E op t x y (.lit (.int kd a)) (.lit (.int kd' b)) d k env h) (Option.rec (motive:=fun _=>R) (rY E op t x y (.lit (.int kd a)) (.lit (.int kd' b)) d k env h) (fun f=>f kd a b d k env h) (pL op)) (Nat.beq (lK kd) (lK kd'))
 | a,b=>zB E op t x y a b d k env h
noncomputable def rZ (op:BinOp)(t:TypeId)(x y:Operand)(_:TypeId):bO:=fun E _ _ d k env h=>bZ E.G env x fun a=>bZ E.G env y fun b=>zC E op t x y a b d k env h
noncomputable def r6 (fn:Fn)(first cap:Array Operand):bO:=fun E _ _ d k env h =>
 match fn with
 | .func f=>ko E.G env first.toList fun a=>ko E.G env cap.toList fun b=>eG env d (.clo f a b) fun env=>k env h
 | _=>none
noncomputable def r7 (t:TypeId)(x i:Operand):bO:=fun E _ _ d k env h=>bZ E.G env x fun x=>bZ E.G env i fun i=>cZ d k env (.opt (ng E.P (ao h) t x i)) h
noncomputable def lL (E:EP)(env:BT AVal)(h:EH)(o:Op):OR:=pI h (bf E.P E.G (aD env) h.nx o) (af E.P E.G (aD env) (ao h) h.nx o)
noncomputable def eS (o:Op):bO:=fun E _ _ d k env h=>cZ d k env (lL E env h o) h
noncomputable def vw (x:Operand):bO:=fun E _ _ _ _ env h=>match ah E.G (aD env) x with
 | .lit (.iface _ _)=>some (.ev .panic env h)
 | _=>none
noncomputable def vy (fv:Operand)(args:Array Operand):bO:=fun E ih rd d k env h =>
 ko E.G env args.toList fun args=>bZ E.G env fv fun fv=>zA rd d k env (rS E ih fv args h)
noncomputable def pM:bO:=fun _ _ _ _ _ _ _=>none
noncomputable def pN {α:Type}(_:α):bO:=pM
noncomputable def nE {α β:Type}(_:α)(_:β):bO:=pM
noncomputable def IL {α β γ:Type}(_:α)(_:β)(_:γ):bO:=pM
noncomputable def IM {α β γ δ:Type}(_:α)(_:β)(_:γ)(_:δ):bO:=pM
noncomputable def pO (v:AVal)(r:Nat)(fresh:Bool)(b:Option Blk):OR:=match b with
 | some (.arr g e c)=>.eff v r g e c fresh
 | _=>.fail
noncomputable def r8 (r:Nat)(fresh:Bool)(o:Option (AVal × AHeap)):OR:=match o with
 | some (v,H')=>pO v r fresh (H'.get r)
 | none=>.fail
noncomputable def r9 (c a b:Operand):bO:=fun E _ _ d k env h=>bZ E.G env c fun c=>match c with
 | .lit (.bool t)=>Bool.rec (motive:=fun _=>R) (bZ E.G env b fun v=>eG env d v fun env=>k env h) (bZ E.G env a fun v=>eG env d v fun env=>k env h) t
 | _=>none
noncomputable def sd (e:TypeId):bO:=fun E _ _ d k env h=>match bM E.P e with
 | some z=>cZ d k env (.eff (.ptr h.nx 0 0) h.nx 0 e z true) h
 | none=>none
noncomputable def se (x:Operand):bO:=fun E _ _ d k env h=>bZ E.G env x fun x=>cZ d k env (.opt (iz (ao h) x)) h
noncomputable def sf (op:UnOp)(_:TypeId)(x:Operand):bO:=fun E _ _ d k env h=>bZ E.G env x fun x=>cZ d k env (.opt (oQ E.P op x)) h
noncomputable def sg (s t:TypeId)(x:Operand):bO:=fun E _ _ d k env h=>bZ E.G env x fun x=>cZ d k env (.opt (iy E.P (ao h) s t x)) h
noncomputable def IN (t:TypeId)(x:Operand):bO:=eS (.makeInterface t x)
noncomputable def sh (t:TypeId)(l c:Operand):bO:=fun E _ _ d k env h=>bZ E.G env l fun l=>bZ E.G env c fun c=>cZ d k env (r8 h.nx true (gU E.P (ao h) h.nx t l c)) h
noncomputable def vz (G:Nat->Option (List AVal))(env:BT AVal)(x:Option Operand)(k:Option AVal->R):R:=match x with
 | none=>k none
 | some x=>bZ G env x fun v=>k (some v)
noncomputable def sj (t:TypeId)(x:Operand)(l u m:Option Operand):bO:=fun E _ _ d k env h=>match m with
 | none=>bZ E.G env x fun x=>vz E.G env l fun l=>vz E.G env u fun u=>cZ d k env (.opt (jA E.P (ao h) t x l u)) h
 | some _=>none
noncomputable def sk (t:TypeId)(x:Operand)(f:Nat):bO:=fun E _ _ d k env h=>bZ E.G env x fun x=>cZ d k env (.opt (nf E.P (ao h) t f x)) h
noncomputable def ss (t:TypeId)(x:Operand)(f:Nat):bO:=fun E _ _ d k env h=>bZ E.G env x fun x=>cZ d k env (.opt (yJ E.P t f x)) h
noncomputable def su (t:TypeId)(x i:Operand):bO:=fun E _ _ d k env h=>bZ E.G env x fun x=>bZ E.G env i fun i=>cZ d k env (.opt (oS E.P t x i)) h
noncomputable def sw (t:Operand)(i:Nat):bO:=fun E _ _ d k env h=>bZ E.G env t fun t=>cZ d k env (.opt (jE t i)) h
noncomputable def sx (t:TypeId)(x:Operand):bO:=fun E _ _ d k env h=>bZ E.G env x fun x=>cZ d k env (.opt (jC E.P (ao h) t x)) h
noncomputable def zD (E:EP)(t u:TypeId)(s x:AVal)(d:Option Tmp)(k:BT AVal->EH->R)(env:BT AVal)(h:EH):R:=match s with
 | .own id g o l z=>match bC E.P (ao h) h.nx t u s x with
  | some (.own _ g' o' l' z',H')=>Bool.rec (motive:=fun _=>R) (cZ d k env (pO (.own id g' o' l' z') id false (H'.get id)) h) (cZ d k env (.val (.own id g o l z)) h) (Nat.beq g' g)
  | _=>none
 | s=>match bC E.P (ao h) h.nx t u s x with
  | some (.own id' g' o' l' z',H')=>cZ d k env (pO (.own id' g' o' l' z') h.nx true (H'.get h.nx)) h
  | some (.lit v,_)=>cZ d k env (.val (.lit v)) h
  | _=>none
noncomputable def sy (t u:TypeId)(s x:Operand):bO:=fun E _ _ d k env h=>bZ E.G env s fun s=>bZ E.G env x fun x=>zD E t u s x d k env h
noncomputable def nF (c:Call)(b:Builtin):bO:=match b,c.argTypes.toList,c.args.toList with
 | .len,[t],[x]=>sx t x
 | .append,[t,u],[s,x]=>sy t u s x
 | _,_,_=>eS (.call c)
noncomputable def zE (c:Call):bO:=match c.callee with
 | .value fv=>vy fv c.args
 | .builtin b=>nF c b
 | _=>pM
noncomputable def IP (t:TypeId)(m a x:Operand):bO:=eS (.insert t m a x)
noncomputable def IQ (t:TypeId)(x:Option Operand):bO:=eS (.makeMap t x)
noncomputable def IR (t:TypeId)(x i:Operand)(ok:Bool):bO:=eS (.lookup t x i ok)
noncomputable def IS (t:TypeId)(m a x:Operand):bO:=eS (.mapUpdate t m a x)
noncomputable def IT (t:TypeId)(m a:Operand):bO:=eS (.mapEntry t m a)
noncomputable def IU (t:TypeId)(m a x:Operand):bO:=eS (.entryStore t m a x)
noncomputable def sA:Op->bO :=
 Op.rec (motive:=fun _=>bO) ks ks r9 sd rT rU rV IP rW rX pN pN se rZ sf sg nE IN r6
  IQ nE sh sj sk ss r7 su IR IS IT IU nE nE pN IM sw zE pN pN vw nE IL nE
section step
variable (E:EP) (ih:iH)
noncomputable def vA (all:Array Oper)(ρ:Env)(yes no:R)(jw:Nat × Bool):R :=
 match (all[jw.1]?).bind (·.dst) with
 | some d=>match ρ d with
  | .lit (.bool b)=>Bool.rec (motive:=fun _=>R) no yes (b == jw.2)
  | .lit _=>no
  | _=>none
 | none=>no
noncomputable def nG (all:Array Oper)(ρ:Env)(g:Option (Nat × Bool))(yes no:R):R:=Option.rec (motive:=fun _=>R) yes (vA all ρ yes no) g
noncomputable def nH (rd:Option Nat)(all:Array Oper)(l:List Oper):BT AVal->EH->R :=
 List.rec (motive:=fun _=>BT AVal->EH->R) (fun env h=>some (.ev .normal env h)) (fun o _ ihr env h =>
  nG all (aD env) o.guard (sA o.op E ih rd o.dst ihr env h) (eG env o.dst (.lit undef) fun env=>ihr env h)) l
def IV (bs:List Nat)(o:Oper):Nat:=(qU o).foldl (fun b j=>b ||| (2 ^ j ||| cU bs j)) 0
def ku:List Oper->List Nat->List Nat
 | [],bs=>bs
 | o :: l,bs=>ku l (bs++[IV bs o])
def pP (bs:List Nat):Nat->Nat
 | 0=>0
 | k+1=>if cU bs k=2 ^ k - 1 then pP bs k else k+1
def vB (b:Nat)(f:FP)(acc:List (Nat × FP)):Bool:=acc.all fun p=>b.testBit p.1 || (f.eff.all fun r=>!p.2.rs.contains r) && p.2.eff.all fun r=>!f.rs.contains r
noncomputable def zF (e:List AVal->Option AVal)(fc args:List AVal)(h:EH)(k:AVal->FP->EH->R):R:=match fc with
 | []=>fj args fun args=>match e args with
  | some v=>k v ⟨[],[]⟩ h
  | none=>none
 | _=>none
noncomputable def zG (h h':EH)(kp fz:List Nat)(v:AVal)(k:AVal->FP->EH->R):R :=
 match Nat.ble h.nx h'.nx,vg (fun id=>vp (aP h.hp id) (aP h'.hp id)) kp,jg h' h.nx kp 40 v [] with
 | true,true,some lv=>rK h' lv h.nx (Nat.sub h'.nx h.nx) h.hp fun hp=>cV h'.nx fun nx=>k v ⟨Ev.j9 h.nx nx,kp++fz⟩ ⟨hp,nx⟩
 | _,_,_=>none
noncomputable def zH (f:FuncId)(kp fz:List Nat)(all:List AVal)(h:EH)(k:AVal->FP->EH->R)(hp:BT EBlk):R:=match kq E ih f all ⟨hp,h.nx⟩ with
 | some (.ret v h')=>zG h h' kp fz v k
 | _=>none
noncomputable def zI (f:FuncId)(all:List AVal)(h:EH)(k:AVal->FP->EH->R)(kp:List Nat):R:=match bK (iG h kp 40) all with
 | some p=>Bool.rec (motive:=fun _=>R) none (vj h kp (zH E ih f kp p.2 p.1 h k) .nil) (p.2.all fun r=>Nat.blt r h.nx)
 | none=>none
noncomputable def sC (f:FuncId)(all:List AVal)(h:EH)(k:AVal->FP->EH->R):R:=jh (rJ h 40) all [] (zI E ih f all h k)
noncomputable def zJ (f:FuncId)(all:List AVal)(h:EH)(k:AVal->FP->EH->R)(l:List (List AVal × AVal)):R:=match bK (fV h 40) all with
 | none=>sC E ih f all h k
 | some p=>match rQ p.1 l with
  | some v=>Bool.rec (motive:=fun _=>R) none (k v ⟨[],p.2⟩ h) (p.2.all fun r=>Nat.blt r h.nx)
  | none=>sC E ih f all h k
noncomputable def zK (f:FuncId)(first cap args:List AVal)(h:EH)(k:AVal->FP->EH->R):R:=match E.gd f with
 | some _=>none
 | none=>fj (first++args++cap) fun all=>match E.known f with
  | none=>sC E ih f all h k
  | some l=>zJ E ih f all h k l
noncomputable def vC (fv:AVal)(args:List AVal)(h:EH)(k:AVal->FP->EH->R):R:=match fv with
 | .clo f first cap=>match E.ext f with
  | none=>zK E ih f first cap args h k
  | some e=>zF e (first++cap) args h k
 | _=>none
abbrev nI:=List (Nat × FP)->BT AVal->EH->R
noncomputable def sD (d:Option Tmp)(b i:Nat)(acc:List (Nat × FP))(k:nI)(env:BT AVal)(f:FP)(o:OR)(h:EH):R :=
 Bool.casesOn (motive:=fun _=>R) (vB b f acc) none (ve h (fun v h=>eG env d v fun env=>k (db i f acc) env h) o)
noncomputable def zL (d:Option Tmp)(b i:Nat)(acc:List (Nat × FP))(k:nI)(env:BT AVal)(v:AVal)(f:FP)(h:EH):R :=
 Bool.casesOn (motive:=fun _=>R) (vB b f acc) none (jd v fun v=>eG env d v fun env=>k (db i f acc) env h)
noncomputable def sF (o:Oper)(b i:Nat)(acc:List (Nat × FP))(k:nI)(env:BT AVal)(h:EH):R:=match o.op with
 | .call c=>match c.callee with
  | .value fv=>ko E.G env c.args.toList fun args=>bZ E.G env fv fun fv=>vC E ih fv args h (zL o.dst b i acc k env)
  | _=>sD o.dst b i acc k env (bf E.P E.G (aD env) h.nx (.call c)) (lL E env h (.call c)) h
 | .panic _=>none
 | op=>sD o.dst b i acc k env (bf E.P E.G (aD env) h.nx op) (lL E env h op) h
noncomputable def sG (all:Array Oper)(tail:BT AVal->EH->R)(l:List Oper):List Nat->Nat->nI :=
 List.rec (motive:=fun _=>List Nat->Nat->nI) (fun _ _ _ env h=>tail env h) (fun o _ ihr bs i acc env h=>match bs with
  | []=>none
  | b :: bs=>nG all (aD env) o.guard (sF E ih o b i acc (ihr bs (i+1)) env h) (eG env o.dst (.lit undef) fun env=>ihr bs (i+1) acc env h)) l
noncomputable def sH (rd:Option Nat)(ops:Array Oper)(bs:List Nat)(K:Nat)(env:BT AVal)(h:EH):R :=
 Bool.casesOn (motive:=fun _=>R) (pq ops (bs.take K) K) none (sG E ih ops (nH E ih rd ops (ops.toList.drop K)) (ops.toList.take K) (bs.take K) 0 [] env h)
noncomputable def pQ (rd:Option Nat)(n:Nat)(b:Code)(r:R):R:=match r with
 | some (.ev .normal e h)=>ih rd n b e h
 | r=>r
noncomputable def vD (id:Nat)(r:R):R:=match r with
 | some (.ev (.exit i) e h)=>Bool.casesOn (motive:=fun _=>R) (Nat.beq i id) (some (.ev (.exit i) e h)) (some (.ev .normal e h))
 | r=>r
noncomputable def nJ (r:R):R:=match r with
 | some (.ev (.goto _) _ _)=>none
 | r=>r
noncomputable def vE (v:AVal)(x y:R):R:=match v with
 | .lit (.bool b)=>Bool.casesOn (motive:=fun _=>R) b y x
 | _=>none
noncomputable def endLoop (env:BT AVal)(h2:EH)(pend:Option Code)(hp3:BT EBlk):R:=match pend with
 | none=>some (.ev .normal env ⟨hp3,h2.nx⟩)
 | some .ret=>some (.ev .ret env ⟨hp3,h2.nx⟩)
 | some (.exit i)=>some (.ev (.exit i) env ⟨hp3,h2.nx⟩)
 | _=>none
noncomputable def zM (rd:Option Nat)(env:BT AVal)(id:Nat)(r:R):R:=match r with
 | some (.ret _ h2)=>Bool.casesOn (motive:=fun _=>R) (nD h2 rd) none (match aP h2.hp id with
  | some (.loop .busy ..)=>none
  | some (.loop _ pend n2 env2 ps2 asg2 body2)=>fh h2.hp id (EBlk.loop .exhausted pend n2 env2 ps2 asg2 body2) fun hp3=>endLoop env h2 pend hp3
  | _=>none)
 | some (.panic h2)=>Bool.casesOn (motive:=fun _=>R) (nD h2 rd) none (some (.ev .panic env h2))
 | _=>none
noncomputable def vF (rd:Option Nat)(n:Nat)(env:BT AVal)(h:EH)(ps:Array Tmp)(asg body:Code)(v:AVal):R:=match v with
 | .clo g first cap=>fh h.hp h.nx (EBlk.loop .ready none n env ps asg body) fun hp1=>zM rd env h.nx (fj (first++[.yld h.nx]++cap) fun args=>kq E ih g args ⟨hp1,Nat.succ h.nx⟩)
 | _=>none
end step
abbrev fC:=EP->iH->Option Nat->Nat->BT AVal->EH->R
noncomputable def zQ:fC:=fun _ _ _ _ env h=>some (.ev .normal env h)
noncomputable def IW (_:Nat):fC:=zQ
noncomputable def IX (i:Nat):fC:=fun _ _ _ _ env h=>some (.ev (.exit i) env h)
noncomputable def IY:fC:=fun _ _ _ _ env h=>some (.ev .ret env h)
noncomputable def IZ (_:Nat):fC:=fun _ _ _ _ _ _=>none
noncomputable def I0 (_:String):fC:=fun _ _ _ _ _ _=>none
noncomputable def I1 (_:Nat)(ops:Array Oper)(dr:Bool):fC:=fun E ih rd _ env h =>
 Bool.rec (motive:=fun _=>R) (nH E ih rd ops ops.toList env h) (sH E ih rd ops (ku ops.toList []) (pP (ku ops.toList []) ops.toList.length) env h) dr
noncomputable def I2 (a b:Code):fC:=fun _ ih rd n env h=>pQ ih rd n b (ih rd n a env h)
noncomputable def I3 (x:Operand)(a b:Code):fC:=fun E ih rd n env h=>vE (ah E.G (aD env) x) (ih rd n a env h) (ih rd n b env h)
noncomputable def I4 (id:Nat)(b:Code):fC:=fun _ ih rd n env h=>vD id (ih rd n b env h)
noncomputable def I5 (b:Code):fC:=fun _ ih rd n env h=>nJ (pQ ih rd n (.loop b) (ih rd n b env h))
noncomputable def I6 (b:Code):fC:=fun _ ih rd n env h=>nJ (ih rd n b env h)
noncomputable def I7 (f:Operand)(ps:Array Tmp)(asg body:Code):fC:=fun E ih rd n env h=>vF E ih rd n env h ps asg body (ah E.G (aD env) f)
noncomputable def I8:Code->fC:=fun c=>Code.casesOn (motive:=fun _=>fC) c zQ I1 I2 I3 I4 I5 I7 IX I6 IW IZ IY I0
noncomputable def zR (E:EP)(ih:iH)(rd:Option Nat)(n:Nat)(c:Code)(env:BT AVal)(h:EH):R:=I8 c E ih rd n env h
noncomputable def zS (E:EP)(fuel:Nat):iH:=Nat.rec (motive:=fun _=>iH) (fun _ _ _ _ _=>none) (fun _ ih=>zR E ih) fuel
noncomputable def zT (E:EP)(fuel:Nat)(f:FuncId)(args:List AVal):Option AVal:=vr E (zS E fuel) f args
end Go.Hx
namespace Go.Hx
variable {P:Program} {G:Nat->Option (List AVal)}
theorem fW (n:Nat)(k:Nat->R):cV n k=k n:=by cases n<;>rfl
theorem sI (n:Int)(k:Int->R):lH n k=k n:=by
 cases n with
 | ofNat n=>show cV n (fun n=>k (.ofNat n))=_;rw[fW]
 | negSucc n=>show cV n (fun n=>k (.negSucc n))=_;rw[fW]
theorem zU (n:Bool)(k:Bool->R):uT n k=k n:=by cases n<;>rfl
theorem gD (l:List AVal):∀ (k:List AVal->R),fj l k=k l:=by
 induction l with
 | nil=>intro k;rfl
 | cons x l ih=>intro k;exact ih _
theorem I9 (v:Value)(k:Value->R):uU v k=k v:=by
 unfold uU;split
 ·rw[sI]
 ·rw[zU]
 ·rfl
theorem Ja (l:List (Int × Int)):∀ (k:List (Int × Int)->R),rH l k=k l:=by
 induction l with
 | nil=>intro k;rfl
 | cons p l ih =>
  intro k;obtain⟨a,b⟩:=p;show (lH a fun a=>lH b fun b=>rH l fun l=>k ((a,b) :: l))=_;rw[sI,sI,ih]
theorem nK (v:AVal)(k:AVal->R):jd v k=k v:=by
 cases v with
 | lit v=>show uV v k=_;unfold uV;rw[I9]
 | vec n cs=>show uW n cs k=_;unfold uW;rw[fW,gD]
 | own a b c d e=>show uX a b c d e k=_;unfold uX;simp only[fW]
 | ptr a b c=>show uY a b c k=_;unfold uY;simp only[fW]
 | vptr cs n=>show uZ cs n k=_;unfold uZ;rw[fW,gD]
 | agg cs=>show u0 cs k=_;unfold u0;rw[gD]
 | tup cs=>show u6 cs k=_;unfold u6;rw[gD]
 | clo f a b=>show u7 f a b k=_;unfold u7;simp only[fW,gD]
 | yld n=>show u9 n k=_;unfold u9;rw[fW]
theorem sJ (n:Nat):dP .nil n=none:=rfl
theorem Jb (v:Option AVal)(l r:BT AVal):dP (.node v l r) 0=v:=rfl
theorem jj (v:Option AVal)(l r:BT AVal)(m:Nat):dP (.node v l r) (m+1)=if m % 2=0 then dP l (m / 2) else dP r (m / 2):=by
 show Nat.rec (motive:=fun _=>Option AVal) (dP l (m / 2)) (fun _ _=>dP r (m / 2)) (m % 2)=_;rcases Qt m with h|h<;>rw[h]<;>rfl
theorem vG (n:Nat):aP .nil n=none:=rfl
theorem jO (v:Option EBlk)(l r:BT EBlk)(m:Nat):aP (.node v l r) (m+1)=if m % 2=0 then aP l (m / 2) else aP r (m / 2):=by
 show Nat.rec (motive:=fun _=>Option EBlk) (aP l (m / 2)) (fun _ _=>aP r (m / 2)) (m % 2)=_;rcases Qt m with h|h<;>rw[h]<;>rfl
theorem kz {m n:Nat}(h:m % 2=n % 2):m / 2=n / 2↔m=n:=by omega
theorem Jc:∀ (f n:Nat) (x:AVal) (k:BT AVal->R) (r:RR),rF f n x k=some r->∃ t,k t=some r/\∀ m,dP t m=if m=n then some x else none:=by
 intro f
 induction f with
 | zero=>intro n x k r h;cases h
 | succ f ih =>
  intro n x k r h;cases n with
  | zero =>
   refine⟨_,h,fun m=>?_⟩;cases m with
   | zero=>rfl
   | succ m=>rw[jj];simp [sJ]
  | succ n =>
   have h':Nat.rec (motive:=fun _=>R) (rF f (n / 2) x fun l=>k (.node none l .nil)) (fun _ _=>rF f (n / 2) x fun r=>k (.node none .nil r)) (n % 2)=some r:=h;rcases Qt n with h2|h2<;>rw[h2]at h'
   ·obtain⟨t,h3,h4⟩:=ih _ _ _ _ h';refine⟨_,h3,fun m=>?_⟩;cases m with
    | zero=>rw[Pt (by omega)];rfl
    | succ m =>
     rw[jj,h4,sJ];split
     ·rename_i hm;simp only[Qr,kz (hm.trans h2.symm)]
     ·rename_i hm;rw[Pt];rintro hmn;have:m=n:=(by omega);exact hm (this ▸ h2)
   ·obtain⟨t,h3,h4⟩:=ih _ _ _ _ h';refine⟨_,h3,fun m=>?_⟩;cases m with
    | zero=>rw[Pt (by omega)];rfl
    | succ m =>
     rw[jj,h4,sJ];split
     ·rename_i hm;rw[Pt];rintro hmn;have:m=n:=(by omega);omega
     ·rename_i hm;have hm':m % 2=n % 2:=(by omega);simp only[Qr,kz hm']
theorem vI:∀ (t:BT AVal) (n:Nat) (x:AVal) (k:BT AVal->R) (r:RR),km t n x k=some r->∃ t',k t'=some r/\∀ m,dP t' m=if m=n then some x else dP t m:=by
 intro t
 induction t with
 | nil=>intro n x k r h;exact Jc 20 n x k r h
 | node v l r ihl ihr =>
  intro n x k rr h;cases n with
  | zero =>
   refine⟨_,h,fun m=>?_⟩;cases m with
   | zero=>rfl
   | succ m=>rw[jj,jj];simp
  | succ n =>
   have h':Nat.rec (motive:=fun _=>R) (km l (n / 2) x fun l=>k (.node v l r)) (fun _ _=>km r (n / 2) x fun r=>k (.node v l r)) (n % 2)=some rr:=h;rcases Qt n with h2|h2<;>rw[h2]at h'
   ·obtain⟨t,h3,h4⟩:=ihl _ _ _ _ h';refine⟨_,h3,fun m=>?_⟩;cases m with
    | zero=>rw[Pt (by omega)];rfl
    | succ m =>
     rw[jj,jj,h4];split
     ·rename_i hm;simp only[Qr,kz (hm.trans h2.symm)]
     ·rename_i hm;rw[Pt];rintro hmn;have:m=n:=(by omega);exact hm (this ▸ h2)
   ·obtain⟨t,h3,h4⟩:=ihr _ _ _ _ h';refine⟨_,h3,fun m=>?_⟩;cases m with
    | zero=>rw[Pt (by omega)];rfl
    | succ m =>
     rw[jj,jj,h4];split
     ·rename_i hm;rw[Pt];rintro hmn;have:m=n:=(by omega);omega
     ·rename_i hm;have hm':m % 2=n % 2:=(by omega);simp only[Qr,kz hm']
theorem Jd:∀ (f n:Nat) (x:EBlk) (k:BT EBlk->R) (r:RR),rG f n x k=some r->∃ t,k t=some r/\∀ m,aP t m=if m=n then some x else none:=by
 intro f
 induction f with
 | zero=>intro n x k r h;cases h
 | succ f ih =>
  intro n x k r h;cases n with
  | zero =>
   refine⟨_,h,fun m=>?_⟩;cases m with
   | zero=>rfl
   | succ m=>rw[jO];simp [vG]
  | succ n =>
   have h':Nat.rec (motive:=fun _=>R) (rG f (n / 2) x fun l=>k (.node none l .nil)) (fun _ _=>rG f (n / 2) x fun r=>k (.node none .nil r)) (n % 2)=some r:=h;rcases Qt n with h2|h2<;>rw[h2]at h'
   ·obtain⟨t,h3,h4⟩:=ih _ _ _ _ h';refine⟨_,h3,fun m=>?_⟩;cases m with
    | zero=>rw[Pt (by omega)];rfl
    | succ m =>
     rw[jO,h4,vG];split
     ·rename_i hm;simp only[Qr,kz (hm.trans h2.symm)]
     ·rename_i hm;rw[Pt];rintro hmn;have:m=n:=(by omega);exact hm (this ▸ h2)
   ·obtain⟨t,h3,h4⟩:=ih _ _ _ _ h';refine⟨_,h3,fun m=>?_⟩;cases m with
    | zero=>rw[Pt (by omega)];rfl
    | succ m =>
     rw[jO,h4,vG];split
     ·rename_i hm;rw[Pt];rintro hmn;have:m=n:=(by omega);omega
     ·rename_i hm;have hm':m % 2=n % 2:=(by omega);simp only[Qr,kz hm']
theorem kA:∀ (t:BT EBlk) (n:Nat) (x:EBlk) (k:BT EBlk->R) (r:RR),fh t n x k=some r->∃ t',k t'=some r/\∀ m,aP t' m=if m=n then some x else aP t m:=by
 intro t
 induction t with
 | nil=>intro n x k r h;exact Jd 20 n x k r h
 | node v l r ihl ihr =>
  intro n x k rr h;cases n with
  | zero =>
   refine⟨_,h,fun m=>?_⟩;cases m with
   | zero=>rfl
   | succ m=>rw[jO,jO];simp
  | succ n =>
   have h':Nat.rec (motive:=fun _=>R) (fh l (n / 2) x fun l=>k (.node v l r)) (fun _ _=>fh r (n / 2) x fun r=>k (.node v l r)) (n % 2)=some rr:=h;rcases Qt n with h2|h2<;>rw[h2]at h'
   ·obtain⟨t,h3,h4⟩:=ihl _ _ _ _ h';refine⟨_,h3,fun m=>?_⟩;cases m with
    | zero=>rw[Pt (by omega)];rfl
    | succ m =>
     rw[jO,jO,h4];split
     ·rename_i hm;simp only[Qr,kz (hm.trans h2.symm)]
     ·rename_i hm;rw[Pt];rintro hmn;have:m=n:=(by omega);exact hm (this ▸ h2)
   ·obtain⟨t,h3,h4⟩:=ihr _ _ _ _ h';refine⟨_,h3,fun m=>?_⟩;cases m with
    | zero=>rw[Pt (by omega)];rfl
    | succ m =>
     rw[jO,jO,h4];split
     ·rename_i hm;rw[Pt];rintro hmn;have:m=n:=(by omega);omega
     ·rename_i hm;have hm':m % 2=n % 2:=(by omega);simp only[Qr,kz hm']
theorem sK (env:BT AVal)(t:Tmp):aD env t=(dP env t).getD (.lit undef):=by
 unfold aD;cases dP env t<;>rfl
theorem zV {env env':BT AVal}{d:Nat}{v:AVal}(h:∀ m,dP env' m=if m=d then some v else dP env m):aD env'=aE (aD env) (some d) v:=by
 funext t
 simp only[sK,h,aE];split<;>rfl
theorem jP {env:BT AVal}{d:Option Tmp}{v:AVal}{k:BT AVal->R}{r:RR}(h:eG env d v k=some r):∃ env',k env'=some r/\aD env'=aE (aD env) d v:=by
 cases d with
 | none=>exact⟨env,h,rfl⟩
 | some d =>
  obtain⟨t,h1,h2⟩:=vI _ _ _ _ _ h;exact⟨t,h1,zV h2⟩
theorem cG (env:BT AVal)(x:Operand)(k:AVal->R):bZ G env x k=k (ah G (aD env) x):=by
 cases x with
 | tmp t =>
  show vb env t k=_;unfold vb;simp only[ah,sK];cases dP env t<;>rfl
 | const v=>rfl
 | global g =>
  show va G g k=_;unfold va;simp only[ah];cases G g with
  | none=>rfl
  | some c=>exact gD _ _
 | func f=>rfl
theorem nL (env:BT AVal)(l:List Operand):∀ (k:List AVal->R),ko G env l k=k (l.map (ah G (aD env))):=by
 induction l with
 | nil=>intro k;rfl
 | cons x l ih =>
  intro k;show bZ G env x (fun x=>ko G env l fun l=>k (x :: l))=_;rw[cG,ih];rfl
theorem zW (env:BT AVal)(x:Option Operand)(k:Option AVal->R):vz G env x k=k (x.map (ah G (aD env))):=by
 cases x with
 | none=>rfl
 | some x=>exact cG _ _ _
def nM (o:OR)(h:EH)(v:AVal)(H':AHeap):Prop :=
 match o with
 | .fail=>False
 | .val u=>v=u/\H'=ao h
 | .eff u r g e c fr=>v=u/\H'=⟨fun j=>if j=r then some (.arr g e c) else (ao h).get j,if fr then h.nx+1 else h.nx⟩
 | .effM u r es fr=>v=u/\H'=⟨fun j=>if j=r then some (.mp es) else (ao h).get j,if fr then h.nx+1 else h.nx⟩
theorem sL {h:EH}{hp:BT EBlk}{r nx:Nat}{b:EBlk}(hs:∀ m,aP hp m=if m=r then some b else aP h.hp m):ao ⟨hp,nx⟩=⟨fun j=>if j=r then some b.je else (ao h).get j,nx⟩:=by
 unfold ao;congr 1
 funext j
 show Option.map EBlk.je (aP hp j)=_;rw[hs];split<;>rfl
theorem zX {o:Option AVal}{h:EH}{v:AVal}{H':AHeap}(hr:nM (.opt o) h v H'):o=some v/\H'=ao h:=by
 cases o with
 | none=>exact hr.elim
 | some u=>exact⟨by rw[hr.1],hr.2⟩
theorem vJ (k:IntKind)(i:Int):pF k i=k.wrap i:=by
 unfold pF;split
 ·have hr:∀ j:Int,-9223372036854775808<=j->j<=9223372036854775807->IntKind.i64.wrap j=j:=fun j h1 h2=>Ps j (by omega);cases i with
  | ofNat n =>
   show Bool.casesOn (motive:=fun _=>Int) (Nat.ble n 9223372036854775807) _ _=_;cases hb:Nat.ble n 9223372036854775807 with
   | false=>rfl
   | true =>
    have:=QD hb;exact(hr (Int.ofNat n) (by simp only[Q0];omega) (by simp only[Q0];omega)).symm
  | negSucc n =>
   show Bool.casesOn (motive:=fun _=>Int) (Nat.ble n 9223372036854775807) _ _=_;cases hb:Nat.ble n 9223372036854775807 with
   | false=>rfl
   | true =>
    have:=QD hb;exact(hr (Int.negSucc n) (by omega) (by omega)).symm
 ·rfl
theorem sM (a b:Int):pG a b=decide (a<b):=by
 cases a with
 | ofNat m=>cases b with
  | ofNat n =>
   show Nat.ble (m+1) n=_;rw[Ro,Nat.ble_eq,QV];simp;omega
  | negSucc n =>
   show false=_
   symm
   rw[QI];simp only[Q0];omega
 | negSucc m=>cases b with
  | ofNat n =>
   show true=_
   symm
   rw[QV];simp only[Q0];omega
  | negSucc n =>
   show Nat.ble (n+1) m=_;rw[Ro,Nat.ble_eq,QV];omega
theorem sN (a b:Int):pH a b=decide (a=b):=by
 cases a with
 | ofNat m=>cases b with
  | ofNat n =>
   show Nat.beq m n=_;rw[Ro,QV];constructor
   ·intro h;rw[PH h]
   ·intro h;rw[Int.ofNat.inj h];exact Rj n
  | negSucc n =>
   show false=_
   symm
   rw[QI];intro h;cases h
 | negSucc m=>cases b with
  | ofNat n =>
   show false=_
   symm
   rw[QI];intro h;cases h
  | negSucc n =>
   show Nat.beq m n=_;rw[Ro,QV];constructor
   ·intro h;rw[PH h]
   ·intro h;rw[Int.negSucc.inj h];exact Rj n
theorem vK {d:Option Tmp}{k:BT AVal->EH->R}{env:BT AVal}{h:EH}{kd:IntKind}{i:Int}{r:RR}(hr:pK d k env h kd i=some r):∃ env',aD env'=aE (aD env) d (.lit (.int kd i))/\k env' h=some r:=by
 unfold pK at hr;rw[sI]at hr;obtain⟨env',h1,h2⟩:=jP hr;exact⟨env',h2,h1⟩
theorem lO {d:Option Tmp}{k:BT AVal->EH->R}{env:BT AVal}{h:EH}{b:Bool}{r:RR}(hr:ji d k env h b=some r):∃ env',aD env'=aE (aD env) d (.lit (.bool b))/\k env' h=some r:=by
 unfold ji at hr;rw[zU]at hr;obtain⟨env',h1,h2⟩:=jP hr;exact⟨env',h2,h1⟩
theorem zY (a b:Int):(decide (b<a)).not=decide (a<=b):=by
 rw[Ro];simp
theorem Je {op:BinOp}{t:TypeId}{x y:Operand}{f:iI}(hf:pL op=some f){kd:IntKind}{a b:Int}{d:Option Tmp}{k:BT AVal->EH->R}{env:BT AVal}{h:EH}{r:RR}
  (hr:f kd a b d k env h=some r):
  ∃ v env',aX P op t x y (.lit (.int kd a)) (.lit (.int kd b))=some v/\aD env'=aE (aD env) d v/\k env' h=some r:=by
 unfold pL at hf;split at hf
 ·cases hf;obtain⟨env',h1,h2⟩:=vK hr;exact⟨_,env',yK,by rw[h1,vJ];rfl,h2⟩
 ·cases hf;obtain⟨env',h1,h2⟩:=vK hr;exact⟨_,env',yL,by rw[h1,vJ];rfl,h2⟩
 ·cases hf;obtain⟨env',h1,h2⟩:=vK hr;exact⟨_,env',yM,by rw[h1,vJ];rfl,h2⟩
 ·cases hf;obtain⟨env',h1,h2⟩:=lO hr;exact⟨_,env',yO,by rw[h1,sM],h2⟩
 ·cases hf;obtain⟨env',h1,h2⟩:=lO hr;exact⟨_,env',yR,by rw[h1,sM],h2⟩
 ·cases hf;obtain⟨env',h1,h2⟩:=lO hr;exact⟨_,env',yQ,by rw[h1,sM,zY],h2⟩
 ·cases hf;obtain⟨env',h1,h2⟩:=lO hr;exact⟨_,env',yS,by rw[h1,sM,zY],h2⟩
 ·cases hf;obtain⟨env',h1,h2⟩:=lO hr;exact⟨_,env',yT,by rw[h1,sN],h2⟩
 ·cases hf;obtain⟨env',h1,h2⟩:=lO hr;exact⟨_,env',yU,by rw[h1,sN],h2⟩
 ·cases hf
theorem Jf {a b:IntKind}(h:Nat.beq (lK a) (lK b)=true):a=b:=by
 have:=PH h;cases a<;>cases b<;>first|rfl|simp [lK]at this
theorem Jg {h:EH}{t:TypeId}{a v:AVal}(hr:vd P h t a=some v):ed P (ao h) t a=some v:=by
 unfold vd at hr;split at hr
 ·rename_i id gen off;split at hr
  ·rename_i g e cells hg;show (match (ao h).get id with|some (.arr g _ cells)=>if g=gen then dS P t cells off else none|_=>none)=some v;have:(ao h).get id=some (.arr g e cells):=(by show Option.map EBlk.je (aP h.hp id)=_;rw[hg];rfl);rw[this];cases hb:Nat.beq g gen with
   | false=>rw[hb]at hr;cases hr
   | true =>
    rw[hb]at hr;simp only;rw[Pv (PH hb)];exact hr
  ·cases hr
 ·exact hr
 ·cases hr
theorem Jh {h:EH}{t:TypeId}{a x v:AVal}{H':AHeap}(hr:nM (nu P h t a x) h v H'):v=.lit undef/\fO P (ao h) t a x=some H':=by
 unfold nu at hr;split at hr
 ·rename_i id gen off;split at hr
  ·rename_i g e cells hg;have hget:(ao h).get id=some (.arr g e cells):=(by show Option.map EBlk.je (aP h.hp id)=_;rw[hg];rfl);cases hb:Nat.beq g gen with
   | false=>rw[hb]at hr;exact hr.elim
   | true =>
    rw[hb]at hr;simp only at hr;split at hr
    ·rename_i hc;refine⟨hr.1,?_⟩;have hgg:=PH hb;show (match (ao h).get id with|some (.arr g e cells)=>if g=gen/\x.cells.length=P.cellsOf t/\x.cells.all AVal.one=true/\off+x.cells.length<=cells.length then some ((ao h).upd id (.arr g e (setAt cells off x.cells))) else none|_=>none)=some H';rw[hget];simp only;rw[Pv ⟨hgg,hc⟩,hr.2];rfl
    ·exact hr.elim
  ·exact hr.elim
 ·exact hr.elim
def VH (h:EH):Prop:=∀ id b,aP h.hp id=some b->id<h.nx
theorem VH.wf {h:EH}(hv:VH h):ee (ao h):=fun id b hb=>by
 have hb':Option.map EBlk.je (aP h.hp id)=some b:=hb;cases hg:aP h.hp id with
 | none=>rw[hg]at hb';cases hb'
 | some x=>exact hv id x hg
def lQ (o:OR)(h:EH):Prop :=
 match o with
 | .eff _ r _ _ _ fr=>if fr then r=h.nx else r<h.nx
 | .effM _ r _ fr=>if fr then r=h.nx else r<h.nx
 | _=>True
theorem zZ {h:EH}{k:AVal->EH->R}{o:OR}{r:RR}(hv:VH h)(hok:lQ o h)(hr:ve h k o=some r):∃ v h',nM o h v (ao h')/\VH h'/\k v h'=some r:=by
 cases o with
 | fail=>cases hr
 | val v =>
  have hr':jd v (fun v=>k v h)=some r:=hr;rw[nK]at hr';exact⟨v,h,⟨rfl,rfl⟩,hv,hr'⟩
 | eff v r' g e c fr =>
  have hr':(cV r' fun r'=>cV g fun g=>fj c fun c=>fh h.hp r' (.arr g e c) fun hp=>jd v fun v=>k v ⟨hp,Bool.casesOn (motive:=fun _=>Nat) fr h.nx (Nat.succ h.nx)⟩)=some r:=hr;rw[fW,fW,gD]at hr';obtain⟨hp,h1,h2⟩:=kA _ _ _ _ _ hr';rw[nK]at h1;refine⟨v,_,⟨rfl,?_⟩,?_,h1⟩
  ·rw[sL h2];cases fr<;>rfl
  ·intro id b hb;rw[h2]at hb;cases fr with
   | false =>
    have hlt:r'<h.nx:=hok;show id<h.nx;split at hb
    ·omega
    ·exact hv id b hb
   | true =>
    have hlt:r'=h.nx:=hok;show id<h.nx+1;split at hb
    ·omega
    ·have:=hv id b hb;omega
 | effM v r' es fr =>
  have hr':(cV r' fun r'=>rH es fun es=>fh h.hp r' (.mp es) fun hp=>jd v fun v=>k v ⟨hp,Bool.casesOn (motive:=fun _=>Nat) fr h.nx (Nat.succ h.nx)⟩)=some r:=hr;rw[fW,Ja]at hr';obtain⟨hp,h1,h2⟩:=kA _ _ _ _ _ hr';rw[nK]at h1;refine⟨v,_,⟨rfl,?_⟩,?_,h1⟩
  ·rw[sL h2];cases fr<;>rfl
  ·intro id b hb;rw[h2]at hb;cases fr with
   | false =>
    have hlt:r'<h.nx:=hok;show id<h.nx;split at hb
    ·omega
    ·exact hv id b hb
   | true =>
    have hlt:r'=h.nx:=hok;show id<h.nx+1;split at hb
    ·omega
    ·have:=hv id b hb;omega
def Plain (P:Program)(G:Nat->Option (List AVal))(o:Op)(d:Option Tmp)(k:BT AVal->EH->R)(env:BT AVal)(h:EH)(r:RR):Prop :=
 ∃ v env' h',af P G (aD env) (ao h) h.nx o=some (v,ao h')/\VH h'/\aD env'=aE (aD env) d v/\k env' h'=some r
theorem gZ {o:Op}{d:Option Tmp}{k:BT AVal->EH->R}{env:BT AVal}{x:OR}{h:EH}{r:RR}(hv:VH h)(hok:lQ x h)(hrel:∀ v H',nM x h v H'->af P G (aD env) (ao h) h.nx o=some (v,H'))
  (hr:cZ d k env x h=some r):Plain P G o d k env h r:=by
 obtain⟨v,h',h1,h2,h3⟩:=zZ hv hok hr;obtain⟨env',h4,h5⟩:=jP h3;exact⟨v,env',h',hrel _ _ h1,h2,h5,h4⟩
theorem pR {o:Op}{d:Option Tmp}{k:BT AVal->EH->R}{env:BT AVal}{v:AVal}{h:EH}{r:RR}(hv:VH h)(hrel:af P G (aD env) (ao h) h.nx o=some (v,ao h))
  (hr:eG env d v (fun env=>k env h)=some r):Plain P G o d k env h r:=by
 obtain⟨env',h4,h5⟩:=jP hr;exact⟨v,env',h,hrel,hv,h5,h4⟩
theorem z6 (o:Option AVal)(h:EH):lQ (.opt o) h:=by cases o<;>trivial
theorem fX {o:Op}{d:Option Tmp}{k:BT AVal->EH->R}{env:BT AVal}{x:Option AVal}{h:EH}{r:RR}(hv:VH h)(hrel:af P G (aD env) (ao h) h.nx o=x.map fun v=>(v,ao h))
  (hr:cZ d k env (.opt x) h=some r):Plain P G o d k env h r :=
 gZ hv (z6 _ _) (fun v H' hx=>by
  obtain⟨h1,h2⟩:=zX hx;rw[hrel,h1,h2];rfl) hr
theorem z7 (ρ:Env)(id:Nat)(o:Op):(bf P G ρ id o).eff=[]\/∃ r,(bf P G ρ id o).eff=[r]:=by
 have hid:∀ v:AVal,aF v=[]\/∃ r,aF v=[r]:=fun v=>by cases v<;>first|exact .inl rfl|exact .inr ⟨_,rfl⟩
 have hb:∀ (b:Builtin) (ats:List TypeId) (args:List AVal),(gA P id b ats args).eff=[]\/∃ r,(gA P id b ats args).eff=[r]:=fun b ats args=>by
  unfold gA;split
  ·split
   ·exact hid _
   ·exact .inr ⟨_,rfl⟩
  ·exact hid _
  ·exact hid _
  ·exact .inl rfl
  ·exact .inl rfl
 have hidM:∀ v:AVal,di v=[]\/∃ r,di v=[r]:=fun v=>by cases v<;>first|exact .inl rfl|exact .inr ⟨_,rfl⟩
 unfold bf;split<;>first|exact .inl rfl|exact .inr ⟨_,rfl⟩|exact hid _|exact hidM _|skip
 split
 ·exact hb _ _ _
 ·exact .inl rfl
theorem sP {E:EP}{env:BT AVal}{h:EH}{o:Op}(hv:VH h):lQ (lL E env h o) h/\∀ v H',nM (lL E env h o) h v H'->af E.P E.G (aD env) (ao h) h.nx o=some (v,H'):=by
 unfold lL pI;split
 ·exact⟨trivial,fun _ _ h=>h.elim⟩
 ·rename_i u H2 hop;obtain⟨e,al,h1,h2,h3,h4,h5,_⟩:=uB (hv.wf) hop;split
  ·rename_i hf;refine⟨trivial,fun v H' hx=>?_⟩;have he:e=none:=by
    cases e with
    | none=>rfl
    | some kb =>
     have h3':=(h3 kb.1 kb.2 rfl).1;have hf':(bf E.P E.G (aD env) (ao h).next o).eff=[]:=hf;rw[hf']at h3';cases h3'
   have hal:al=false:=by
    cases al with
    | false=>rfl
    | true =>
     obtain⟨b,hb⟩:=h4 rfl;rw[he]at hb;cases hb
   obtain⟨rfl,rfl⟩:=hx;subst he;subst hal;rw[hop];congr 2;have h1':H2.get=(ao h).get:=h1;have h2':H2.next=(ao h).next:=h2;cases H2;simp only at h1' h2';rw[h1',h2']
  ·rename_i r l hf;split
   ·rename_i g e' c hg;have hf':(bf E.P E.G (aD env) (ao h).next o).eff=r :: l:=hf;have hl:l=[]:=by
     rcases z7 (P:=E.P) (G:=E.G) (aD env) (ao h).next o with h6|⟨r',h6⟩
     ·rw[hf']at h6;cases h6
     ·rw[hf']at h6;cases h6;rfl
    subst hl;have key:H2=⟨fun j=>if j=r then some (.arr g e' c) else (ao h).get j,if al then (ao h).next+1 else (ao h).next⟩/\(if al=true then r=h.nx else r<h.nx):=by
     cases e with
     | none =>
      have hal:al=false:=by
       cases al with
       | false=>rfl
       | true=>obtain⟨b,hb⟩:=h4 rfl;cases hb
      subst hal;have h1':H2.get=(ao h).get:=h1;have h2':H2.next=(ao h).next:=h2;have hgr:(ao h).get r=some (.arr g e' c):=(by rw[<- h1'];exact hg);refine⟨?_,hv.wf r _ hgr⟩;cases H2;simp only at h1' h2';rw[h1',h2'];congr 1
      funext j
      split
      ·rename_i hj;rw[hj,hgr]
      ·rfl
     | some kb =>
      obtain⟨kk,b⟩:=kb;obtain⟨h7,h8⟩:=h3 kk b rfl;rw[hf']at h7;have hkk:kk=r:=(by simpa using h7);subst hkk;have hb:b=.arr g e' c:=by
       rw[h1]at hg;simp only[dk,if_true]at hg;exact Option.some.inj hg
      subst hb;refine⟨?_,?_⟩
      ·cases H2;simp only at h1 h2;rw[h1,h2];rfl
      ·cases al with
       | true =>
        obtain⟨b,hb⟩:=h4 rfl;simp only[Option.some.injEq,Prod.mk.injEq]at hb;exact hb.1
       | false=>exact h5 _ (h8 rfl)
    have hbeq:Nat.beq r h.nx=al:=by
     cases al with
     | true=>rw[show r=h.nx from key.2];exact Rj _
     | false =>
      have:r<h.nx:=key.2;cases hb:Nat.beq r h.nx with
      | false=>rfl
      | true=>have:=PH hb;omega
    rw[hbeq];refine⟨?_,fun v H' hx=>?_⟩
    ·have:=key.2;cases al<;>exact this
    ·obtain⟨rfl,rfl⟩:=hx;rw[hop,key.1];rfl
   ·rename_i es hg;have hf':(bf E.P E.G (aD env) (ao h).next o).eff=r :: l:=hf;have hl:l=[]:=by
     rcases z7 (P:=E.P) (G:=E.G) (aD env) (ao h).next o with h6|⟨r',h6⟩
     ·rw[hf']at h6;cases h6
     ·rw[hf']at h6;cases h6;rfl
    subst hl;have key:H2=⟨fun j=>if j=r then some (.mp es) else (ao h).get j,if al then (ao h).next+1 else (ao h).next⟩/\(if al=true then r=h.nx else r<h.nx):=by
     cases e with
     | none =>
      have hal:al=false:=by
       cases al with
       | false=>rfl
       | true=>obtain⟨b,hb⟩:=h4 rfl;cases hb
      subst hal;have h1':H2.get=(ao h).get:=h1;have h2':H2.next=(ao h).next:=h2;have hgr:(ao h).get r=some (.mp es):=(by rw[<- h1'];exact hg);refine⟨?_,hv.wf r _ hgr⟩;cases H2;simp only at h1' h2';rw[h1',h2'];congr 1
      funext j
      split
      ·rename_i hj;rw[hj,hgr]
      ·rfl
     | some kb =>
      obtain⟨kk,b⟩:=kb;obtain⟨h7,h8⟩:=h3 kk b rfl;rw[hf']at h7;have hkk:kk=r:=(by simpa using h7);subst hkk;have hb:b=.mp es:=by
       rw[h1]at hg;simp only[dk,if_true]at hg;exact Option.some.inj hg
      subst hb;refine⟨?_,?_⟩
      ·cases H2;simp only at h1 h2;rw[h1,h2];rfl
      ·cases al with
       | true =>
        obtain⟨b,hb⟩:=h4 rfl;simp only[Option.some.injEq,Prod.mk.injEq]at hb;exact hb.1
       | false=>exact h5 _ (h8 rfl)
    have hbeq:Nat.beq r h.nx=al:=by
     cases al with
     | true=>rw[show r=h.nx from key.2];exact Rj _
     | false =>
      have:r<h.nx:=key.2;cases hb:Nat.beq r h.nx with
      | false=>rfl
      | true=>have:=PH hb;omega
    rw[hbeq];refine⟨?_,fun v H' hx=>?_⟩
    ·have:=key.2;cases al<;>exact this
    ·obtain⟨rfl,rfl⟩:=hx;rw[hop,key.1];rfl
   ·exact⟨trivial,fun _ _ h=>h.elim⟩
theorem kB {E:EP}{ih:iH}{rd:Option Nat}{o:Op}{d:Option Tmp}{k:BT AVal->EH->R}{env:BT AVal}{h:EH}{r:RR}(hv:VH h)(hr:eS o E ih rd d k env h=some r):Plain E.P E.G o d k env h r :=
 gZ hv (sP hv).1 (sP hv).2 hr
end Go.Hx
namespace Go.Hx
variable {E:EP} {ih:iH} {rd:Option Nat} {d:Option Tmp} {k:BT AVal->EH->R} {env:BT AVal} {h:EH} {r:RR}
theorem z8 {v:AVal}{g:Nat}{e:TypeId}{c:List AVal}:lQ (.eff v h.nx g e c true) h:=rfl
theorem z9 (parts:Array (Nat × Operand))(f:Operand->AVal):(parts.toList.map (·.1)).zip ((parts.toList.map (·.2)).map f)=parts.toList.map fun p=>(p.1,f p.2):=by
 induction parts.toList with
 | nil=>rfl
 | cons p l ih=>simp only[List.map_cons,RX,ih]
theorem vL {H H':AHeap}{b:Blk}(h:H.lay H.next b=some H'):H'=⟨fun j=>if j=H.next then some b else H.get j,H.next+1⟩:=by
 unfold AHeap.lay at h;rw[Pv rfl]at h;exact(Option.some.inj h).symm
theorem Aa {x:Option (AVal × AHeap)}{v:AVal}{H':AHeap}(hx:∀ u H2,x=some (u,H2)->∃ g e c,H2=⟨fun j=>if j=h.nx then some (.arr g e c) else (ao h).get j,h.nx+1⟩):
  lQ (r8 h.nx true x) h/\(nM (r8 h.nx true x) h v H'->x=some (v,H')):=by
 unfold r8;split
 ·rename_i u H2;obtain⟨g,e,c,rfl⟩:=hx u H2 rfl;simp only[pO,if_true];refine⟨rfl,fun hr=>?_⟩;obtain⟨rfl,rfl⟩:=hr;rfl
 ·exact⟨trivial,fun hr=>hr.elim⟩
theorem Ji {x:Operand}(hv:VH h)(hr:ks x E ih rd d k env h=some r):Plain E.P E.G (.move x) d k env h r:=by
 unfold ks at hr;rw[cG]at hr;exact pR hv rfl hr
theorem Jj {x:Operand}(hv:VH h)(hr:ks x E ih rd d k env h=some r):Plain E.P E.G (.assign x) d k env h r:=by
 unfold ks at hr;rw[cG]at hr;exact pR hv rfl hr
theorem Jk {e:TypeId}{x:Operand}(hv:VH h)(hr:rT e x E ih rd d k env h=some r):Plain E.P E.G (.box e x) d k env h r:=by
 unfold rT at hr;rw[cG]at hr;refine gZ hv z8 (fun v H' hx=>?_) hr;obtain⟨rfl,rfl⟩:=hx;show ((ao h).lay (ao h).next (.arr 0 e (ah E.G (aD env) x).cells)).map (fun H'=>(AVal.ptr h.nx 0 0,H'))=_;unfold AHeap.lay;rw[Pv rfl];rfl
theorem Jl {t:TypeId}{parts:Array (Nat × Operand)}(hv:VH h)(hr:rU t parts E ih rd d k env h=some r):Plain E.P E.G (.build t parts) d k env h r:=by
 unfold rU at hr;rw[nL,z9]at hr;exact fX hv rfl hr
theorem Jm {t:TypeId}{len:Nat}{parts:Array (Nat × Operand)}(hv:VH h)(hr:rV t len parts E ih rd d k env h=some r):Plain E.P E.G (.buildSlice t len parts) d k env h r:=by
 unfold rV at hr;rw[nL,z9]at hr;have hform:∀ u H2,ix E.P (ao h) h.nx t len (parts.toList.map fun p=>(p.1,ah E.G (aD env) p.2))=some (u,H2)->∃ e c,H2=⟨fun j=>if j=h.nx then some (.arr 0 e c) else (ao h).get j,h.nx+1⟩:=by
  intro u H2 hb;unfold ix at hb;split at hb
  ·split at hb
   ·simp only[Pu,an,Prod.mk.injEq]at hb;obtain⟨z,_,c,_,H3,hl,_,rfl⟩:=hb;exact⟨_,_,vL hl⟩
   ·cases hb
  ·cases hb
 refine gZ hv ?_ (fun v H' hx=>?_) hr
 ·unfold pI;split
  ·trivial
  ·rename_i u H2 hb;obtain⟨e,c,rfl⟩:=hform _ _ hb;simp only[if_true,show Nat.beq h.nx h.nx=true from Rj _];rfl
 ·unfold pI at hx;split at hx
  ·exact hx.elim
  ·rename_i u H2 hb;obtain⟨e,c,rfl⟩:=hform _ _ hb;simp only[if_true,show Nat.beq h.nx h.nx=true from Rj _]at hx;obtain⟨rfl,rfl⟩:=hx;exact hb
theorem Jn {t:TypeId}{a:Operand}(hv:VH h)(hr:rW t a E ih rd d k env h=some r):Plain E.P E.G (.load t a) d k env h r:=by
 unfold rW at hr;rw[cG]at hr;refine gZ hv (z6 _ _) (fun v H' hx=>?_) hr;obtain⟨h1,rfl⟩:=zX hx;show (ed E.P (ao h) t (ah E.G (aD env) a)).map _=_;rw[Jg h1];rfl
theorem Jo {P:Program}{t:TypeId}{a v:AVal}(hv:VH h):lQ (nu P h t a v) h:=by
 unfold nu;split
 ·rename_i id gen off;split
  ·rename_i g e cells hg;cases hb:Nat.beq g gen with
   | false=>trivial
   | true =>
    simp only;split
    ·show id<h.nx;exact hv _ _ hg
    ·trivial
  ·trivial
 ·trivial
theorem Jp {t:TypeId}{a x:Operand}(hv:VH h)(hr:rX t a x E ih rd d k env h=some r):Plain E.P E.G (.store t a x) d k env h r:=by
 unfold rX at hr;cases hu:(E.P.underlying t).isSome with
 | false=>rw[hu]at hr;cases hr
 | true =>
  rw[hu]at hr;have hr':(bZ E.G env a fun a=>bZ E.G env x fun v=>cZ d k env (nu E.P h t a v) h)=some r:=hr;rw[cG,cG]at hr';refine gZ hv ?_ (fun v H' hx=>?_) hr'
  ·exact Jo hv
  ·obtain⟨rfl,h2⟩:=Jh hx;show (if (E.P.underlying t).isSome then (fO E.P (ao h) t (ah E.G (aD env) a) (ah E.G (aD env) x)).map (fun H'=>(AVal.lit undef,H')) else none)=_;rw[Pv hu,h2];rfl
def Ab (P:Program)(G:Nat->Option (List AVal))(o:Op)(d:Option Tmp)(k:BT AVal->EH->R)(env:BT AVal)(h:EH)(r:RR):Prop :=
 ∃ op t x y u env',o=.binOp op t x y u/\gz (ao h) op (ah G (aD env) x) (ah G (aD env) y)=some true/\jK (P.underlying t)=true/\aD env'=aE (aD env) d (.lit (.bool (op == .neq)))/\k env' h=some r
theorem Jq {op:BinOp}{t:TypeId}{x y:Operand}{u:TypeId}(hv:VH h)(hr:rZ op t x y u E ih rd d k env h=some r):Plain E.P E.G (.binOp op t x y u) d k env h r\/Ab E.P E.G (.binOp op t x y u) d k env h r:=by
 unfold rZ at hr;rw[cG,cG]at hr;have hop:af E.P E.G (aD env) (ao h) h.nx (.binOp op t x y u)=(aX E.P op t x y (ah E.G (aD env) x) (ah E.G (aD env) y)).map fun v=>(v,ao h):=rfl;unfold zC at hr;split at hr
 ·rename_i kd a kd' b ha hb;rw[ha,hb]at hop;left;cases hk:Nat.beq (lK kd) (lK kd') with
  | false=>rw[hk]at hr;exact fX hv hop hr
  | true =>
   rw[hk]at hr;obtain rfl:=Jf hk;have hr':Option.rec (motive:=fun _=>R) (rY E op t x y (.lit (.int kd a)) (.lit (.int kd b)) d k env h) (fun f=>f kd a b d k env h) (pL op)=some r:=hr;cases hi:pL op with
   | none =>
    rw[hi]at hr';exact fX hv hop hr'
   | some f =>
    rw[hi]at hr';obtain⟨v,env',h1,h2,h3⟩:=Je (P:=E.P) (t:=t) (x:=x) (y:=y) hi hr';refine⟨v,env',h,?_,hv,h2,h3⟩;rw[hop,h1];rfl
 ·unfold zB at hr;split at hr
  ·exact .inl (fX hv hop hr)
  ·rename_i hn;right;cases hs:jK (E.P.underlying t) with
   | false=>rw[hs]at hr;cases hr
   | true =>
    rw[hs]at hr;obtain⟨env',h1,h2⟩:=lO (show ji d k env h (op == .neq)=some r from hr);exact⟨op,t,x,y,u,env',rfl,hn,hs,h1,h2⟩
  ·cases hr
theorem Jr {fn:Fn}{first cap:Array Operand}(hv:VH h)(hr:r6 fn first cap E ih rd d k env h=some r):Plain E.P E.G (.makeFunc fn first cap) d k env h r:=by
 unfold r6 at hr;split at hr
 ·rw[nL,nL]at hr;exact pR hv rfl hr
 ·cases hr
theorem Js {t:TypeId}{x i:Operand}(hv:VH h)(hr:r7 t x i E ih rd d k env h=some r):Plain E.P E.G (.indexAddr t x i) d k env h r:=by
 unfold r7 at hr;rw[cG,cG]at hr;refine fX hv ?_ hr;simp only[af,ng];split
 ·rename_i heq;rw[heq]
 ·rename_i hne;split
  ·rename_i heq;exact absurd heq (hne _ _)
  ·rfl
theorem Jt {c a b:Operand}(hv:VH h)(hr:r9 c a b E ih rd d k env h=some r):Plain E.P E.G (.pick c a b) d k env h r:=by
 unfold r9 at hr;rw[cG]at hr;split at hr
 ·rename_i t hc;have hop:∀ t',ah E.G (aD env) c=.lit (.bool t')->af E.P E.G (aD env) (ao h) h.nx (.pick c a b)=some (if t' then ah E.G (aD env) a else ah E.G (aD env) b,ao h):=fun t' ht=>by
   simp only[af,ht]
  cases t with
  | false =>
   have hr':(bZ E.G env b fun v=>eG env d v fun env=>k env h)=some r:=hr;rw[cG]at hr';exact pR hv (hop _ hc) hr'
  | true =>
   have hr':(bZ E.G env a fun v=>eG env d v fun env=>k env h)=some r:=hr;rw[cG]at hr';exact pR hv (hop _ hc) hr'
 ·cases hr
theorem Ju {e:TypeId}(hv:VH h)(hr:sd e E ih rd d k env h=some r):Plain E.P E.G (.alloc e) d k env h r:=by
 unfold sd at hr;split at hr
 ·rename_i z hz;refine gZ hv z8 (fun v H' hx=>?_) hr;obtain⟨rfl,rfl⟩:=hx;show ((bM E.P e).bind fun z=>((ao h).lay (ao h).next (.arr 0 e z)).map fun H'=>(AVal.ptr h.nx 0 0,H'))=_;rw[hz];show ((ao h).lay (ao h).next (.arr 0 e z)).map _=_;unfold AHeap.lay;rw[Pv rfl];rfl
 ·cases hr
theorem Jv {x:Operand}(hv:VH h)(hr:se x E ih rd d k env h=some r):Plain E.P E.G (.nilCheck x) d k env h r:=by
 unfold se at hr;rw[cG]at hr;exact fX hv rfl hr
theorem Jw {op:UnOp}{t:TypeId}{x:Operand}(hv:VH h)(hr:sf op t x E ih rd d k env h=some r):Plain E.P E.G (.unOp op t x) d k env h r:=by
 unfold sf at hr;rw[cG]at hr;exact fX hv rfl hr
theorem Jx {s t:TypeId}{x:Operand}(hv:VH h)(hr:sg s t x E ih rd d k env h=some r):Plain E.P E.G (.convert s t x) d k env h r:=by
 unfold sg at hr;rw[cG]at hr;exact fX hv rfl hr
theorem Jy {t:Operand}{i:Nat}(hv:VH h)(hr:sw t i E ih rd d k env h=some r):Plain E.P E.G (.extract t i) d k env h r:=by
 unfold sw at hr;rw[cG]at hr;exact fX hv rfl hr
theorem Jz {t:TypeId}{x i:Operand}(hv:VH h)(hr:su t x i E ih rd d k env h=some r):Plain E.P E.G (.index t x i) d k env h r:=by
 unfold su at hr;rw[cG,cG]at hr;exact fX hv rfl hr
theorem JA {t:TypeId}{x:Operand}{f:Nat}(hv:VH h)(hr:ss t x f E ih rd d k env h=some r):Plain E.P E.G (.field t x f) d k env h r:=by
 unfold ss at hr;rw[cG]at hr;refine fX hv ?_ hr;simp only[af,yJ];cases bE E.P t f with
 | none=>rfl
 | some of =>
  simp only[Option.bind_some];generalize ah E.G (aD env) x=v;cases v with
  | lit v=>cases v<;>rfl
  | _=>rfl
theorem JB {t:TypeId}{x:Operand}{f:Nat}(hv:VH h)(hr:sk t x f E ih rd d k env h=some r):Plain E.P E.G (.fieldAddr t x f) d k env h r:=by
 unfold sk at hr;rw[cG]at hr;refine fX hv ?_ hr;simp only[af,nf];cases bE E.P t f with
 | none=>rfl
 | some of =>
  simp only[Option.bind_some];generalize ah E.G (aD env) x=v;cases v with
  | ptr id gen off =>
   show Option.map _ ((ao h).live id gen)=Option.map _ (Option.map _ ((ao h).live id gen));rw[Option.map_map];rfl
  | _=>rfl
theorem JC {t:TypeId}{l c:Operand}(hv:VH h)(hr:sh t l c E ih rd d k env h=some r):Plain E.P E.G (.makeSlice t l c) d k env h r:=by
 unfold sh at hr;rw[cG,cG]at hr;have hform:∀ u H2,gU E.P (ao h) h.nx t (ah E.G (aD env) l) (ah E.G (aD env) c)=some (u,H2)->∃ g e c,H2=⟨fun j=>if j=h.nx then some (.arr g e c) else (ao h).get j,h.nx+1⟩:=by
  intro u H2 hb;unfold gU at hb;split at hb
  ·split at hb
   ·simp only[Pu,an,Prod.mk.injEq]at hb;obtain⟨z,_,H3,hl,_,rfl⟩:=hb;exact⟨_,_,_,vL hl⟩
   ·cases hb
  ·cases hb
 exact gZ hv (Aa (v:=.lit undef) (H':=ao h) hform).1 (fun v H' hx=>(Aa hform).2 hx) hr
theorem JD {t:TypeId}{x:Operand}{l u m:Option Operand}(hv:VH h)(hr:sj t x l u m E ih rd d k env h=some r):Plain E.P E.G (.slice t x l u m) d k env h r:=by
 unfold sj at hr;split at hr
 ·rw[cG,zW,zW]at hr;exact fX hv rfl hr
 ·cases hr
theorem JE {c:Call}{t:TypeId}{x:Operand}(hb:c.callee=.builtin .len)(ht:c.argTypes.toList=[t])(ha:c.args.toList=[x])(hv:VH h)(hr:sx t x E ih rd d k env h=some r):Plain E.P E.G (.call c) d k env h r:=by
 unfold sx at hr;rw[cG]at hr;refine fX hv ?_ hr;simp only[af,hb,ht,ha];rfl
theorem JF {P:Program}{H H':AHeap}{nx:Nat}{t u:TypeId}{id g o l z:Nat}{x v:AVal}(hr:bC P H nx t u (.own id g o l z) x=some (v,H')):
  (v=.own id g o l z/\H'=H)\/∃ l' e c,v=.own id (g+1) 0 l' z/\H'=H.upd id (.arr (g+1) e c)/\∃ e0 c0,H.live id g=some (e0,c0):=by
 unfold bC at hr;split at hr
 ·split at hr
  ·simp only[Pu]at hr;obtain⟨_,_,nx',_,ec,hl,hr⟩:=hr;split at hr
   ·split at hr
    ·simp only[Option.some.injEq,Prod.mk.injEq]at hr;exact .inl ⟨hr.1.symm,hr.2.symm⟩
    ·simp only[Option.some.injEq,Prod.mk.injEq]at hr;exact .inr ⟨_,_,_,hr.1.symm,hr.2.symm,ec.1,ec.2,hl⟩
   ·cases hr
  ·cases hr
 ·cases hr
theorem append_nil {P:Program}{H H':AHeap}{t u:TypeId}{s x v:AVal}(hs:∀ a b c d e,s≠.own a b c d e)(hr:bC P H H.next t u s x=some (v,H')):
  (v=.lit (.slice none 0 0)/\H'=H)\/∃ l z e c,v=.own H.next 0 0 l z/\H'=⟨fun j=>if j=H.next then some (.arr 0 e c) else H.get j,H.next+1⟩:=by
 unfold bC at hr;split at hr
 ·split at hr
  ·simp only[Pu]at hr;obtain⟨_,_,nx',_,hr⟩:=hr;split at hr
   ·split at hr
    ·simp only[Option.some.injEq,Prod.mk.injEq]at hr;exact .inl ⟨hr.1.symm,hr.2.symm⟩
    ·split at hr
     ·simp only[an,Prod.mk.injEq]at hr;obtain⟨H3,hl,h1,rfl⟩:=hr;exact .inr ⟨_,_,_,_,h1.symm,vL hl⟩
     ·cases hr
   ·exact absurd rfl (hs _ _ _ _ _)
   ·cases hr
  ·cases hr
 ·cases hr
theorem JG {c:Call}{t u:TypeId}{s x:Operand}(hb:c.callee=.builtin .append)(ht:c.argTypes.toList=[t,u])(ha:c.args.toList=[s,x])(hv:VH h)(hr:sy t u s x E ih rd d k env h=some r):Plain E.P E.G (.call c) d k env h r:=by
 unfold sy at hr;rw[cG,cG]at hr;have hop:af E.P E.G (aD env) (ao h) h.nx (.call c)=bC E.P (ao h) h.nx t u (ah E.G (aD env) s) (ah E.G (aD env) x):=by
  simp only[af,hb,ht,ha];rfl
 generalize ah E.G (aD env) s=sv at hr hop;generalize ah E.G (aD env) x=xv at hr hop;unfold zD at hr;split at hr
 ·rename_i id g o l z;split at hr
  ·rename_i g' o' l' z' H' happ;rename_i id';have happ0:=happ;rcases JF happ with ⟨h1,rfl⟩|⟨l2,e,c2,h1,rfl,e0,c0,hlive⟩
   ·simp only[AVal.own.injEq]at h1;obtain⟨rfl,rfl,rfl,rfl,rfl⟩:=h1;have hb2:Nat.beq g' g'=true:=Rj _;rw[hb2]at hr;refine gZ (x:=.val (.own id' g' o' l' z')) hv trivial (fun v H'' hx=>?_) hr;obtain⟨rfl,rfl⟩:=hx;rw[hop,happ0]
   ·simp only[AVal.own.injEq]at h1;obtain⟨rfl,rfl,rfl,rfl,rfl⟩:=h1;have hne:Nat.beq (g+1) g=false:=by
     cases hbq:Nat.beq (g+1) g with
     | false=>rfl
     | true=>have:=PH hbq;omega
    rw[hne]at hr;have hr':cZ d k env (pO (.own id' (g+1) 0 l' z') id' false (((ao h).upd id' (.arr (g+1) e c2)).get id')) h=some r:=hr;have hget:((ao h).upd id' (.arr (g+1) e c2)).get id'=some (.arr (g+1) e c2):=(by simp [AHeap.upd]);rw[hget]at hr';refine gZ (x:=.eff (.own id' (g+1) 0 l' z') id' (g+1) e c2 false) hv ?_ (fun v H'' hx=>?_) hr'
    ·show id'<h.nx;exact gX hv.wf hlive
    ·obtain⟨rfl,rfl⟩:=hx;rw[hop,happ0];rfl
  ·cases hr
 ·rename_i hs;split at hr
  ·rename_i id' g' o' l' z' H' happ;rcases append_nil (H:=ao h) (fun a b c d e he=>hs a b c d e he) happ with ⟨h1,_⟩|⟨l2,z2,e,c2,h1,h2⟩
   ·cases h1
   ·have hget:H'.get h.nx=some (.arr 0 e c2):=by
     rw[h2];show (if h.nx=h.nx then some (Blk.arr 0 e c2) else _)=_;rw[Pv rfl]
    rw[hget]at hr;refine gZ (x:=.eff (.own id' g' o' l' z') h.nx 0 e c2 true) hv rfl (fun v H'' hx=>?_) hr;obtain⟨rfl,rfl⟩:=hx;rw[hop,happ,h2];rfl
  ·rename_i v H' happ;rcases append_nil (H:=ao h) (fun a b c d e he=>hs a b c d e he) happ with ⟨h1,h2⟩|⟨l2,z2,e,c2,h1,h2⟩
   ·refine gZ (x:=.val (.lit v)) hv trivial (fun v H'' hx=>?_) hr;obtain⟨rfl,rfl⟩:=hx;rw[hop,happ,h2]
   ·cases h1
  ·cases hr
theorem JH (c:Call)(b:Builtin):(∃ t x,b=.len/\c.argTypes.toList=[t]/\c.args.toList=[x]/\nF c b=sx t x) \/
  (∃ t u s x,b=.append/\c.argTypes.toList=[t,u]/\c.args.toList=[s,x]/\nF c b=sy t u s x)\/nF c b=eS (.call c):=by
 unfold nF;split
 ·rename_i t x h1 h2;exact .inl ⟨t,x,rfl,h1,h2,rfl⟩
 ·rename_i t u s x h1 h2;exact .inr (.inl ⟨t,u,s,x,rfl,h1,h2,rfl⟩)
 ·exact .inr (.inr rfl)
theorem JI {o:Op}(hv:VH h)(hr:sA o E ih rd d k env h=some r):
  Plain E.P E.G o d k env h r\/Ab E.P E.G o d k env h r\/(∃ fv args ats,o=.call ⟨.value fv,args,ats⟩/\vy fv args E ih rd d k env h=some r)\/(∃ x,o=.panic x/\vw x E ih rd d k env h=some r):=by
 cases o with
 | move x=>exact .inl (Ji hv (show ks x E ih rd d k env h=some r from hr))
 | assign x=>exact .inl (Jj hv (show ks x E ih rd d k env h=some r from hr))
 | pick c a b=>exact .inl (Jt hv (show r9 c a b E ih rd d k env h=some r from hr))
 | alloc e=>exact .inl (Ju hv (show sd e E ih rd d k env h=some r from hr))
 | box e x=>exact .inl (Jk hv (show rT e x E ih rd d k env h=some r from hr))
 | build t parts=>exact .inl (Jl hv (show rU t parts E ih rd d k env h=some r from hr))
 | buildSlice t l parts=>exact .inl (Jm hv (show rV t l parts E ih rd d k env h=some r from hr))
 | load t a=>exact .inl (Jn hv (show rW t a E ih rd d k env h=some r from hr))
 | store t a x=>exact .inl (Jp hv (show rX t a x E ih rd d k env h=some r from hr))
 | nilCheck x=>exact .inl (Jv hv (show se x E ih rd d k env h=some r from hr))
 | binOp op t x y u=>exact(Jq hv (show rZ op t x y u E ih rd d k env h=some r from hr)).elim .inl fun h=>.inr (.inl h)
 | unOp op t x=>exact .inl (Jw hv (show sf op t x E ih rd d k env h=some r from hr))
 | convert s t x=>exact .inl (Jx hv (show sg s t x E ih rd d k env h=some r from hr))
 | makeInterface t x=>exact .inl (kB hv (show eS (.makeInterface t x) E ih rd d k env h=some r from hr))
 | insert t m a x=>exact .inl (kB hv (show eS (.insert t m a x) E ih rd d k env h=some r from hr))
 | makeMap t x=>exact .inl (kB hv (show eS (.makeMap t x) E ih rd d k env h=some r from hr))
 | lookup t x i ok=>exact .inl (kB hv (show eS (.lookup t x i ok) E ih rd d k env h=some r from hr))
 | mapUpdate t m a x=>exact .inl (kB hv (show eS (.mapUpdate t m a x) E ih rd d k env h=some r from hr))
 | mapEntry t m a=>exact .inl (kB hv (show eS (.mapEntry t m a) E ih rd d k env h=some r from hr))
 | entryStore t m a x=>exact .inl (kB hv (show eS (.entryStore t m a x) E ih rd d k env h=some r from hr))
 | makeFunc fn a b=>exact .inl (Jr hv (show r6 fn a b E ih rd d k env h=some r from hr))
 | makeSlice t l c=>exact .inl (JC hv (show sh t l c E ih rd d k env h=some r from hr))
 | slice t x l u m=>exact .inl (JD hv (show sj t x l u m E ih rd d k env h=some r from hr))
 | fieldAddr t x f=>exact .inl (JB hv (show sk t x f E ih rd d k env h=some r from hr))
 | field t x f=>exact .inl (JA hv (show ss t x f E ih rd d k env h=some r from hr))
 | indexAddr t x i=>exact .inl (Js hv (show r7 t x i E ih rd d k env h=some r from hr))
 | index t x i=>exact .inl (Jz hv (show su t x i E ih rd d k env h=some r from hr))
 | extract t i=>exact .inl (Jy hv (show sw t i E ih rd d k env h=some r from hr))
 | panic x=>exact .inr (.inr (.inr ⟨x,rfl,hr⟩))
 | call c =>
  have hr':zE c E ih rd d k env h=some r:=hr;obtain⟨callee,args,ats⟩:=c;cases callee with
  | value fv=>exact .inr (.inr (.inl ⟨fv,args,ats,rfl,hr'⟩))
  | builtin b =>
   refine .inl ?_;have hr2:nF ⟨.builtin b,args,ats⟩ b E ih rd d k env h=some r:=hr';rcases JH ⟨.builtin b,args,ats⟩ b with ⟨t,x,rfl,h1,h2,h3⟩|⟨t,u,s,x,rfl,h1,h2,h3⟩|h3
   ·rw[h3]at hr2;exact JE rfl h1 h2 hv hr2
   ·rw[h3]at hr2;exact JG rfl h1 h2 hv hr2
   ·rw[h3]at hr2;exact kB hv hr2
  | invoke a b=>cases hr'
 | _=>cases hr
end Go.Hx
namespace Go.Hx
theorem lR {f:AVal->Option (AVal × List Nat)}:∀ {l l':List AVal} {rs:List Nat},bK f l=some (l',rs) ->
  l'.length=l.length/\∀ i (_:i<l.length) (_:i<l'.length),∃ ri,f l[i]=some (l'[i],ri)/\∀ r,r∈ri->r∈rs:=by
 intro l
 induction l with
 | nil =>
  intro l' rs h;simp only[bK,Option.some.injEq,Prod.mk.injEq]at h;obtain⟨rfl,rfl⟩:=h;exact⟨rfl,fun i h _=>absurd h (PL _)⟩
 | cons x l ih =>
  intro l' rs h;have h':(match f x,bK f l with|some (y,a),some (l,b)=>some (y :: l,a++b)|_,_=>none)=some (l',rs):=h;split at h'
  ·rename_i y a l2 b h1 h2;simp only[Option.some.injEq,Prod.mk.injEq]at h';obtain⟨rfl,rfl⟩:=h';obtain⟨h3,h4⟩:=ih h2;refine⟨by simp [h3],fun i hi hi'=>?_⟩;cases i with
   | zero=>exact⟨a,h1,fun r hr=>QZ _ hr⟩
   | succ i =>
    obtain⟨ri,h5,h6⟩:=h4 i (by simpa using hi) (by simpa using hi');exact⟨ri,h5,fun r hr=>QE _ (h6 r hr)⟩
  ·cases h'
theorem kC {h:EH}{id g:Nat}{e:TypeId}{c:List AVal}(hg:aP h.hp id=some (.arr g e c)):(ao h).get id=some (.arr g e c):=by
 show Option.map EBlk.je (aP h.hp id)=_;rw[hg];rfl
theorem Ac {h:EH}:∀ (fuel:Nat) {v v':AVal} {rs:List Nat},fV h fuel v=some (v',rs)->∀ H2:AHeap,(∀ r,r∈rs->H2.get r=(ao h).get r)->Fz (fun _=>True) H2 0 v v':=by
 intro fuel
 induction fuel with
 | zero=>intro v v' rs h;cases h
 | succ f ih =>
  intro v v' rs hv H2 ha;have list:∀ {l l':List AVal} {rs':List Nat},bK (fV h f) l=some (l',rs')->(∀ r,r∈rs'->H2.get r=(ao h).get r) ->
    l'.length=l.length/\∀ i (_:i<l.length) (_:i<l'.length),Fz (fun _=>True) H2 0 l[i] l'[i]:=fun hm ha'=>by
   obtain⟨h1,h2⟩:=lR hm;exact⟨h1,fun i hi hi'=>let ⟨ri,h3,h4⟩:=h2 i hi hi';ih h3 H2 fun r hr=>ha' r (h4 r hr)⟩
  cases v with
  | lit v =>
   have hv':some (AVal.lit v,[])=some (v',rs):=hv;simp only[Option.some.injEq,Prod.mk.injEq]at hv';obtain⟨rfl,rfl⟩:=hv';exact .lit _
  | vec n c =>
   have hv':(bK (fV h f) c).map (fun p=>(AVal.vec n p.1,p.2))=some (v',rs):=hv;simp only[an,Prod.mk.injEq]at hv';obtain⟨⟨c',rs'⟩,h1,rfl,rfl⟩:=hv';obtain⟨h2,h3⟩:=list h1 ha;exact .vec h2 h3
  | vptr c o =>
   have hv':(bK (fV h f) c).map (fun p=>(AVal.vptr p.1 o,p.2))=some (v',rs):=hv;simp only[an,Prod.mk.injEq]at hv';obtain⟨⟨c',rs'⟩,h1,rfl,rfl⟩:=hv';obtain⟨h2,h3⟩:=list h1 ha;exact .vptr h2 h3
  | agg c =>
   have hv':(bK (fV h f) c).map (fun p=>(AVal.agg p.1,p.2))=some (v',rs):=hv;simp only[an,Prod.mk.injEq]at hv';obtain⟨⟨c',rs'⟩,h1,rfl,rfl⟩:=hv';obtain⟨h2,h3⟩:=list h1 ha;exact .agg h2 h3
  | tup c =>
   have hv':(bK (fV h f) c).map (fun p=>(AVal.tup p.1,p.2))=some (v',rs):=hv;simp only[an,Prod.mk.injEq]at hv';obtain⟨⟨c',rs'⟩,h1,rfl,rfl⟩:=hv';obtain⟨h2,h3⟩:=list h1 ha;exact .tup h2 h3
  | clo g a b =>
   have hv':(match bK (fV h f) a,bK (fV h f) b with|some p,some q=>some (AVal.clo g p.1 q.1,p.2++q.2)|_,_=>none)=some (v',rs):=hv;split at hv'
   ·rename_i p q h1 h2;simp only[Option.some.injEq,Prod.mk.injEq]at hv';obtain⟨rfl,rfl⟩:=hv';obtain⟨h3,h4⟩:=list h1 fun r hr=>ha r (QZ _ hr);obtain⟨h5,h6⟩:=list h2 fun r hr=>ha r (QE _ hr);exact .clo h3 h5 h4 h6
   ·cases hv'
  | own id g o l z =>
   have hv':(match aP h.hp id with|some (.arr g' _ cells)=>if g'=g/\o+l*z<=cells.length then (bK (fV h f) ((cells.drop o).take (l*z))).map fun p=>(AVal.vec l p.1,id :: p.2) else none|_=>none)=some (v',rs):=hv;split at hv'
   ·rename_i g' e cells hg;split at hv'
    ·rename_i hc;obtain⟨rfl,hle⟩:=hc;simp only[an,Prod.mk.injEq]at hv';obtain⟨⟨c',rs'⟩,h1,rfl,rfl⟩:=hv';obtain⟨h2,h3⟩:=list h1 fun r hr=>ha r (Qh _ hr);have hlen:((cells.drop o).take (l*z)).length=l*z:=(by simp;omega);refine .frz trivial ((ha id (Qz ..)).trans (kC hg)) (h2.trans hlen) fun i hi h2i hi'=>?_;have:=h3 i (by omega) hi';simpa using this
    ·cases hv'
   ·cases hv'
  | ptr id g o =>
   have hv':(match aP h.hp id with|some (.arr g' _ (x :: cells))=>if g'=g then (bK (fV h f) (x :: cells)).map fun p=>(AVal.vptr p.1 o,id :: p.2) else none|_=>none)=some (v',rs):=hv;split at hv'
   ·rename_i g' e x cells hg;split at hv'
    ·rename_i hc;subst hc;simp only[an,Prod.mk.injEq]at hv';obtain⟨⟨c',rs'⟩,h1,rfl,rfl⟩:=hv';obtain⟨h2,h3⟩:=list h1 fun r hr=>ha r (Qh _ hr);exact .pfrz trivial ((ha id (Qz ..)).trans (kC hg)) (by simp) h2 h3
    ·cases hv'
   ·cases hv'
  | yld n=>cases hv
theorem JJ {f:AVal->Option AVal}:∀ {l l':List AVal},jf f l=some l'->l'.length=l.length/\∀ i (_:i<l.length) (_:i<l'.length),f l[i]=some l'[i]:=by
 intro l
 induction l with
 | nil =>
  intro l' h;simp only[jf,Option.some.injEq]at h;subst h;exact⟨rfl,fun i h _=>absurd h (PL _)⟩
 | cons x l ih =>
  intro l' h;have h':(match f x,jf f l with|some y,some l=>some (y :: l)|_,_=>none)=some l':=h;split at h'
  ·rename_i y l2 h1 h2;simp only[Option.some.injEq]at h';subst h';obtain⟨h3,h4⟩:=ih h2;refine⟨by simp [h3],fun i hi hi'=>?_⟩;cases i with
   | zero=>exact h1
   | succ i=>exact h4 i (by simpa using hi) (by simpa using hi')
  ·cases h'
theorem Ad {h:EH}:∀ (fuel:Nat) {v v':AVal},lJ h fuel v=some v'->Fresh (ao h) v v':=by
 intro fuel
 induction fuel with
 | zero=>intro v v' h;cases h
 | succ f ih =>
  intro v v' hv;have list:∀ {l l':List AVal},jf (lJ h f) l=some l'->l'.length=l.length/\∀ i (_:i<l.length) (_:i<l'.length),Fresh (ao h) l[i] l'[i]:=fun hm=>by
   obtain⟨h1,h2⟩:=JJ hm;exact⟨h1,fun i hi hi'=>ih (h2 i hi hi')⟩
  cases v with
  | lit v =>
   have hv':some (AVal.lit v)=some v':=hv;cases hv';exact .lit _
  | agg c =>
   have hv':(jf (lJ h f) c).map AVal.agg=some v':=hv;simp only[an]at hv';obtain⟨c',h1,rfl⟩:=hv';obtain⟨h2,h3⟩:=list h1;exact .agg h2 h3
  | tup c =>
   have hv':(jf (lJ h f) c).map AVal.tup=some v':=hv;simp only[an]at hv';obtain⟨c',h1,rfl⟩:=hv';obtain⟨h2,h3⟩:=list h1;exact .tup h2 h3
  | own id g o l z =>
   have hv':(match aP h.hp id with|some (.arr g' _ cells)=>if g'=g/\o+l*z<=cells.length then (jf (lJ h f) ((cells.drop o).take (l*z))).map (AVal.vec l) else none|_=>none)=some v':=hv;split at hv'
   ·rename_i g' e cells hg;split at hv'
    ·rename_i hc;obtain⟨rfl,hle⟩:=hc;simp only[an]at hv';obtain⟨c',h1,rfl⟩:=hv';obtain⟨h2,h3⟩:=list h1;have hlen:((cells.drop o).take (l*z)).length=l*z:=(by simp;omega);refine .own (kC hg) (h2.trans hlen) fun i hi h2i hi'=>?_;have:=h3 i (by omega) hi';simpa using this
    ·cases hv'
   ·cases hv'
  | _=>cases hv
theorem gE {f:AVal->AVal->Bool}(hf:∀ x y,f x y=true->x=y):∀ {a b:List AVal},eR f a b=true->a=b:=by
 intro a
 induction a with
 | nil=>intro b h;cases b with
  | nil=>rfl
  | cons=>cases h
 | cons x l ih =>
  intro b h;cases b with
  | nil=>cases h
  | cons y b =>
   have h':(match f x y with|true=>eR f l b|false=>false)=true:=h;split at h'
   ·rename_i hxy;rw[hf _ _ hxy,ih h']
   ·cases h'
theorem Ae:∀ (fuel:Nat) (a b:AVal),nA fuel a b=true->a=b:=by
 intro fuel
 induction fuel with
 | zero=>intro a b h;cases h
 | succ f ih =>
  intro a b h;have h':vf (nA f) a b=true:=h;unfold vf at h';split at h'
  ·simp only[PS,decide_eq_true_eq,sN]at h';rw[h'.1,h'.2]
  ·simp only[beq_iff_eq]at h';rw[h']
  ·rfl
  ·simp only[PS]at h';rw[PH h'.1,gE ih h'.2]
  ·simp only[PS]at h';rw[PH h'.1,gE ih h'.2]
  ·rw[gE ih h']
  ·rw[gE ih h']
  ·simp only[PS]at h';rw[PH h'.1,gE ih h'.2.1,gE ih h'.2.2]
  ·cases h'
theorem Af {args:List AVal}{v:AVal}:∀ {l:List (List AVal × AVal)},rQ args l=some v->(args,v)∈l:=by
 intro l
 induction l with
 | nil=>intro h;cases h
 | cons p l ih =>
  intro h;have h':Bool.casesOn (motive:=fun _=>Option AVal) (eR (nA 40) p.1 args) (rQ args l) (some p.2)=some v:=h;cases he:eR (nA 40) p.1 args with
  | true =>
   rw[he]at h';have:=gE (Ae 40) he;have h2:p.2=v:=Option.some.inj h';rw[<- this,<- h2];exact Qz ..
  | false =>
   rw[he]at h';exact Qh _ (ih h')
theorem JK {k:BT AVal->R}{r:RR}:∀ {l:List AVal} {i:Nat} {t:BT AVal},rL k l i t=some r->∃ t',k t'=some r/\∀ m,dP t' m=if i<=m/\m<i+l.length then l[m - i]? else dP t m:=by
 intro l
 induction l with
 | nil=>intro i t h;exact⟨t,h,fun m=>by rw[Pt (by simp only[List.length_nil];omega)]⟩
 | cons x l ih =>
  intro i t h;have h':(km t i x fun t=>cV (Nat.succ i) fun i=>rL k l i t)=some r:=h;obtain⟨t1,h1,h2⟩:=vI _ _ _ _ _ h';rw[fW]at h1;obtain⟨t',h3,h4⟩:=ih h1;refine⟨t',h3,fun m=>?_⟩;rw[h4,h2];simp only[List.length_cons,Nat.succ_eq_add_one];by_cases hm:m=i
  ·subst hm;rw[Pt (by omega),Pv rfl,Pv (by omega)];simp
  ·rw[Pt hm];by_cases hm2:i+1<=m/\m<i+1+l.length
   ·rw[Pv hm2,Pv (by omega)];have:m - i=(m - (i+1))+1:=(by omega);rw[this,List.getElem?_cons_succ]
   ·rw[Pt hm2,Pt (by omega)]
theorem JL {k:BT AVal->R}{r:RR}{l:List AVal}(h:rL k l 0 .nil=some r):∃ t,k t=some r/\aD t=fB l:=by
 obtain⟨t,h1,h2⟩:=JK h;refine⟨t,h1,funext fun m=>?_⟩;rw[sK,h2];unfold fB;split
 ·rfl
 ·rename_i hm;rw[PD (by omega),sJ]
theorem JM {k:BT AVal->R}{r:RR}:∀ {ps:List Tmp} {vs:List AVal} {e:BT AVal},rR k ps vs e=some r->∃ e',k e'=some r/\vs.length=ps.length/\aD e'=ki (aD e) (ps.zip vs):=by
 intro ps
 induction ps with
 | nil =>
  intro vs e h;cases vs with
  | nil=>exact⟨e,h,rfl,rfl⟩
  | cons=>cases h
 | cons p ps ih =>
  intro vs e h;cases vs with
  | nil=>cases h
  | cons v vs =>
   have h':(km e p v fun e=>rR k ps vs e)=some r:=h;obtain⟨t1,h1,h2⟩:=vI _ _ _ _ _ h';obtain⟨e',h3,h4,h5⟩:=ih h1;refine⟨e',h3,by simp [h4],?_⟩;rw[h5,zV h2];rfl
theorem JN {n:Nat}:∀ (t:BT AVal) (a b:Nat),okB t a b n=true->∀ j v,dP t j=some v->a*j+b<n:=by
 intro t
 induction t with
 | nil=>intro a b _ j v h;cases h
 | node v l r ihl ihr =>
  intro a b h j u hj;have h':(zw v b n && (okB l (2*a) (a+b) n && okB r (2*a) (2*a+b) n))=true:=h;simp only[PS]at h';obtain⟨h1,h2,h3⟩:=h';cases j with
  | zero =>
   rw[Jb]at hj;rw[hj]at h1;have h4:b<n:=(by rw[<- Su];exact h1);omega
  | succ m =>
   rw[jj]at hj;split at hj
   ·rename_i hm;have:=ihl _ _ h2 _ _ hj;have h4:m=2*(m / 2):=(by omega);generalize m / 2=q at this h4;subst h4;have h5:a*(2*q+1)=2*a*q+a:=(by rw[Ri,Nat.mul_one,<- QJ,Q9 a 2]);omega
   ·rename_i hm;have:=ihr _ _ h3 _ _ hj;have h4:m=2*(m / 2)+1:=(by omega);generalize m / 2=q at this h4;subst h4;have h5:a*(2*q+1+1)=2*a*q+2*a:=(by rw[show 2*q+1+1=2*q+2 from rfl,Ri,<- QJ,Q9 a 2]);omega
theorem JO {env:BT AVal}{n:Nat}(h:okB env 1 0 n=true):eE (aD env) n=aD env:=by
 funext t
 unfold eE;split
 ·rfl
 ·rename_i ht;rw[sK];cases hg:dP env t with
  | none=>rfl
  | some v =>
   have:=JN env 1 0 h t v hg;omega
end Go.Hx
namespace Go.Hx
theorem jk {l:List Nat}{n:Nat}:dW l n=true↔n∈l:=by
 induction l with
 | nil=>exact⟨fun h=>absurd (show false=true from h) (by decide),fun h=>absurd h (List.not_mem_nil)⟩
 | cons x l ih =>
  have h':dW (x :: l) n=Bool.rec (motive:=fun _=>Bool) (dW l n) true (Nat.beq x n):=rfl;rw[h',List.mem_cons];cases hb:Nat.beq x n with
  | true=>exact⟨fun _=>.inl (PH hb).symm,fun _=>rfl⟩
  | false =>
   refine⟨fun h=>.inr (ih.1 h),?_⟩;rintro(rfl|h)
   ·rw[Rj]at hb;cases hb
   ·exact ih.2 h
theorem Ap {l:List Nat}{n:Nat}(h:dW l n=false):n ∉ l:=fun hm=>by rw[jk.2 hm]at h;cases h
theorem Kc {f:Nat->Bool}{l:List Nat}(h:vg f l=true):∀ n,n∈l->f n=true:=by
 induction l with
 | nil=>intro n hn;cases hn
 | cons x l ih =>
  have h':Bool.rec (motive:=fun _=>Bool) false (vg f l) (f x)=true:=h;cases hx:f x with
  | false=>rw[hx]at h';cases h'
  | true =>
   rw[hx]at h';intro n hn;rcases List.mem_cons.1 hn with rfl|hn
   ·exact hx
   ·exact ih h' n hn
def gF (lo:Nat)(kp acc:List Nat):Nat->Prop:=fun j=>(j<lo/\j∈kp)\/(¬ j<lo/\j∈acc)
def nS (h:EH)(lo:Nat)(kp acc:List Nat)(id:Nat):Prop:=¬ id<lo/\∃ g e c,aP h.hp id=some (.arr g e c)/\∀ i (h:i<c.length),Ev.Cln (gF lo kp acc) c[i]
def fE (h:EH)(lo:Nat)(kp acc acc':List Nat):Prop:=(∀ id,id∈acc->id∈acc')/\∀ id,id∈acc'->id∈acc\/nS h lo kp acc' id
theorem gF.mono {lo:Nat}{kp acc acc':List Nat}(hs:∀ id,id∈acc->id∈acc')(id:Nat)(h:gF lo kp acc id):gF lo kp acc' id:=by
 rcases h with h|h
 ·exact .inl h
 ·exact .inr ⟨h.1,hs _ h.2⟩
theorem nS.mono {h:EH}{lo:Nat}{kp acc acc':List Nat}(hs:∀ id,id∈acc->id∈acc'){id:Nat}(hg:nS h lo kp acc id):nS h lo kp acc' id:=by
 obtain⟨h1,g,e,c,h2,h3⟩:=hg;exact⟨h1,g,e,c,h2,fun i hi=>(h3 i hi).mono (gF.mono hs)⟩
theorem fE.refl (h:EH)(lo:Nat)(kp acc:List Nat):fE h lo kp acc acc:=⟨fun _ h=>h,fun _ h=>.inl h⟩
theorem fE.trans {h:EH}{lo:Nat}{kp a b c:List Nat}(h1:fE h lo kp a b)(h2:fE h lo kp b c):fE h lo kp a c:=by
 refine⟨fun id hid=>h2.1 id (h1.1 id hid),fun id hid=>?_⟩;rcases h2.2 id hid with h3|h3
 ·rcases h1.2 id h3 with h4|h4
  ·exact .inl h4
  ·exact .inr (h4.mono h2.1)
 ·exact .inr h3
theorem pU {h:EH}{lo:Nat}{kp:List Nat}{f:KF}(hf:∀ v acc acc',f v acc=some acc'->fE h lo kp acc acc'/\Ev.Cln (gF lo kp acc') v):
  ∀ {l:List AVal} {acc acc':List Nat},iF f l acc=some acc'->fE h lo kp acc acc'/\∀ i (h:i<l.length),Ev.Cln (gF lo kp acc') l[i]:=by
 intro l
 induction l with
 | nil =>
  intro acc acc' hk;have:some acc=some acc':=hk;cases this;exact⟨.refl _ _ _ _,fun i h=>absurd h (PL _)⟩
 | cons x l ih =>
  intro acc acc' hk;have h':(match f x acc with|some acc=>iF f l acc|none=>none)=some acc':=hk;split at h'
  ·rename_i a1 h1;obtain⟨h2,h3⟩:=hf _ _ _ h1;obtain⟨h4,h5⟩:=ih h';refine⟨h2.trans h4,fun i hi=>?_⟩;cases i with
   | zero=>exact h3.mono (gF.mono h4.1)
   | succ i=>exact h5 i (by simpa using hi)
  ·cases h'
theorem Aq {h:EH}{lo:Nat}{kp:List Nat}{f:KF}(hf:∀ v acc acc',f v acc=some acc'->fE h lo kp acc acc'/\Ev.Cln (gF lo kp acc') v)
  {id:Nat} {acc acc':List Nat} (hk:nC h lo kp f id acc=some acc'):fE h lo kp acc acc'/\gF lo kp acc' id:=by
 unfold nC at hk;split at hk
 ·rename_i hlt;rw[Su]at hlt;split at hk
  ·rename_i hm;cases hk;exact⟨.refl _ _ _ _,.inl ⟨hlt,jk.1 hm⟩⟩
  ·cases hk
 ·rename_i hlt;have hlt':¬ id<lo:=fun h=>by rw[<- Su]at h;rw[h]at hlt;cases hlt
  split at hk
  ·rename_i hm;cases hk;exact⟨.refl _ _ _ _,.inr ⟨hlt',jk.1 hm⟩⟩
  ·split at hk
   ·rename_i g e cells hg;obtain⟨⟨h1,h2⟩,h3⟩:=pU hf hk;have hin:id∈acc':=h1 id (Qz ..);refine⟨⟨fun j hj=>h1 j (Qh _ hj),fun j hj=>?_⟩,.inr ⟨hlt',hin⟩⟩;rcases h2 j hj with h4|h4
    ·rcases List.mem_cons.1 h4 with rfl|h4
     ·exact .inr ⟨hlt',g,e,cells,hg,h3⟩
     ·exact .inl h4
    ·exact .inr h4
   ·cases hk
theorem Ar {h:EH}{lo:Nat}{kp:List Nat}:∀ (fuel:Nat) (v:AVal) (acc acc':List Nat),jg h lo kp fuel v acc=some acc'->fE h lo kp acc acc'/\Ev.Cln (gF lo kp acc') v:=by
 intro fuel
 induction fuel with
 | zero=>intro v acc acc' h;cases h
 | succ n ih =>
  intro v acc acc' hk;cases v with
  | lit v =>
   have:some acc=some acc':=hk;cases this;exact⟨.refl _ _ _ _,.lit _⟩
  | vec m c =>
   have hk':(match AVal.vec m c with|.vec 0 []=>some acc|_=>none)=some acc':=by
    cases m<;>cases c<;>exact hk
   split at hk'
   ·rename_i he;cases he;cases hk';exact⟨.refl _ _ _ _,.nil⟩
   ·cases hk'
  | agg c =>
   obtain⟨h1,h2⟩:=pU ih (show iF (jg h lo kp n) c acc=some acc' from hk);exact⟨h1,.agg h2⟩
  | tup c =>
   obtain⟨h1,h2⟩:=pU ih (show iF (jg h lo kp n) c acc=some acc' from hk);exact⟨h1,.tup h2⟩
  | clo f a b =>
   have hk':(match iF (jg h lo kp n) a acc with|some acc=>iF (jg h lo kp n) b acc|none=>none)=some acc':=hk;split at hk'
   ·rename_i a1 h1;obtain⟨h2,h3⟩:=pU ih h1;obtain⟨h4,h5⟩:=pU ih hk';exact⟨h2.trans h4,.clo (fun i hi=>(h3 i hi).mono (gF.mono h4.1)) h5⟩
   ·cases hk'
  | own id g o l z =>
   obtain⟨h1,h2⟩:=Aq ih (show nC h lo kp (jg h lo kp n) id acc=some acc' from hk);exact⟨h1,.own h2⟩
  | ptr id g o =>
   obtain⟨h1,h2⟩:=Aq ih (show nC h lo kp (jg h lo kp n) id acc=some acc' from hk);exact⟨h1,.ptr h2⟩
  | vptr=>cases hk
  | yld=>cases hk
theorem kF {h:EH}{f:CF}(hf:∀ v acc k r,f v acc k=some r->∃ acc',k acc'=some r/\fE h 0 [] acc acc'):
  ∀ {l:List AVal} {acc:List Nat} {k:List Nat->R} {r:RR},jh f l acc k=some r->∃ acc',k acc'=some r/\fE h 0 [] acc acc':=by
 intro l
 induction l with
 | nil=>intro acc k r hr;exact⟨acc,hr,.refl _ _ _ _⟩
 | cons x l ih =>
  intro acc k r hr;have h':(f x acc fun acc=>jh f l acc k)=some r:=hr;obtain⟨a1,h1,h2⟩:=hf _ _ _ _ h';obtain⟨a2,h3,h4⟩:=ih h1;exact⟨a2,h3,h2.trans h4⟩
theorem Kd {h:EH}:∀ (fuel:Nat) (v:AVal) (acc:List Nat) (k:List Nat->R) (r:RR),rJ h fuel v acc k=some r->∃ acc',k acc'=some r/\fE h 0 [] acc acc':=by
 intro fuel
 induction fuel with
 | zero=>intro v acc k r hr;exact⟨acc,hr,.refl _ _ _ _⟩
 | succ n ih =>
  intro v acc k r hr;have h':(match jg h 0 [] 40 v acc with|some acc=>k acc|none=>vh h (rJ h n) v acc k)=some r:=hr;split at h'
  ·rename_i a1 h1;exact⟨a1,h',(Ar 40 v acc a1 h1).1⟩
  ·have blk:∀ b,rI (rJ h n) acc k b=some r->∃ acc',k acc'=some r/\fE h 0 [] acc acc':=by
    intro b hb;unfold rI at hb;split at hb
    ·exact kF ih hb
    ·exact⟨acc,hb,.refl _ _ _ _⟩
   unfold vh at h';split at h'
   ·exact kF ih h'
   ·exact kF ih h'
   ·exact kF ih h'
   ·exact kF ih h'
   ·obtain⟨a1,h1,h2⟩:=kF ih h';obtain⟨a2,h3,h4⟩:=kF ih h1;exact⟨a2,h3,h2.trans h4⟩
   ·exact blk _ h'
   ·exact blk _ h'
   ·exact⟨acc,h',.refl _ _ _ _⟩
theorem Ke {h:EH}{kp:List Nat}(hkp:∀ id,id∈kp->id<h.nx):∀ (fuel:Nat) {v v':AVal} {rs:List Nat},iG h kp fuel v=some (v',rs)->∀ H2:AHeap,(∀ r,r∈rs->H2.get r=(ao h).get r)->Fz (fun id=>¬ id∈kp) H2 h.nx v v':=by
 intro fuel
 induction fuel with
 | zero=>intro v v' rs h;cases h
 | succ f ih =>
  intro v v' rs hv H2 ha;have list:∀ {l l':List AVal} {rs':List Nat},bK (iG h kp f) l=some (l',rs')->(∀ r,r∈rs'->H2.get r=(ao h).get r) ->
    l'.length=l.length/\∀ i (_:i<l.length) (_:i<l'.length),Fz (fun id=>¬ id∈kp) H2 h.nx l[i] l'[i]:=fun hm ha'=>by
   obtain⟨h1,h2⟩:=lR hm;exact⟨h1,fun i hi hi'=>let ⟨ri,h3,h4⟩:=h2 i hi hi';ih h3 H2 fun r hr=>ha' r (h4 r hr)⟩
  cases v with
  | lit v =>
   have hv':some (AVal.lit v,[])=some (v',rs):=hv;simp only[Option.some.injEq,Prod.mk.injEq]at hv';obtain⟨rfl,rfl⟩:=hv';exact .lit _
  | vec n c =>
   have hv':(bK (iG h kp f) c).map (fun p=>(AVal.vec n p.1,p.2))=some (v',rs):=hv;simp only[an,Prod.mk.injEq]at hv';obtain⟨⟨c',rs'⟩,h1,rfl,rfl⟩:=hv';obtain⟨h2,h3⟩:=list h1 ha;exact .vec h2 h3
  | vptr c o =>
   have hv':(bK (iG h kp f) c).map (fun p=>(AVal.vptr p.1 o,p.2))=some (v',rs):=hv;simp only[an,Prod.mk.injEq]at hv';obtain⟨⟨c',rs'⟩,h1,rfl,rfl⟩:=hv';obtain⟨h2,h3⟩:=list h1 ha;exact .vptr h2 h3
  | agg c =>
   have hv':(bK (iG h kp f) c).map (fun p=>(AVal.agg p.1,p.2))=some (v',rs):=hv;simp only[an,Prod.mk.injEq]at hv';obtain⟨⟨c',rs'⟩,h1,rfl,rfl⟩:=hv';obtain⟨h2,h3⟩:=list h1 ha;exact .agg h2 h3
  | tup c =>
   have hv':(bK (iG h kp f) c).map (fun p=>(AVal.tup p.1,p.2))=some (v',rs):=hv;simp only[an,Prod.mk.injEq]at hv';obtain⟨⟨c',rs'⟩,h1,rfl,rfl⟩:=hv';obtain⟨h2,h3⟩:=list h1 ha;exact .tup h2 h3
  | clo g a b =>
   have hv':(match bK (iG h kp f) a,bK (iG h kp f) b with|some p,some q=>some (AVal.clo g p.1 q.1,p.2++q.2)|_,_=>none)=some (v',rs):=hv;split at hv'
   ·rename_i p q h1 h2;simp only[Option.some.injEq,Prod.mk.injEq]at hv';obtain⟨rfl,rfl⟩:=hv';obtain⟨h3,h4⟩:=list h1 fun r hr=>ha r (QZ _ hr);obtain⟨h5,h6⟩:=list h2 fun r hr=>ha r (QE _ hr);exact .clo h3 h5 h4 h6
   ·cases hv'
  | own id g o l z =>
   have hv':(match dW kp id with
    | true=>some (AVal.own id g o l z,[])
    | false=>match aP h.hp id with|some (.arr g' _ cells)=>if g'=g/\o+l*z<=cells.length then (bK (iG h kp f) ((cells.drop o).take (l*z))).map fun p=>(AVal.vec l p.1,id :: p.2) else none|_=>none)=some (v',rs):=hv
   split at hv'
   ·rename_i hm;simp only[Option.some.injEq,Prod.mk.injEq]at hv';obtain⟨rfl,rfl⟩:=hv';exact .own (hkp _ (jk.1 hm)) fun h=>h (jk.1 hm)
   ·rename_i hm;split at hv'
    ·rename_i g' e cells hg;split at hv'
     ·rename_i hc;obtain⟨rfl,hle⟩:=hc;simp only[an,Prod.mk.injEq]at hv';obtain⟨⟨c',rs'⟩,h1,rfl,rfl⟩:=hv';obtain⟨h2,h3⟩:=list h1 fun r hr=>ha r (Qh _ hr);have hlen:((cells.drop o).take (l*z)).length=l*z:=(by simp;omega);refine .frz (Ap hm) ((ha id (Qz ..)).trans (kC hg)) (h2.trans hlen) fun i hi h2i hi'=>?_;have:=h3 i (by omega) hi';simpa using this
     ·cases hv'
    ·cases hv'
  | ptr id g o =>
   have hv':(match dW kp id with
    | true=>some (AVal.ptr id g o,[])
    | false=>match aP h.hp id with|some (.arr g' _ (x :: cells))=>if g'=g then (bK (iG h kp f) (x :: cells)).map fun p=>(AVal.vptr p.1 o,id :: p.2) else none|_=>none)=some (v',rs):=hv
   split at hv'
   ·rename_i hm;simp only[Option.some.injEq,Prod.mk.injEq]at hv';obtain⟨rfl,rfl⟩:=hv';exact .ptr (hkp _ (jk.1 hm)) fun h=>h (jk.1 hm)
   ·rename_i hm;split at hv'
    ·rename_i g' e x cells hg;split at hv'
     ·rename_i hc;subst hc;simp only[an,Prod.mk.injEq]at hv';obtain⟨⟨c',rs'⟩,h1,rfl,rfl⟩:=hv';obtain⟨h2,h3⟩:=list h1 fun r hr=>ha r (Qh _ hr);exact .pfrz (Ap hm) ((ha id (Qz ..)).trans (kC hg)) (by simp) h2 h3
     ·cases hv'
    ·cases hv'
  | yld n=>cases hv
theorem Kf {h:EH}{k:BT EBlk->R}{r:RR}:∀ {l:List Nat} {t:BT EBlk},vj h l k t=some r->∃ t',k t'=some r/\∀ m,aP t' m=if m∈l then aP h.hp m else aP t m:=by
 intro l
 induction l with
 | nil=>intro t hr;exact⟨t,hr,fun m=>by rw[Pt (by simp)]⟩
 | cons x l ih =>
  intro t hr;have h':(match aP h.hp x with|some b=>fh t x b (vj h l k)|none=>none)=some r:=hr;split at h'
  ·rename_i b hb;obtain⟨t1,h1,h2⟩:=kA _ _ _ _ _ h';obtain⟨t',h3,h4⟩:=ih h1;refine⟨t',h3,fun m=>?_⟩;rw[h4,h2];by_cases hm:m∈l
   ·rw[Pv hm,Pv (Qh _ hm)]
   ·rw[Pt hm];by_cases hx:m=x
    ·subst hx;rw[Pv rfl,Pv (Qz ..),hb]
    ·rw[Pt hx,Pt (by simp [hx,hm])]
  ·cases h'
theorem Kg {a b:Value}(h:vk a b=true):a=b:=by
 unfold vk at h;split at h
 ·simp only[PS,decide_eq_true_eq,sN]at h;rw[h.1,h.2]
 ·simp only[beq_iff_eq]at h;rw[h]
 ·rfl
 ·rfl
 ·cases h
theorem Kh:∀ (fuel:Nat) (a b:AVal),vn fuel a b=true->a=b:=by
 intro fuel
 induction fuel with
 | zero=>intro a b h;cases h
 | succ f ih =>
  intro a b h;have h':vm (vn f) a b=true:=h;unfold vm at h';split at h'
  ·rw[Kg h']
  ·simp only[PS]at h';rw[PH h'.1,gE ih h'.2]
  ·rw[gE ih h']
  ·rw[gE ih h']
  ·simp only[PS]at h';rw[PH h'.1,gE ih h'.2.1,gE ih h'.2.2]
  ·simp only[PS]at h';rw[PH h'.1,PH h'.2.1,PH h'.2.2.1,PH h'.2.2.2.1,PH h'.2.2.2.2]
  ·simp only[PS]at h';rw[PH h'.1,PH h'.2.1,PH h'.2.2]
  ·cases h'
theorem Ki {a b:Option EBlk}(h:vp a b=true):a=b:=by
 unfold vp at h;split at h
 ·simp only[PS]at h;rw[PH h.1,PH h.2.1,gE (Kh 40) h.2.2]
 ·cases h
theorem Kj {h':EH}{lv:List Nat}{lo:Nat}:∀ {n:Nat} {t:BT EBlk} {k:BT EBlk->R} {r:RR},rK h' lv lo n t k=some r ->
  ∃ t',k t'=some r/\∀ m,aP t' m=if lo<=m/\m<lo+n then (if dW lv m=true then aP h'.hp m else some (.arr 0 0 [])) else aP t m:=by
 intro n
 induction n with
 | zero=>intro t k r hr;exact⟨t,hr,fun m=>by rw[Pt (by omega)]⟩
 | succ n ih =>
  intro t k r hr;have h1:cV (Nat.add lo n) (vq h' lv t fun t=>rK h' lv lo n t k)=some r:=hr;rw[fW]at h1;have key:∀ b,(if dW lv (lo+n)=true then aP h'.hp (lo+n) else some (.arr 0 0 []))=some b->fh t (lo+n) b (fun t=>rK h' lv lo n t k)=some r ->
    ∃ t',k t'=some r/\∀ m,aP t' m=if lo<=m/\m<lo+(n+1) then (if dW lv m=true then aP h'.hp m else some (.arr 0 0 [])) else aP t m:=by
   intro b hb hs;obtain⟨t1,h2,h3⟩:=kA _ _ _ _ _ hs;obtain⟨t',h4,h5⟩:=ih h2;refine⟨t',h4,fun m=>?_⟩;rw[h5,h3];by_cases hm:m=lo+n
   ·subst hm;rw[Pt (by omega),Pv rfl,Pv (by omega),hb]
   ·rw[Pt hm];by_cases hm2:lo<=m/\m<lo+n
    ·rw[Pv hm2,Pv (⟨hm2.1,by omega⟩:lo<=m/\m<lo+(n+1))]
    ·rw[Pt hm2,Pt (fun hc:lo<=m/\m<lo+(n+1)=>hm2 ⟨hc.1,by omega⟩)]
  unfold vq at h1;split at h1
  ·rename_i hm;split at h1
   ·rename_i b hb;exact key b ((Pv (show dW lv (lo+n)=true from hm)).trans hb) h1
   ·cases h1
  ·rename_i hm;exact key _ (Pt (fun hc=>by rw[show dW lv (lo+n)=false from hm]at hc;cases hc)) h1
end Go.Hx
namespace Go.Hx
def JP (z:GD):Option AVal->AVal
 | some u=>.tup [u,.lit (.int .i64 0)]
 | none=>.tup [z.z,.lit (.int .i64 6)]
def Ag (P:Program)(G:Nat->Option (List AVal))(f:FuncId)(z:GD):Prop:=∀ g cap cap' (H:AHeap) o,cap'.length=cap.length ->
 (∀ H2:AHeap,(∀ id,id<H.next->H2.get id=H.get id)->∀ i (h:i<cap.length) (h':i<cap'.length),Fz (fun _=>True) H2 0 cap[i] cap'[i]) ->
 (∀ u,o=some u->z.ok u=true)->ab P G g cap' cF (o9 o)->ab P G f [.clo g [] cap] H fun r H'=>r=.ret (JP z o)/\H'=H
def nO (E:EP):Prop:=∀ f e,E.ext f=some e->∀ args r,e args=some r->∀ (H:AHeap) (K:ARes->AHeap->Prop),K (.ret r) H->az E.P E.G (.clo f [] []) args H K
theorem nO.none {E:EP}(h:E.ext=fun _=>.none):nO E:=fun f e he=>by rw[h]at he;cases he
structure EOk (E:EP):Prop where
 gok:eD E.G
 mixed:E.P.follows .mixedOrders=true
 known:∀ f l,E.known f=some l->∀ a v,(a,v)∈l->ab E.P E.G f a cF fun r H'=>∃ u,r=.ret u/\Fresh H' u v
 gd:∀ f z,E.gd f=some z->Ag E.P E.G f z
 ext:nO E
def vM:RR->ARes->EH->Prop
 | .ret v h,x,h'=>x=.ret v/\h'=h
 | .panic h,x,h'=>x=.panic/\h'=h
 | _,_,_=>False
def fD (E:EP)(ih:iH):Prop:=∀ rd n c env h r,ih rd n c env h=some r->VH h->fits n c=true ->
 ∃ x env' h',r=.ev x env' h'/\VH h'/\∀ Q:AX->St->Prop,Q x ⟨aD env',ao h'⟩->W E.P E.G n rd c Q ⟨aD env,ao h⟩
theorem W.here {P:Program}{G:Nat->Option (List AVal)}{n:Nat}{rd:Option Nat}{c:Code}{Q:AX->St->Prop}{s s':St}{x:AX}(h:∀ Q:AX->St->Prop,Q x s'->W P G n rd c Q s)(hq:Q x s'):W P G n rd c Q s :=
 (h (fun y t=>y=x/\t=s') ⟨rfl,rfl⟩).mono fun y t ht=>by rw[ht.1,ht.2];exact hq
def vO (E:EP)(f:FuncId)(args:List AVal)(h:EH)(r:RR):Prop :=
 ∃ x h',vM r x h'/\VH h'/\∀ K:ARes->AHeap->Prop,K x (ao h')->ab E.P E.G f args (ao h) K
def vQ (E:EP)(fv:AVal)(args:List AVal)(h:EH)(r:RR):Prop :=
 ∃ x h',vM r x h'/\VH h'/\∀ K:ARes->AHeap->Prop,K x (ao h')->az E.P E.G fv args (ao h) K
section
variable {E:EP} {ih:iH}
theorem fk {b:Bool}{x:R}{r:RR}(h:Bool.rec (motive:=fun _=>R) none x b=some r):b=true/\x=some r:=by
 cases b with
 | false=>cases h
 | true=>exact⟨rfl,h⟩
theorem vR:VH ⟨.nil,0⟩:=fun _ _ h=>by cases h
theorem kE (hI:fD E ih){f:FuncId}{args:List AVal}{h:EH}{r:RR}(hv:VH h)(hr:kq E ih f args h=some r):vO E f args h r:=by
 unfold kq at hr;cases hf:E.P.funcs[f]? with
 | none=>rw[hf]at hr;cases hr
 | some fn =>
  rw[hf]at hr;have hr1:Option.rec (motive:=fun _=>R) none (fun c=>rP E ih fn c args h) fn.body=some r:=hr;cases hb:fn.body with
  | none=>rw[hb]at hr1;cases hr1
  | some c =>
   rw[hb]at hr1;have hr2:rP E ih fn c args h=some r:=hr1;unfold rP at hr2;obtain⟨hok,hr3⟩:=fk hr2;obtain⟨hle,hr4⟩:=fk hr3;have hle:=QD hle;unfold zp at hok;simp only[PS,R8]at hok;obtain⟨env,hr5,henv⟩:=JL hr4;have body:∀ K:ARes->AHeap->Prop,W E.P E.G fn.ntmps none c (pj E.P E.G fn.results.toList (ao h) K) ⟨fB args,ao h⟩->ab E.P E.G f args (ao h) K:=fun K hW=>ab.fS hf hb rfl rfl hok.2 hle hW;unfold zm at hr5;have ret:∀ env' h' vs,dN E.P (ao h') (aD env') fn.results.toList=some vs->rN h.nx (fR vs) h'=some r->VH h'->(∀ Q:AX->St->Prop,(Q .normal ⟨aD env',ao h'⟩/\Q .ret ⟨aD env',ao h'⟩)->W E.P E.G fn.ntmps none c Q ⟨aD env,ao h⟩)->vO E f args h r:=by
    intro env' h' vs hvs he hv' hW;unfold rN at he;obtain⟨hnx,he2⟩:=fk he;rw[nK]at he2;have he3:r=.ret (fR vs) h':=(Option.some.inj he2).symm;subst he3;refine⟨.ret (fR vs),h',⟨rfl,rfl⟩,hv',fun K hK=>body K ?_⟩;rw[<- henv];have hfin:aT (dN E.P (ao h') (aD env') fn.results.toList) fun vs=>av E.P E.G (ao h) K (fR vs) (ao h'):=⟨vs,hvs,av.mk (QD hnx) hK⟩
    exact hW _ ⟨hfin,hfin⟩
   split at hr5
   ·rename_i env' h' hi;obtain⟨x,e2,h2,h3,h4,h5⟩:=hI _ _ _ _ _ _ hi hv hok.1;cases h3;split at hr5
    ·rename_i vs hvs;exact ret _ _ _ hvs hr5 h4 fun Q hq=>h5 Q hq.1
    ·cases hr5
   ·rename_i env' h' hi;obtain⟨x,e2,h2,h3,h4,h5⟩:=hI _ _ _ _ _ _ hi hv hok.1;cases h3;split at hr5
    ·rename_i vs hvs;exact ret _ _ _ hvs hr5 h4 fun Q hq=>h5 Q hq.2
    ·cases hr5
   ·rename_i env' h' hi;obtain⟨x,e2,h2,h3,h4,h5⟩:=hI _ _ _ _ _ _ hi hv hok.1;cases h3;obtain⟨hnx,he2⟩:=fk hr5;have he3:r=.panic h':=(Option.some.inj he2).symm;subst he3;refine⟨.panic,h',⟨rfl,rfl⟩,h4,fun K hK=>body K ?_⟩;rw[<- henv];exact h5 _ ⟨ao h',ke.refl _ _,QD hnx,hK⟩
   ·cases hr5
theorem JQ (hI:fD E ih){f:FuncId}{args:List AVal}{v:AVal}(hr:vr E ih f args=some v):ab E.P E.G f args cF fun r H'=>∃ u,r=.ret u/\Fresh H' u v:=by
 unfold vr at hr;split at hr
 ·rename_i u h' hc;obtain⟨x,h2,hcr,hv2,hK⟩:=kE hI vR hc;obtain⟨rfl,rfl⟩:=hcr;exact hK _ ⟨u,rfl,Ad _ hr⟩
 ·cases hr
theorem Ah (hI:fD E ih){f:FuncId}{args:List AVal}{o:Option AVal}(hr:vt E ih f args=some o):ab E.P E.G f args cF (o9 o):=by
 unfold vt at hr;split at hr
 ·rename_i u h' hc;obtain⟨x,h2,hcr,_,hK⟩:=kE hI vR hc;obtain⟨rfl,rfl⟩:=hcr;split at hr
  ·rename_i w hw;cases hr;exact hK (o9 (some w)) ⟨u,rfl,Ad _ hw⟩
  ·cases hr
 ·rename_i h' hc;obtain⟨x,h2,hcr,_,hK⟩:=kE hI vR hc;obtain⟨rfl,rfl⟩:=hcr;cases hr;exact hK (o9 none) rfl
 ·cases hr
theorem Ai (hE:EOk E){f:FuncId}{args args':List AVal}{rs:List Nat}{v:AVal}{h:EH}(hm:bK (fV h 40) args=some (args',rs))(hc:ab E.P E.G f args' cF fun r H'=>∃ u,r=.ret u/\Fresh H' u v)
  (H2:AHeap) (ha:∀ r,r∈rs->H2.get r=(ao h).get r):ab E.P E.G f args H2 fun r H'=>r=.ret v/\H'=H2:=by
 obtain⟨h1,h2⟩:=lR hm;exact ab.frame hE.gok h1 (fun i hi hi'=>let ⟨ri,h3,h4⟩:=h2 i hi hi';Ac 40 h3 H2 fun r hr=>ha r (h4 r hr)) hc
theorem JR (hE:EOk E)(hI:fD E ih){f:FuncId}{first cap args:List AVal}{h:EH}{r:RR}(hv:VH h)(hr:vv E ih f first cap args h=some r):vO E f (first++args++cap) h r:=by
 unfold vv at hr;split at hr
 ·rw[gD]at hr;split at hr
  ·exact kE hI hv hr
  ·rename_i l hl;unfold zy at hr;split at hr
   ·cases hr
   ·rename_i p hm;split at hr
    ·rename_i v hk;have:r=.ret v h:=(Option.some.inj hr).symm;subst this;refine⟨.ret v,h,⟨rfl,rfl⟩,hv,fun K hK=>?_⟩;exact(Ai hE hm (hE.known f l hl _ _ (Af hk)) (ao h) fun _ _=>rfl).mono fun x H' ⟨h1,h2⟩=>by rw[h1,h2];exact hK
    ·exact kE hI hv hr
 ·rename_i z hz;rw[gD]at hr;unfold zt at hr;split at hr
  ·rename_i g cap2 heq;rw[heq];split at hr
   ·rename_i p hm;obtain⟨hlt,hr⟩:=fk hr;have hview:∀ H2:AHeap,(∀ id,id<(ao h).next->H2.get id=(ao h).get id)->∀ i (h:i<cap2.length) (h':i<p.1.length),Fz (fun _=>True) H2 0 cap2[i] p.1[i]:=fun H2 ha i hi hi'=>by
     obtain⟨_,h2⟩:=lR hm;obtain⟨ri,h3,h4⟩:=h2 i hi hi';refine Ac 40 h3 H2 fun r hr=>ha r ?_;have:=PX.1 hlt r (h4 r hr);rw[Su]at this;exact this
    unfold zq at hr;split at hr
    ·rename_i u hgo;obtain⟨hok,hr⟩:=fk hr;have:r=.ret (.tup [u,.lit (.int .i64 0)]) h:=(Option.some.inj hr).symm;subst this;refine⟨_,h,⟨rfl,rfl⟩,hv,fun K hK=>?_⟩;exact(hE.gd f z hz g cap2 p.1 (ao h) (some u) (lR hm).1 hview (fun _ h=>by cases h;exact hok) (Ah hI hgo)).mono fun x H' ⟨h1,h2⟩=>by rw[h1,h2];exact hK
    ·rename_i hgo;have:r=.ret (.tup [z.z,.lit (.int .i64 6)]) h:=(Option.some.inj hr).symm;subst this;refine⟨_,h,⟨rfl,rfl⟩,hv,fun K hK=>?_⟩;exact(hE.gd f z hz g cap2 p.1 (ao h) none (lR hm).1 hview (fun _ h=>by cases h) (Ah hI hgo)).mono fun x H' ⟨h1,h2⟩=>by rw[h1,h2];exact hK
    ·cases hr
   ·cases hr
  ·cases hr
theorem pS {h:EH}{id:Nat}{st:LoopState}{pend:Option Code}{n:Nat}{env:BT AVal}{ps:Array Tmp}{asg body:Code}(hg:aP h.hp id=some (.loop st pend n env ps asg body)):
  (ao h).get id=some (.loop st pend n (aD env) ps asg body):=by
 show Option.map EBlk.je (aP h.hp id)=_;rw[hg];rfl
theorem VH.set {h:EH}(hv:VH h){hp:BT EBlk}{id:Nat}{b:EBlk}(hs:∀ m,aP hp m=if m=id then some b else aP h.hp m)(hid:id<h.nx):VH ⟨hp,h.nx⟩:=by
 intro j x hj;rw[hs]at hj;show j<h.nx;split at hj
 ·omega
 ·exact hv _ _ hj
theorem vS {h:EH}{hp:BT EBlk}{id:Nat}{b:EBlk}(hs:∀ m,aP hp m=if m=id then some b else aP h.hp m):ao ⟨hp,h.nx⟩=(ao h).upd id b.je:=by
 rw[sL (nx:=h.nx) hs];rfl
theorem JS (hI:fD E ih){id:Nat}{args:List AVal}{h:EH}{r:RR}(hv:VH h)(hr:vu ih id args h=some r):vQ E (.yld id) args h r:=by
 unfold vu at hr;split at hr
 ·rename_i pend n env ps asg body hg;obtain ⟨hok,hr1⟩:=fk hr;unfold zx at hok;simp only [PS] at hok;obtain ⟨hokB,hf1,hf2,hps⟩:=hok;obtain ⟨e0,hr2,hlen,he0⟩:=JM hr1;have hget:=pS hg;have hid : id<h.nx:=hv _ _ hg
    -- the rule of a round
  have rule:∀ K:ARes->AHeap->Prop,W E.P E.G n (some id) asg (zf E.P E.G n id body K) ⟨aD e0,ao h⟩->az E.P E.G (.yld id) args (ao h) K:=fun K hW=>by
   refine az.yld hget (by simpa using hlen) hps ?_;rw[JO hokB,<- he0];exact hW
  unfold zu at hr2;split at hr2
  ·rename_i e1 h1 hi;obtain⟨x,e2,h2,h3,h4,h5⟩:=hI _ _ _ _ _ _ hi hv hf1;cases h3;split at hr2
   ·rename_i pend2 n2 env2 ps2 asg2 body2 hg1;obtain ⟨hp1,hr3,hs1⟩:=kA _ _ _ _ _ hr2;have hget1:=pS hg1;have hv1 : VH ⟨hp1,h1.nx⟩:=h4.set hs1 (h4 _ _ hg1);have hup1:=vS (h:=h1) hs1;have mk : ∀ (x2 : AX) (e3 : BT AVal) (h3 : EH) (st : LoopState) (pd : Option Code) (b : Bool),ih (some id) n body e1 ⟨hp1,h1.nx⟩=some (.ev x2 e3 h3)→pJ id st pd b h3=some r →
      (∀ K:ARes->AHeap->Prop,uH id K x2 ⟨aD e3,ao h3⟩=aT (kj st pd ((ao h3).get id)) fun blk=>K (.ret (.lit (.bool b))) ((ao h3).upd id blk))->vQ E (.yld id) args h r:=by
     intro x2 e3 h3 st pd b hi2 hre hq;obtain⟨x',e',h',h6,h7,h8⟩:=hI _ _ _ _ _ _ hi2 hv1 hf2;cases h6;unfold pJ at hre;split at hre
     ·rename_i n3 env3 ps3 asg3 body3 hg3;obtain⟨hp3,hr4,hs3⟩:=kA _ _ _ _ _ hre;have hr5:r=.ret (.lit (.bool b)) ⟨hp3,h3.nx⟩:=(Option.some.inj hr4).symm;subst hr5;have hup3:=vS (h:=h3) hs3;refine⟨_,_,⟨rfl,rfl⟩,h7.set hs3 (h7 _ _ hg3),fun K hK=>rule K (h5 _ ?_)⟩;refine⟨_,by rw[hget1];rfl,?_⟩;have hbusy:(ao h1).upd id (.loop .busy pend2 n2 (aD env2) ps2 asg2 body2)=ao ⟨hp1,h1.nx⟩:=hup1.symm;show W E.P E.G n (some id) body (uH id K) ⟨aD e1,(ao h1).upd id (.loop .busy pend2 n2 (aD env2) ps2 asg2 body2)⟩;rw[hbusy];refine h8 _ ?_;rw[hq];refine⟨.loop st pd n3 (aD env3) ps3 asg3 body3,by rw[pS hg3];rfl,?_⟩;rw[hup3]at hK;exact hK
     ·cases hre
    unfold endRound at hr3;split at hr3
    ·rename_i e3 h3 hi2;exact mk _ _ _ _ _ _ hi2 hr3 fun _=>rfl
    ·rename_i e3 h3 hi2;exact mk _ _ _ _ _ _ hi2 hr3 fun _=>rfl
    ·rename_i i e3 h3 hi2;exact mk _ _ _ _ _ _ hi2 hr3 fun _=>rfl
    ·cases hr3
   ·cases hr2
  ·cases hr2
 ·cases hr
theorem JT (hE:EOk E)(hI:fD E ih){fv:AVal}{args:List AVal}{h:EH}{r:RR}(hv:VH h)(hr:rS E ih fv args h=some r):vQ E fv args h r:=by
 unfold rS at hr;split at hr
 ·rename_i f first cap
  split at hr
  ·obtain⟨x,h',h1,h2,h3⟩:=JR hE hI hv hr;exact⟨x,h',h1,h2,fun K hK=>az.clo (h3 K hK)⟩
  ·rename_i e he;unfold zz at hr;split at hr
   ·rename_i hfc;obtain⟨rfl,rfl⟩:=SN.1 hfc;rw[gD]at hr;split at hr
    ·rename_i v hv2;rw[nK]at hr;have:r=.ret v h:=(Option.some.inj hr).symm;subst this;exact⟨_,h,⟨rfl,rfl⟩,hv,fun K hK=>hE.ext f e he _ _ hv2 _ _ hK⟩
    ·cases hr
   ·cases hr
 ·exact JS hI hv hr
 ·cases hr
theorem sQ {h:EH}{rd:Option Nat}(hr:nD h rd=true):dL (ao h) rd:=by
 unfold nD at hr;split at hr
 ·trivial
 ·rename_i id;split at hr
  ·rename_i st pend n env ps asg body hg;exact⟨st,pend,n,aD env,ps,asg,body,pS hg⟩
  ·cases hr
abbrev Rest (r:RR)(KQ:(AX->St->Prop)->St->Prop)(env:BT AVal)(h:EH):Prop :=
 ∃ x e2 h2,r=.ev x e2 h2/\VH h2/\∀ Q:AX->St->Prop,Q x ⟨aD e2,ao h2⟩->KQ Q ⟨aD env,ao h⟩
theorem JU {P:Program}{H:AHeap}{op:BinOp}{t:TypeId}{x y:Operand}{a b v:AVal}(h:aX P op t x y a b=some v):gz H op a b=none:=by
 cases hn:gz H op a b with
 | none=>rfl
 | some c =>
  exfalso;unfold gz at hn;unfold aX at h;split at hn
  ·cases a<;>simp_all [AVal.bV]
  ·cases a<;>simp_all [AVal.bV]
  ·cases hn
theorem JV {P:Program}{G:Nat->Option (List AVal)}{rd:Option Nat}{Q:AX->St->Prop}{o:Oper}{K:St->Prop}{s:St}{v:AVal}{H':AHeap}(hop:af P G s.ρ s.H s.H.next o.op=some (v,H'))(hk:K ⟨aE s.ρ o.dst v,H'⟩):aI P G rd Q o K s:=by
 unfold aI;split
 ·rename_i h;rw[h]at hop;simp [af]at hop
 ·rename_i h;rw[h]at hop;simp [af]at hop
 ·rename_i op t x y u h;rw[h]at hop;have hb:(aX P op t x y (ah G s.ρ x) (ah G s.ρ y)).map (fun v=>(v,s.H))=some (v,H'):=hop;simp only[an,Prod.mk.injEq]at hb;obtain⟨v',hb1,_,_⟩:=hb;rw[JU hb1];exact⟨(v,H'),hop,hk⟩
 ·exact⟨(v,H'),hop,hk⟩
theorem JW (hE:EOk E)(hI:fD E ih){rd:Option Nat}{o:Oper}{k:BT AVal->EH->R}{env:BT AVal}{h:EH}{r:RR}{KQ:(AX->St->Prop)->St->Prop}(hv:VH h)
  (hk:∀ env' h',VH h'->k env' h'=some r->Rest r KQ env' h') (hr:sA o.op E ih rd o.dst k env h=some r):Rest r (fun Q=>aI E.P E.G rd Q o (KQ Q)) env h:=by
 rcases JI hv hr with ⟨v,env',h',hop,hv',he,hkr⟩|⟨op,t,x,y,u,env',hop,hn,hs,he,hkr⟩|⟨fv,args,ats,hop,hrv⟩|⟨x,hop,hrp⟩
 ·obtain⟨x,e2,h2,h3,h4,h5⟩:=hk _ _ hv' hkr;refine⟨x,e2,h2,h3,h4,fun Q hq=>JV (v:=v) (H':=ao h') hop ?_⟩;have:=h5 Q hq;rw[he]at this;exact this
 ·obtain⟨x',e2,h2,h3,h4,h5⟩:=hk _ _ hv hkr;refine⟨x',e2,h2,h3,h4,fun Q hq=>?_⟩;unfold aI;rw[hop];simp only;rw[hn];refine⟨hs,fun b hb=>?_⟩;have hb':=hb rfl;subst hb';have:=h5 Q hq;rw[he]at this;cases hnq:(op == BinOp.neq)<;>rw[hnq]at this<;>exact this
 ·unfold vy at hrv;rw [nL,cG] at hrv;unfold zA at hrv;have key : ∀ {x : ARes} {h' : EH} {r0 : RR},rS E ih (ah E.G (aD env) fv) (args.toList.map (ah E.G (aD env))) h=some r0→vM r0 x h'→VH h'∧∀ (Q : AX→St→Prop),(dL (ao h') rd∧match (x : ARes) with
    | .ret v=>KQ Q ⟨aE (aD env) o.dst v,ao h'⟩
    | .panic=>Q .panic ⟨aD env,ao h'⟩)->aI E.P E.G rd Q o (KQ Q) ⟨aD env,ao h⟩:=by
   intro x h' r0 happ hc;obtain⟨x2,h2,hc2,hv2,hK⟩:=JT hE hI hv happ;have hx:x2=x/\h2=h':=by
    cases r0 with
    | ret v h0=>exact⟨hc2.1.trans hc.1.symm,hc2.2.trans hc.2.symm⟩
    | panic h0=>exact⟨hc2.1.trans hc.1.symm,hc2.2.trans hc.2.symm⟩
    | ev=>exact hc.elim
   obtain⟨rfl,rfl⟩:=hx;refine⟨hv2,fun Q hq=>?_⟩;unfold aI;rw[hop];exact hK _ hq
  split at hrv
  ·rename_i v h' happ;obtain⟨hrd,hrv2⟩:=fk hrv;obtain⟨hv',hq⟩:=key happ (x:=.ret v) (h':=h') ⟨rfl,rfl⟩;obtain⟨env',h1,h2⟩:=jP hrv2;obtain⟨x,e2,h3,h4,h5,h6⟩:=hk _ _ hv' h1;refine⟨x,e2,h3,h4,h5,fun Q hQ=>hq Q ⟨sQ hrd,?_⟩⟩;have:=h6 Q hQ;rw[h2]at this;exact this
  ·rename_i h' happ;obtain⟨hrd,hrv2⟩:=fk hrv;obtain⟨hv',hq⟩:=key happ (x:=.panic) (h':=h') ⟨rfl,rfl⟩;exact⟨.panic,env,h',(Option.some.inj hrv2).symm,hv',fun Q hQ=>hq Q ⟨sQ hrd,hQ⟩⟩
  ·cases hrv
 ·unfold vw at hrp;split at hrp
  ·rename_i t v heq;refine⟨.panic,env,h,(Option.some.inj hrp).symm,hv,fun Q hq=>?_⟩;unfold aI;rw[hop];exact⟨⟨t,v,heq⟩,hq⟩
  ·cases hrp
theorem Aj {all:Array Oper}{ρ:Env}{o:Oper}{yes no:R}{r:RR}(hr:nG all ρ o.guard yes no=some r):(dM all ρ o=some true/\yes=some r)\/(dM all ρ o=some false/\no=some r):=by
 unfold nG at hr;unfold dM;cases hg:o.guard with
 | none=>rw[hg]at hr;exact .inl ⟨rfl,hr⟩
 | some jw =>
  obtain⟨j,want⟩:=jw;rw[hg]at hr;have hr2:vA all ρ yes no (j,want)=some r:=hr;unfold vA at hr2;simp only at hr2 ⊢;split at hr2
  ·rename_i d hd;rw[hd];simp only;split at hr2
   ·rename_i b hb;rw[hb];cases hbw:b == want with
    | true=>rw[hbw]at hr2;exact .inl ⟨by show some (b == want)=_;rw[hbw],hr2⟩
    | false=>rw[hbw]at hr2;exact .inr ⟨by show some (b == want)=_;rw[hbw],hr2⟩
   ·rename_i v hnb hb;rw[hb];exact .inr ⟨by cases v<;>first|rfl|exact absurd rfl (hnb _),hr2⟩
   ·cases hr2
  ·rename_i hd;rw[hd];exact .inr ⟨rfl,hr2⟩
theorem Ak (hE:EOk E)(hI:fD E ih){rd:Option Nat}{all:Array Oper}{r:RR}:∀ (l:List Oper) (env:BT AVal) (h:EH),VH h->nH E ih rd all l env h=some r->Rest r (fun Q=>cX E.P E.G rd Q all l) env h:=by
 intro l
 induction l with
 | nil=>exact fun env h hv hr=>⟨.normal,env,h,(Option.some.inj hr).symm,hv,fun Q hq=>hq⟩
 | cons o l ihl =>
  intro env h hv hr;have hr1:nG all (aD env) o.guard (sA o.op E ih rd o.dst (nH E ih rd all l) env h) (eG env o.dst (.lit undef) fun env=>nH E ih rd all l env h)=some r:=hr;rcases Aj hr1 with ⟨hw,hr2⟩|⟨hw,hr2⟩
  ·obtain⟨x,e2,h2,h3,h4,h5⟩:=JW hE hI (KQ:=fun Q=>cX E.P E.G rd Q all l) hv (fun env' h' hv' hk=>ihl env' h' hv' hk) hr2;exact⟨x,e2,h2,h3,h4,fun Q hq=>⟨true,hw,h5 Q hq⟩⟩
  ·obtain⟨env',h1,h2⟩:=jP hr2;obtain⟨x,e2,h2',h3,h4,h5⟩:=ihl env' h hv h1;refine⟨x,e2,h2',h3,h4,fun Q hq=>⟨false,hw,?_⟩⟩;have:=h5 Q hq;rw[h2]at this;exact this
theorem nP {I:Machine->Prop}{P:Program}{m t m1:Machine}(h:StepsIn I P m t)(hs:step P m=.next m1)(hne:m≠t):StepsIn I P m1 t:=by
 cases h with
 | refl=>exact absurd rfl hne
 | head hI h' h'' =>
  rw[hs]at h';cases h';exact h''
theorem sR {b b':Frame}{a a':Act}{k k':List Item}{cs cs':List Frame}{w w':World}(h:k≠k'):lone (b.atR a k) cs w≠lone (b'.atR a' k') cs' w':=by
 intro he;simp only[lone,Machine.mk.injEq,Array.mk.injEq,List.cons.injEq,Goroutine.mk.injEq,Frame.atR,Frame.mk.injEq]at he;exact h he.2.1.1.1.2.2.1
theorem Al {b b':Frame}{a a':Act}{k k':List Item}{cs cs':List Frame}{w w':World}{u:FrameMode}(h:u≠.run):lone (b.atR a k) cs w≠lone { b'.atR a' k' with mode:=u } cs' w':=by
 intro he;simp only[lone,Machine.mk.injEq,Array.mk.injEq,List.cons.injEq,Goroutine.mk.injEq,Frame.atR,Frame.mk.injEq]at he;exact h he.2.1.1.1.2.2.2.2.1.symm
theorem JX {id:Nat}:∀ {k k':List Item},exitTo id k=some k'->k'.length<=k.length:=by
 intro k
 induction k with
 | nil=>intro k' h;cases h
 | cons x k ih =>
  intro k' h;have hle:exitTo id k=some k'->k'.length<=(x :: k).length:=fun h=>Nat.le_succ_of_le (ih h);cases x with
  | inBlock id' =>
   simp only[exitTo]at h;split at h
   ·cases h;simp
   ·exact hle h
  | _=>exact hle h
theorem W.JY {P:Program}{G:Nat->Option (List AVal)}{n:Nat}{rd:Option Nat}{c:Code}{Q:AX->St->Prop}{s:St}(hQ:∀ l s,¬ Q (.goto l) s)(h:W P G n rd c (gv (W P G n rd (.loop c) Q) Q) s):W P G n rd (.loop c) Q s:=by
 intro wb Γ a w rb hs hr b k cs hro hb hrm;have h0:(lone (b.atR a (.code (.loop c) :: k)) cs w).fenced P (df rb):=fenced_calm hb hrm rfl;obtain⟨e,a₁,w₁,⟨x,s₁,Γ₁,hx,hq,hs₁,E₁,hn₁,hr₁,hf₁⟩,harr⟩:=h wb Γ a w rb hs hr b (.inLoop c :: k) cs hro hb hrm;cases e with
 | normal =>
  cases x with
  | normal =>
   obtain⟨e,a₂,w₂,hp,harr₂⟩:=hq wb Γ₁ a₁ w₁ rb hs₁ hr₁ b k cs hro hb hrm;have hp':=hp.step E₁ hn₁ hf₁ fun t ht=>ht;refine⟨e,a₂,w₂,hp',?_⟩;have start:StepsIn (Machine.fenced P (df rb)) P (lone (b.atR a (.code (.loop c) :: k)) cs w) (lone (b.atR a₁ (.code c :: .inLoop c :: k)) cs w₁) :=
    .head h0 stepR_loop (StepsIn.trans harr (.one (fenced_calm hb hrm rfl) stepR_inLoop))
   obtain⟨y,s₂,Γ₂,hy,hq₂,_⟩:=hp;have hl:∀ (k':List Item),k'.length<=k.length->Item.code (.loop c) :: k≠k':=fun k' hk' he=>by subst he;simp only[List.length_cons]at hk';omega
   cases e with
   | normal=>exact start.trans (nP harr₂ stepR_loop (sR (hl _ (Nat.le_refl _))))
   | exit id =>
    refine⟨fun k' hk'=>start.trans (nP (harr₂.1 k' hk') stepR_loop (sR (hl _ (JX hk')))),fun hr2 hk'=>?_⟩;obtain⟨k₁,h1,h2⟩:=harr₂.2 hr2 hk';exact⟨k₁,h1,start.trans (nP h2 stepR_loop (sR (k':=.code (.exit id) :: k₁) (fun he=>by cases he)))⟩
   | goto l=>cases y with
    | goto l'=>exact absurd hq₂ (hQ _ _)
    | _=>exact hy.elim
   | ret =>
    refine⟨fun hr2=>?_,fun hr2=>?_⟩
    ·obtain⟨todo,h1⟩:=harr₂.1 hr2;exact⟨todo,start.trans (nP h1 stepR_loop (Al (fun he=>by cases he)))⟩
    ·obtain⟨k₁,h1⟩:=harr₂.2 hr2;exact⟨k₁,start.trans (nP h1 stepR_loop (sR (k':=.code .ret :: k₁) (fun he=>by cases he)))⟩
   | panic ch =>
    obtain⟨todo,h1⟩:=harr₂;exact⟨todo,start.trans (nP h1 stepR_loop (Al (fun he=>by cases he)))⟩
   | outgrown=>cases y<;>exact hy.elim
  | _=>exact hx.elim
 | exit id=>cases x with
  | exit j=>exact⟨_,a₁,w₁,⟨.exit j,s₁,Γ₁,hx,hq,hs₁,E₁,hn₁,hr₁,hf₁⟩,.of_steps (.one h0 stepR_loop) (.pass (x:=.inLoop c) rfl (fun _ _=>.inl (by simp)) harr)⟩
  | _=>exact hx.elim
 | goto id=>cases x with
  | goto j=>exact⟨_,a₁,w₁,⟨.goto j,s₁,Γ₁,hx,hq,hs₁,E₁,hn₁,hr₁,hf₁⟩,.of_steps (.one h0 stepR_loop) (.pass (x:=.inLoop c) rfl (fun _ _=>.inl (by simp)) harr)⟩
  | _=>exact hx.elim
 | ret=>cases x with
  | ret=>exact⟨_,a₁,w₁,⟨.ret,s₁,Γ₁,hx,hq,hs₁,E₁,hn₁,hr₁,hf₁⟩,.of_steps (.one h0 stepR_loop) (.pass (x:=.inLoop c) rfl (fun _ _=>.inl (by simp)) harr)⟩
  | _=>exact hx.elim
 | panic ch=>cases x with
  | panic=>exact⟨_,a₁,w₁,⟨.panic,s₁,Γ₁,hx,hq,hs₁,E₁,hn₁,hr₁,hf₁⟩,.of_steps (.one h0 stepR_loop) (.pass (x:=.inLoop c) rfl (fun _ _=>.inl (by simp)) harr)⟩
  | _=>exact hx.elim
 | outgrown=>cases x<;>exact hx.elim
theorem Am {b:Nat}{f:FP}{acc:List (Nat × FP)}(h:vB b f acc=true):eQ b f acc:=by
 intro p hp hb;have:=PX.1 h p hp;rw[hb,SM,PS,PX,PX]at this;refine⟨fun r hr hr2=>?_,fun r hr hr2=>?_⟩
 ·have:=this.1 r hr;simp [hr2]at this
 ·have:=this.2 r hr;simp [hr2]at this
theorem gW.JZ {P:Program}{G:Nat->Option (List AVal)}{fv:AVal}{args:List AVal}{H:AHeap}{v:AVal}{rs:List Nat}(h1:∀ r,r∈rs->r<H.next)
  (h2:∀ H2:AHeap,(∀ r,r∈rs->H2.get r=H.get r)->az P G fv args H2 fun r H3=>r=.ret v/\H3=H2):Ev.gW P G fv args H v (fun _=>none) 0 ⟨[],rs⟩ :=
 ⟨h1,fun r (hr:false=true)=>absurd hr (by decide),fun c hc=>absurd hc (PL _),fun H2 ha _ _=>h2 H2 ha⟩
def nQ (E:EP)(fv:AVal)(args:List AVal)(h:EH)(k:AVal->FP->EH->R)(r:RR):Prop :=
 ∃ v e n fp h2,k v fp h2=some r/\VH h2/\ao h2=⟨Ev.bP e (ao h).get,(ao h).next+n⟩/\Ev.gW E.P E.G fv args (ao h) v e n fp
theorem nQ.pure {fv:AVal}{args:List AVal}{h:EH}{k:AVal->FP->EH->R}{r:RR}{v:AVal}{rs:List Nat}(hv:VH h)(hk:k v ⟨[],rs⟩ h=some r)(h1:∀ r,r∈rs->r<(ao h).next)
  (h2:∀ H2:AHeap,(∀ r,r∈rs->H2.get r=(ao h).get r)->az E.P E.G fv args H2 fun r H3=>r=.ret v/\H3=H2):nQ E fv args h k r :=
 ⟨v,_,0,_,h,hk,hv,rfl,gW.JZ h1 h2⟩
theorem An {l:List Nat}{n:Nat}(h:(l.all fun r=>Nat.blt r n)=true):∀ r,r∈l->r<n:=fun r hr=>by
 have:=PX.1 h r hr;rw[Su]at this;exact this
theorem vT (hE:EOk E)(hI:fD E ih){f:FuncId}{first cap args:List AVal}{h:EH}{k:AVal->FP->EH->R}{r:RR}(hv:VH h)(hr:sC E ih f (first++args++cap) h k=some r):nQ E (.clo f first cap) args h k r:=by
 obtain⟨kp,hr1,hinv⟩:=kF (fun v acc k r=>Kd 40 v acc k r) hr;have hgood:∀ id,id∈kp->nS h 0 [] kp id:=fun id hid=>(hinv.2 id hid).resolve_left (List.not_mem_nil);have hkn:∀ id,id∈kp->id<h.nx:=fun id hid=>let ⟨_,g,e,c,hg,_⟩:=hgood id hid;hv id _ hg
 unfold zI at hr1;split at hr1
 ·rename_i p hp;obtain⟨hfz,hr2⟩:=fk hr1;obtain⟨hp1,hr3,hget⟩:=Kf hr2;have hvs:VH ⟨hp1,h.nx⟩:=by
   intro id b hb;have hb':aP hp1 id=some b:=hb;rw[hget]at hb';split at hb'
   ·exact hv id b hb'
   ·cases hb'
  unfold zH at hr3;split at hr3
  ·rename_i v h' hc;obtain⟨x,h2,hcr,hv2,hK⟩:=kE hI hvs hc;obtain⟨rfl,rfl⟩:=hcr;unfold zG at hr3;split at hr3
   ·rename_i lv hle hsame hlv;obtain⟨hi2,hcl⟩:=Ar 40 v [] lv hlv;have hgl:∀ id,id∈lv->nS h2 h.nx kp lv id:=fun id hid=>(hi2.2 id hid).resolve_left (List.not_mem_nil);have hln:∀ id,id∈lv->id<h2.nx:=fun id hid=>let ⟨_,g,e,c,hg,_⟩:=hgl id hid;hv2 id _ hg
    have hle':h.nx<=h2.nx:=QD hle;obtain⟨t',hr4,hnew⟩:=Kj hr3;rw[fW]at hr4;have hKin:∀ id,gF h.nx kp lv id->(id∈kp\/(h.nx<=id/\id<h2.nx/\dW lv id=true)):=by
     rintro id (⟨h1,h3⟩|⟨h1,h3⟩)
     ·exact .inl h3
     ·exact .inr ⟨by omega,hln id h3,jk.2 h3⟩
    obtain⟨hm1,hm2⟩:=lR hp;have hE1:=Ev.gW.mk (P:=E.P) (G:=E.G) (f:=f) (first:=first) (cap:=cap) (args:=args) (args':=p.1) (v:=v) (H:=ao h) (ao ⟨hp1,h.nx⟩) (ao h2) (fun id=>id∈kp) (dW lv) (kp++p.2) hE.gok
     (fun r hr=>by
      rcases PK.1 hr with hr|hr
      ·exact hkn r hr
      ·exact An hfz r hr)
     rfl hle'
     (fun id hid=>by
      obtain⟨_,g,e,c,hg,hcc⟩:=hgood id hid;refine⟨QZ _ hid,?_,?_,g,e,c,kC hg,fun i hi=>(hcc i hi).mono fun j hj=>hj.elim (fun h=>absurd h.1 (PL _)) fun h=>h.2⟩
      ·show Option.map _ (aP hp1 id)=Option.map _ (aP h.hp id);rw[hget,Pv hid]
      ·show Option.map _ (aP h2.hp id)=Option.map _ (aP h.hp id);rw[<- Ki (Kc hsame id hid)])
     (fun id hid=>by
      show Option.map _ (aP hp1 id)=none;rw[hget,Pt hid];rfl)
     hm1
     (fun H2 ha i hi hi'=>by
      obtain⟨ri,h3,h4⟩:=hm2 i hi hi';exact Ke hkn 40 h3 H2 fun r hr=>ha r (QE _ (h4 r hr)))
     (hK _ ⟨rfl,rfl⟩)
     (hcl.mono hKin)
     (fun id h1 h3 h4=>by
      obtain⟨_,g,e,c,hg,hcc⟩:=hgl id (jk.1 h4);exact⟨g,e,c,kC hg,fun i hi=>(hcc i hi).mono hKin⟩)
    refine⟨v,_,_,_,⟨t',h2.nx⟩,hr4,?_,?_,hE1⟩
    ·intro id b hb;have hb':aP t' id=some b:=hb;rw[hnew]at hb';show id<h2.nx;split at hb'
     ·rename_i hc;have:Nat.sub h2.nx h.nx=h2.nx - h.nx:=rfl;rw[this]at hc;omega
     ·have:=hv id b hb';omega
    ·have hget2:(ao ⟨t',h2.nx⟩).get=Ev.bP (Ev.dV (ao h).next (ao h2).next (dW lv) (ao h2).get) (ao h).get:=by
      funext m
      show Option.map EBlk.je (aP t' m)=_;rw[hnew];have hsub:h.nx+Nat.sub h2.nx h.nx=h2.nx:=by
       have:Nat.sub h2.nx h.nx=h2.nx - h.nx:=rfl;omega
      rw[hsub];unfold Ev.bP Ev.dV;by_cases hc:h.nx<=m/\m<h2.nx
      ·rw[Pv hc,Pv (show (ao h).next<=m/\m<(ao h2).next from hc)];by_cases hm:dW lv m=true
       ·obtain⟨_,g,e,c,hg,hcc⟩:=hgl m (jk.1 hm);rw[Pv hm,Pv hm,kC hg,hg];rfl
       ·rw[Pt hm,Pt hm];rfl
      ·rw[Pt hc,Pt (show ¬ ((ao h).next<=m/\m<(ao h2).next) from hc)];rfl
     have hnx:(ao ⟨t',h2.nx⟩).next=(ao h).next+((ao h2).next - (ao h).next):=by
      show h2.nx=h.nx+(h2.nx - h.nx)
      omega
     calc ao ⟨t',h2.nx⟩=⟨(ao ⟨t',h2.nx⟩).get,(ao ⟨t',h2.nx⟩).next⟩:=rfl
      _=_:=by rw[hget2,hnx]
   ·cases hr3
  ·cases hr3
 ·cases hr1
theorem J0 (hE:EOk E)(hI:fD E ih){fv:AVal}{args:List AVal}{h:EH}{k:AVal->FP->EH->R}{r:RR}(hv:VH h)(hr:vC E ih fv args h k=some r):nQ E fv args h k r:=by
 unfold vC at hr;split at hr
 ·rename_i f first cap
  split at hr
  ·unfold zK at hr;split at hr
   ·cases hr
   ·rw[gD]at hr;split at hr
    ·exact vT hE hI hv hr
    ·rename_i l hl;unfold zJ at hr;split at hr
     ·exact vT hE hI hv hr
     ·rename_i p hm;split at hr
      ·rename_i v hf;obtain⟨hlt,hr2⟩:=fk hr;exact nQ.pure hv hr2 (An hlt) fun H2 ha=>az.clo (Ai hE hm (hE.known f l hl p.1 v (Af hf)) H2 ha)
      ·exact vT hE hI hv hr
  ·rename_i e he;unfold zF at hr;split at hr
   ·rename_i hfc;obtain⟨rfl,rfl⟩:=SN.1 hfc;rw[gD]at hr;split at hr
    ·rename_i v hv2;exact nQ.pure hv hr (fun r hr=>by cases hr) fun H2 _=>hE.ext f e he _ _ hv2 _ _ ⟨rfl,rfl⟩
    ·cases hr
   ·cases hr
 ·cases hr
theorem J1 (hE:EOk E)(hI:fD E ih){o:Oper}{b i:Nat}{acc:List (Nat × FP)}{k:nI}{env:BT AVal}{h:EH}{r:RR}{KQ:(AX->St->Prop)->List (Nat × FP)->St->Prop}(hv:VH h)
  (hk:∀ acc env' h',VH h'->k acc env' h'=some r->Rest r (fun Q=>KQ Q acc) env' h') (hr:sF E ih o b i acc k env h=some r):
  Rest r (fun Q s=>Ev.bI E.P E.G o (fun f s'=>eQ b f acc/\KQ Q (db i f acc) s') s) env h:=by
 have gen:∀ {op:Op},o.op=op->sD o.dst b i acc k env (bf E.P E.G (aD env) h.nx op) (lL E env h op) h=some r->(∀ fv args ats,op≠.call ⟨.value fv,args,ats⟩) ->
   Rest r (fun Q s=>Ev.bI E.P E.G o (fun f s'=>eQ b f acc/\KQ Q (db i f acc) s') s) env h:=by
  intro op hop hd hne;unfold sD at hd;obtain⟨hap,hd2⟩:=fk hd;obtain⟨v,h',h1,h2,h3⟩:=zZ hv (sP hv).1 hd2;obtain⟨env',h4,h5⟩:=jP h3;obtain⟨x,e2,h6,h7,h8,h9⟩:=hk _ _ _ h2 h4;refine⟨x,e2,h6,h7,h8,fun Q hq=>?_⟩;have hopA:=(sP hv).2 _ _ h1;have hq2:=h9 Q hq;rw[h5]at hq2;unfold Ev.bI;split
  ·rename_i hop2;exact absurd (hop.symm.trans hop2) (hne _ _ _)
  ·refine⟨(v,ao h'),by rw[hop];exact hopA,?_⟩;rw[hop];exact⟨Am hap,hq2⟩
 unfold sF at hr;split at hr
 ·rename_i c hop;split at hr
  ·rename_i fv hc;rw[nL,cG]at hr;obtain⟨v,e,n,fp,h2,hr2,hv2,hH,hec⟩:=J0 hE hI hv hr;unfold zL at hr2;obtain⟨hap,hd2⟩:=fk hr2;rw[nK]at hd2;obtain⟨env',h4,h5⟩:=jP hd2;obtain⟨x,e2,h6,h7,h8,h9⟩:=hk _ _ _ hv2 h4;refine⟨x,e2,h6,h7,h8,fun Q hq=>?_⟩;have hq2:=h9 Q hq;rw[h5,hH]at hq2;obtain⟨callee,args,ats⟩:=c;simp only at hc;subst hc;unfold Ev.bI;rw[hop];exact⟨v,e,n,fp,hec,Am hap,hq2⟩
  ·rename_i hne;refine gen hop hr fun fv args ats he=>?_;have he2:c=⟨.value fv,args,ats⟩:=Op.call.inj he;exact hne fv (by rw[he2])
 ·cases hr
 ·rename_i op hne1 hne2;exact gen rfl hr fun fv args ats he=>hne1 _ he
theorem J2 (hE:EOk E)(hI:fD E ih){all:Array Oper}{tail:BT AVal->EH->R}{r:RR}{TQ:(AX->St->Prop)->St->Prop}(ht:∀ env h,VH h->tail env h=some r->Rest r TQ env h):
  ∀ (l:List Oper) (bs:List Nat) (i:Nat) (acc:List (Nat × FP)) (env:BT AVal) (h:EH),VH h->sG E ih all tail l bs i acc env h=some r->Rest r (fun Q=>Ev.cP E.P E.G all (TQ Q) bs i acc l) env h:=by
 intro l
 induction l with
 | nil =>
  intro bs i acc env h hv hr;obtain⟨x,e2,h2,h3,h4,h5⟩:=ht env h hv hr;exact⟨x,e2,h2,h3,h4,fun Q hq=>by cases bs<;>exact h5 Q hq⟩
 | cons o l ihl =>
  intro bs i acc env h hv hr;cases bs with
  | nil=>cases hr
  | cons b bs =>
   have hr1:nG all (aD env) o.guard (sF E ih o b i acc (sG E ih all tail l bs (i+1)) env h) (eG env o.dst (.lit undef) fun env=>sG E ih all tail l bs (i+1) acc env h)=some r:=hr;rcases Aj hr1 with ⟨hw,hr2⟩|⟨hw,hr2⟩
   ·obtain⟨x,e2,h2,h3,h4,h5⟩:=J1 hE hI (KQ:=fun Q acc=>Ev.cP E.P E.G all (TQ Q) bs (i+1) acc l) hv (fun acc env' h' hv' hk=>ihl bs (i+1) acc env' h' hv' hk) hr2;exact⟨x,e2,h2,h3,h4,fun Q hq=>⟨true,hw,h5 Q hq⟩⟩
   ·obtain⟨env',h1,h2⟩:=jP hr2;obtain⟨x,e2,h2',h3,h4,h5⟩:=ihl bs (i+1) acc env' h hv h1;refine⟨x,e2,h2',h3,h4,fun Q hq=>⟨false,hw,?_⟩⟩;have:=h5 Q hq;rw[h2]at this;exact this
theorem Ao {r0:R}{r:RR}(h:nJ r0=some r):r0=some r/\∀ l e h,r≠.ev (.goto l) e h:=by
 unfold nJ at h;split at h
 ·cases h
 ·rename_i hne;subst h;exact⟨rfl,fun l e h he=>hne l e h (by rw[he])⟩
theorem J3 (hE:EOk E)(hI:fD E ih):fD E (zR E ih):=by
 intro rd n c env h r hr hv hf;have seqK:∀ (a:Code) (b:Code),fits n a=true->fits n b=true->pQ ih rd n b (ih rd n a env h)=some r ->
   ∃ x env' h',r=.ev x env' h'/\VH h'/\∀ Q:AX->St->Prop,Q x ⟨aD env',ao h'⟩->W E.P E.G n rd a (gv (W E.P E.G n rd b Q) Q) ⟨aD env,ao h⟩:=by
  intro a b hfa hfb hs;unfold pQ at hs;split at hs
  ·rename_i e1 h1 hi;obtain⟨x,e2,h2,h3,h4,h5⟩:=hI _ _ _ _ _ _ hi hv hfa;cases h3;obtain⟨x',e',h',h6,h7,h8⟩:=hI _ _ _ _ _ _ hs h4 hfb;exact⟨x',e',h',h6,h7,fun Q hq=>h5 _ (h8 Q hq)⟩
  ·rename_i r0 hne;obtain⟨x,e2,h2,h3,h4,h5⟩:=hI _ _ _ _ _ _ hs hv hfa;subst h3;refine⟨x,e2,h2,rfl,h4,fun Q hq=>h5 _ ?_⟩;cases x with
   | normal=>exact absurd hs (hne _ _)
   | _=>exact hq
 cases c with
 | skip=>exact⟨.normal,env,h,(Option.some.inj hr).symm,hv,fun Q hq=>.skip hq⟩
 | label l=>exact⟨.normal,env,h,(Option.some.inj hr).symm,hv,fun Q hq=>.label hq⟩
 | exit i=>exact⟨.exit i,env,h,(Option.some.inj hr).symm,hv,fun Q hq=>.exit hq⟩
 | ret=>exact⟨.ret,env,h,(Option.some.inj hr).symm,hv,fun Q hq=>.ret hq⟩
 | goto l=>cases hr
 | refuse w=>cases hr
 | region id ops dr =>
  have hr1:Bool.rec (motive:=fun _=>R) (nH E ih rd ops ops.toList env h) (sH E ih rd ops (ku ops.toList []) (pP (ku ops.toList []) ops.toList.length) env h) dr=some r:=hr;cases dr with
  | false =>
   obtain⟨x,e2,h2,h3,h4,h5⟩:=Ak hE hI ops.toList env h hv hr1;exact⟨x,e2,h2,h3,h4,fun Q hq=>.region hf (h5 Q hq)⟩
  | true =>
   have hr2:sH E ih rd ops (ku ops.toList []) (pP (ku ops.toList []) ops.toList.length) env h=some r:=hr1;unfold sH at hr2;obtain⟨hok,hr3⟩:=fk hr2;obtain⟨x,e2,h2,h3,h4,h5⟩:=J2 hE hI (TQ:=fun Q=>cX E.P E.G rd Q ops (ops.toList.drop (pP (ku ops.toList []) ops.toList.length))) (fun env h hv hr=>Ak hE hI _ env h hv hr) _ _ _ _ env h hv hr3;exact⟨x,e2,h2,h3,h4,fun Q hq=>Ev.W.xN _ _ hE.mixed hf hok (h5 Q hq)⟩
 | seq a b =>
  simp only[fits,PS]at hf;obtain⟨x,e2,h2,h3,h4,h5⟩:=seqK a b hf.1 hf.2 hr;exact⟨x,e2,h2,h3,h4,fun Q hq=>.seq (h5 Q hq)⟩
 | cond x a b =>
  simp only[fits,PS]at hf;have hr1:vE (ah E.G (aD env) x) (ih rd n a env h) (ih rd n b env h)=some r:=hr;unfold vE at hr1;split at hr1
  ·rename_i t ht;cases t with
   | true =>
    obtain⟨y,e2,h2,h3,h4,h5⟩:=hI _ _ _ _ _ _ hr1 hv hf.1;exact⟨y,e2,h2,h3,h4,fun Q hq=>.cond ht (h5 Q hq)⟩
   | false =>
    obtain⟨y,e2,h2,h3,h4,h5⟩:=hI _ _ _ _ _ _ hr1 hv hf.2;exact⟨y,e2,h2,h3,h4,fun Q hq=>.cond ht (h5 Q hq)⟩
  ·cases hr1
 | block id b =>
  have hr1:vD id (ih rd n b env h)=some r:=hr;unfold vD at hr1;split at hr1
  ·rename_i i e1 h1 hi;obtain⟨x,e2,h2,h3,h4,h5⟩:=hI _ _ _ _ _ _ hi hv hf;cases h3;cases hb:Nat.beq i id with
   | true =>
    rw[hb]at hr1;have:=PH hb;refine⟨.normal,e1,h1,(Option.some.inj hr1).symm,h4,fun Q hq=>.block (h5 _ ?_)⟩;show (if i=id then Q .normal _ else Q (.exit i) _);rw[Pv this];exact hq
   | false =>
    rw[hb]at hr1;have:¬ i=id:=fun h=>by rw[h]at hb;rw[show Nat.beq id id=true from Rj _]at hb;cases hb
    refine⟨.exit i,e1,h1,(Option.some.inj hr1).symm,h4,fun Q hq=>.block (h5 _ ?_)⟩;show (if i=id then Q .normal _ else Q (.exit i) _);rw[Pt this];exact hq
  ·rename_i r0 hne;obtain⟨x,e2,h2,h3,h4,h5⟩:=hI _ _ _ _ _ _ hr1 hv hf;subst h3;refine⟨x,e2,h2,rfl,h4,fun Q hq=>.block (h5 _ ?_)⟩;cases x with
   | exit i=>exact absurd hr1 (hne _ _ _)
   | _=>exact hq
 | loop b =>
  have hr1:nJ (pQ ih rd n (.loop b) (ih rd n b env h))=some r:=hr;obtain⟨hr2,hng⟩:=Ao hr1;obtain⟨x,e2,h2,h3,h4,h5⟩:=seqK b (.loop b) hf hf hr2;refine⟨x,e2,h2,h3,h4,fun Q hq=>(W.JY (Q:=fun y t=>y=x/\t=⟨aD e2,ao h2⟩) (fun l s hx=>?_) (h5 _ ⟨rfl,rfl⟩)).mono fun y t ht=>by rw[ht.1,ht.2];exact hq⟩;subst h3;rw[<- hx.1]at hng;exact hng _ _ _ rfl
 | scope b =>
  have hr1:nJ (ih rd n b env h)=some r:=hr;obtain⟨hr2,hng⟩:=Ao hr1;obtain⟨x,e2,h2,h3,h4,h5⟩:=hI _ _ _ _ _ _ hr2 hv hf;subst h3;refine⟨x,e2,h2,rfl,h4,fun Q hq=>.scope (h5 _ ?_)⟩;cases x with
  | goto i=>exact absurd rfl (hng _ _ _)
  | _=>exact hq
 | rangeFunc f ps asg body =>
  have hr1:vF E ih rd n env h ps asg body (ah E.G (aD env) f)=some r:=hr;unfold vF at hr1;split at hr1
  ·rename_i g first cap hg
   obtain⟨hp1,hr2,hs1⟩:=kA _ _ _ _ _ hr1;rw[gD]at hr2;have hv1:VH ⟨hp1,h.nx+1⟩:=by
    intro j b hj;rw[hs1]at hj;show j<h.nx+1;split at hj
    ·omega
    ·have:=hv _ _ hj;omega
   have hlay:(ao h).lay (ao h).next (.loop .ready none n (aD env) ps asg body)=some (ao ⟨hp1,h.nx+1⟩):=by
    rw[sL (nx:=h.nx+1) hs1];unfold AHeap.lay;rw[Pv rfl];rfl
   have rule:∀ Q:AX->St->Prop,ab E.P E.G g (first++[.yld h.nx]++cap) (ao ⟨hp1,h.nx+1⟩) (ru rd Q (aD env) h.nx)->W E.P E.G n rd (.rangeFunc f ps asg body) Q ⟨aD env,ao h⟩ :=
    fun Q hq=>W.rangeFunc hg ⟨_,hlay,hq⟩
   unfold zM at hr2;split at hr2
   ·rename_i v h2 hc;obtain⟨x,h3,hcr,hv3,hK⟩:=kE hI hv1 hc;obtain⟨rfl,rfl⟩:=hcr;obtain⟨hrd,hr3⟩:=fk hr2;split at hr3
    ·cases hr3
    ·rename_i st pend n2 env2 ps2 asg2 body2 hne hg3;obtain⟨hp3,hr4,hs3⟩:=kA _ _ _ _ _ hr3;have hup:=vS (h:=h3) hs3;have hv4:=hv3.set hs3 (hv3 _ _ hg3);have hend:pA ((ao h3).get h.nx)=some (pend,.loop .exhausted pend n2 (aD env2) ps2 asg2 body2):=by
      rw[pS hg3];unfold pA;cases st with
      | busy=>exact(hne rfl).elim
      | _=>rfl
     have fin:∀ x:AX,(∀ Q:AX->St->Prop,Q x ⟨aD env,ao ⟨hp3,h3.nx⟩⟩->zg Q ⟨aD env,ao ⟨hp3,h3.nx⟩⟩ pend)->r=.ev x env ⟨hp3,h3.nx⟩ ->
       ∃ x env' h',r=.ev x env' h'/\VH h'/\∀ Q:AX->St->Prop,Q x ⟨aD env',ao h'⟩->W E.P E.G n rd (.rangeFunc f ps asg body) Q ⟨aD env,ao h⟩:=by
      intro x hx he;refine⟨x,env,_,he,hv4,fun Q hq=>rule Q (hK _ ⟨sQ hrd,_,hend,?_⟩)⟩;have:=hx Q hq;rw[hup]at this;exact this
     unfold endLoop at hr4;split at hr4
     ·exact fin .normal (fun Q hq=>hq) (Option.some.inj hr4).symm
     ·exact fin .ret (fun Q hq=>hq) (Option.some.inj hr4).symm
     ·rename_i i;exact fin (.exit i) (fun Q hq=>hq) (Option.some.inj hr4).symm
     ·cases hr4
    ·cases hr3
   ·rename_i h2 hc;obtain⟨x,h3,hcr,hv3,hK⟩:=kE hI hv1 hc;obtain⟨rfl,rfl⟩:=hcr;obtain⟨hrd,hr3⟩:=fk hr2;exact⟨.panic,env,h3,(Option.some.inj hr3).symm,hv3,fun Q hq=>rule Q (hK _ ⟨sQ hrd,hq⟩)⟩
   ·cases hr2
  ·cases hr1
theorem J4 (hE:EOk E):∀ fuel,fD E (zS E fuel):=by
 intro fuel
 induction fuel with
 | zero=>intro rd n c env h r hr;cases hr
 | succ f ih=>exact J3 hE ih
theorem J5 (hE:EOk E){fuel:Nat}{f:FuncId}{args:List AVal}{v:AVal}(h:zT E fuel f args=some v):ab E.P E.G f args cF fun r H'=>∃ u,r=.ret u/\Fresh H' u v :=
 JQ (J4 hE fuel) h
end
end Go.Hx
namespace Go.Hx
open Go.ChangeShapes Go.WideShapes Go.RowKit
variable {P:Program} {G:Nat->Option (List AVal)}
def iu:aw:=fun _=>none
def tU (P:Program)(G:Nat->Option (List AVal))(W:World):Prop:=∀ g cells,G g=some cells->RelV P iu cF W (.vptr cells 0) (.pointer (some ⟨g,0,none⟩))/\∃ c e f,W.heap[g]?=some (.cells c e f)/\c.size=cells.length
theorem CM {W:World}(hg:tU P G W):RelH P G iu cF W where
 arr _ _ _ _ h:=by cases h
 loop _ _ _ _ _ _ _ _ h:=by cases h
 mp _ _ h:=by cases h
 rsv _ h:=by cases h
 inj _ _ _ _ _ _ _ h:=by cases h
 dom _ _ h:=by cases h
 lt _ _ _ _ h:=by cases h
 next _ _ h:=by cases h
 glob g cells h:=(hg g cells h).1
 gsz g cells h:=(hg g cells h).2
theorem xI (b:Nat):¬ iu.dz b:=fun ⟨_,_,_,h⟩=>by cases h
theorem CN {f:FuncId}{args:List AVal}{cargs:Array Value}{W:World}(hA:ab P G f args cF fun r H'=>∃ u,r=.ret u/\Fresh H' u (.lit (.bool true)))(hg:tU P G W)(hr:cT P iu cF W args cargs):
  Calls P f cargs W fun e W'=>e=.returned (.bool true)/\RowKit.Below W.heap.size W W'/\∀ a,a.block<W.heap.size->W'.frozen? a=W.frozen? a:=by
 refine callsIn_wide.1 ((hA.2 iu W cargs (CM hg) hr).mono ?_);rintro e W' ⟨r,H',Γ',hend,⟨u,rfl,hf⟩,_,E,_⟩;cases e with
 | returned cv =>
  have hu:u=.lit (.bool true):=by cases hf;rfl
  subst hu;cases hend;exact⟨rfl,⟨E.os,E.tape,E.output,E.size,fun k hk=>(E.keep k hk (xI k)).1⟩,E.frz⟩
 | panicked=>exact hend.elim
 | outgrown=>exact hend.elim
theorem CO {W W':World}(hb:RowKit.Below W.heap.size W W')(may:MemPlace->Prop):W.keptBut W' may:=by
 refine⟨hb.os,hb.output,fun i hi=>?_⟩;rw[hb.block i hi];cases h:W.heap[i]? with
 | none=>rfl
 | some o=>cases o<;>first|exact rfl|exact⟨rfl,rfl,rfl,fun _ _=>rfl⟩|exact .inr ⟨rfl,rfl⟩
theorem CP {H:Type}{enc:TypeId × Value->H}(hl:laidOutB P=true){W W':World}(hb:RowKit.Below W.heap.size W W'){sp:Nat->Bool}:∀ {ts:List TypeId} {vs:List Value} {ds:List (DataW H)} {ps:List MemPlace},
  ts.all (fun t=>P.readableRec t && decide (t<P.types.size))=true->DataW.TrodAll enc P W 0 (fun _=>true) true ts vs ds ps->(∀ x∈ps,x.block<W.heap.size)->(∀ x∈ps,sp x.block=true)->DataW.TrodAll enc P W' 0 sp true ts vs ds ps:=by
 intro ts
 induction ts with
 | nil =>
  intro vs ds ps _ h _ _;cases vs<;>cases ds<;>first|exact h|exact h.elim
 | cons t ts ih =>
  intro vs ds ps hok h hlt hsp;simp only[List.all_cons,PS,decide_eq_true_eq]at hok;cases vs with
  | nil=>cases ds<;>exact h.elim
  | cons v vs=>cases ds with
   | nil=>exact h.elim
   | cons d ds =>
    obtain⟨p,q,h1,h2,rfl⟩:=h;refine⟨p,q,?_,ih hok.2 h2 (fun x hx=>hlt x (by simp [hx])) (fun x hx=>hsp x (by simp [hx])),rfl⟩;exact WideElems.Trod_stays hl hok.1.1 hok.1.2 h1 (fun x hx=>hb.same (hlt x (by simp [hx]))) (fun x hx=>hsp x (by simp [hx]))
theorem CQ {H:Type}{enc:TypeId × Value->H}{W:World}{base:Nat}{sp:Nat->Bool}{held:Bool}:∀ {ts:List TypeId} {vs:List Value} {ds:List (DataW H)} {ps:List MemPlace},
  DataW.TrodAll enc P W base sp held ts vs ds ps->vs.length=ts.length/\ds.length=ts.length:=by
 intro ts
 induction ts with
 | nil =>
  intro vs ds ps h;cases vs<;>cases ds<;>first|exact⟨rfl,rfl⟩|exact h.elim
 | cons t ts ih =>
  intro vs ds ps h;cases vs with
  | nil=>cases ds<;>exact h.elim
  | cons v vs=>cases ds with
   | nil=>exact h.elim
   | cons d ds =>
    obtain⟨p,q,_,h2,_⟩:=h;obtain⟨h3,h4⟩:=ih h2;exact⟨by simp [h3],by simp [h4]⟩
theorem CR {H:Type}{enc:TypeId × Value->H}{f:Func}{s:ChangeSpec}{apart fresh handsOn again:Bool}{W W':World}{args:Array Value}{ds gs:List (DataW H)}{before:List MemPlace}{t:TypeId}
  (hl:laidOutB P=true) (hok:f.params.toList.all (fun t=>P.readableRec t && decide (t<P.types.size))=true) (hvars:s.vars=[]) (hrt:f.resultTypes=#[t]) (ht:P.underlying t=some .bool)
  (hs:∀ ds:List (DataW H),ds.length=f.params.toList.length->s.fn H (ds++[])={ results:=[.lit (.bool true)],args:=ds })
  (hW:DataW.Whole enc P f.params.toList s.vars apart W args.toList ds gs before) (hb:RowKit.Below W.heap.size W W') (hfz:∀ a,a.block<W.heap.size->W'.frozen? a=W.frozen? a):s.post enc P f apart fresh handsOn again W args (.bool true) W':=by
 have hW':=hW;obtain⟨p,q,hA,hV,rfl,hz,hn⟩:=hW;have hgs:gs=[]/\q=[]:=by
  rw[hvars]at hV;cases gs with
  | nil=>exact⟨rfl,hV⟩
  | cons=>exact hV.elim
 obtain⟨rfl,rfl⟩:=hgs;have hfn:=hs ds (CQ hA).2;have hlt:∀ x∈p,x.block<W.heap.size:=fun x hx=>by simpa using hW'.lt x (by simp [hx])
 have hres:∀ (b:Nat) (sp:Nat->Bool) (hd:Bool),DataW.TrodAll enc P W' b sp hd f.resultTypes.toList ((Value.bool true).resultList f.resultTypes.size) (s.fn H (ds++[])).results []:=fun b sp hd=>by
  rw[hfn,hrt];exact trodAll_mk1 (shut_bool ht true)
 have hargs:∀ sp:Nat->Bool,(∀ x∈p,sp x.block=true)->DataW.TrodAll enc P W' 0 sp true f.params.toList args.toList (s.fn H (ds++[])).args p:=fun sp hsp=>by
  rw[hfn];exact CP hl hb hok hA hlt hsp
 have hva:∀ sp:Nat->Bool,DataW.TrodVars enc P W' sp s.vars (s.fn H (ds++[])).vars []:=fun sp=>by
  rw[hfn,hvars];exact rfl
 have hpp:p++[]=p:=List.append_nil p;have hold:∀ x∈p,(fun b=>decide (b<W.heap.size)) x.block=true:=fun x hx=>by simpa using hlt x hx
 rw[hpp]at hW' hz hn;refine⟨ds,[],p,[],p,[],hW',hres _ _ _,hargs _ hold,hva _,World.keptBut_mono (fun x hx=>⟨hx,.inr (.inl hx)⟩) (CO hb _),fun _=>⟨ok_one hrt rfl (okWide_bool_mk ht true),(s.fn H (ds++[])).results++(s.fn H (ds++[])).args,(s.fn H (ds++[])).vars,p,?_,fun x hx _=>hx⟩⟩;have hall:=trodAll_append (hargs (fun _=>true) fun _ _=>rfl) (hres 0 (fun _=>true) true);refine⟨p,[],by simpa using hall,hva _,by simp,fun b off hx=>?_,fun ha=>by simpa using hn ha⟩;rw[hfz _ (hlt _ hx)];exact hz b off hx
end Go.Hx
namespace Go.Hx
variable {P:Program} {G:Nat->Option (List AVal)}
abbrev iJ:=List (List AVal × AVal)
def iK (P:Program)(G:Nat->Option (List AVal))(f:FuncId)(l:iJ):Prop:=∀ p,p∈l->ab P G f p.1 cF fun r H'=>∃ u,r=.ret u/\Fresh H' u p.2
theorem iK.nil {f:FuncId}:iK P G f []:=fun _ h=>by cases h
theorem iK.cons {f:FuncId}{p:List AVal × AVal}{l:iJ}(h:ab P G f p.1 cF fun r H'=>∃ u,r=.ret u/\Fresh H' u p.2)(hl:iK P G f l):iK P G f (p :: l):=fun q hq=>by
 rcases List.mem_cons.1 hq with rfl|hq
 ·exact h
 ·exact hl q hq
theorem iK.append {f:FuncId}{l l':iJ}(h:iK P G f l)(h':iK P G f l'):iK P G f (l++l'):=fun q hq=>(PK.1 hq).elim (h q) (h' q)
noncomputable def sS (l:List (FuncId × iJ))(f:FuncId):Option iJ :=
 List.rec (motive:=fun _=>Option iJ) none (fun p _ ih=>Bool.rec (motive:=fun _=>Option iJ) ih (some p.2) (Nat.beq p.1 f)) l
def vU (P:Program)(G:Nat->Option (List AVal)):List (FuncId × iJ)->Prop
 | []=>True
 | p :: l=>iK P G p.1 p.2/\vU P G l
theorem J6:∀ {l:List (FuncId × iJ)},vU P G l->∀ f t,sS l f=some t->iK P G f t:=by
 intro l
 induction l with
 | nil=>intro _ f t h;cases h
 | cons p l ih =>
  intro ha f t h;have h':Bool.rec (motive:=fun _=>Option iJ) (sS l f) (some p.2) (Nat.beq p.1 f)=some t:=h;cases hb:Nat.beq p.1 f with
  | true =>
   rw[hb]at h';have:=PH hb;have h2:p.2=t:=Option.some.inj h';rw[<- this,<- h2];exact ha.1
  | false =>
   rw[hb]at h';exact ih ha.2 f t h'
theorem EOk.J7 {E:EP}{l:List (FuncId × iJ)}(hk:E.known=sS l)(gok:eD E.G)(mixed:E.P.follows .mixedOrders=true)
  (gd:∀ f z,E.gd f=some z->Ag E.P E.G f z) (ha:vU E.P E.G l) (hx:nO E:=by exact nO.none rfl):EOk E :=
 ⟨gok,mixed,fun f t h a v hm=>J6 ha f t (by rw[<- hk];exact h) (a,v) hm,gd,hx⟩
noncomputable def vV (E:EP)(fuel:Nat)(f:FuncId)(args:List AVal)(v:AVal):Bool:=match zT E fuel f args with
 | some u=>nA 40 u v
 | none=>false
theorem J8 {E:EP}{fuel:Nat}{f:FuncId}{args:List AVal}{v:AVal}(hE:EOk E)(h:vV E fuel f args v=true):ab E.P E.G f args cF fun r H'=>∃ u,r=.ret u/\Fresh H' u v:=by
 unfold vV at h;split at h
 ·rename_i u hu;rw[<- Ae 40 _ _ h];exact J5 hE hu
 ·cases h
def pT:Nat->Option (List AVal):=fun _=>none
theorem J9:eD pT:=fun _ _ h=>by cases h
theorem Ka (W:World):tU P pT W:=fun _ _ h=>by cases h
end Go.Hx
namespace Go.Hx
variable {P:Program} {G:Nat->Option (List AVal)} {Γ Γ':aw} {H H':AHeap} {w w':World}
section
variable {n:Nat} {wb:Base} {rd rb:Option Nat} {Q:AX->St->Prop}
end
end Go.Hx
namespace Go.Hx
open Go.ChangeShapes Go.WideShapes Go.RowKit
variable {P:Program} {W:World} {H:Type} {enc:TypeId × Value->H} {spare:Nat->Bool} {held:Bool}
def fT (P:Program)(W:World)(as:List AVal)(cs:List Value):Prop:=cs.length=as.length/\∀ i (h:i<as.length) (h':i<cs.length),RelV P iu cF W as[i] cs[i]
def eP (enc:TypeId × Value->H)(P:Program)(W:World)(spare:Nat->Bool)(held:Bool)(t:TypeId)(φ:DataW H->List AVal->Prop):Prop :=
 ∀ fuel cs x,DataW.trod enc P W 0 spare held fuel t cs=some x->∃ as,fT P W as cs/\φ x.1 as
theorem fT.nil:fT P W [] []:=⟨rfl,fun i h _=>absurd h (PL _)⟩
theorem fT.one {a:AVal}{c:Value}(h:RelV P iu cF W a c):fT P W [a] [c]:=⟨rfl,fun i hi _=>by
 match i,hi with
 | 0,_=>exact h⟩
theorem fT.append {as bs:List AVal}{cs ds:List Value}(h1:fT P W as cs)(h2:fT P W bs ds):fT P W (as++bs) (cs++ds):=by
 refine⟨by simp [h1.1,h2.1],fun i h h'=>?_⟩;by_cases hi:i<as.length
 ·rw[Qk hi,Qk (by rw[h1.1];exact hi)];exact h1.2 i hi _
 ·have e:=h1.1;rw[Qp (by omega),Qp (by omega)];have:=h2.2 (i - as.length) (by simp at h;omega) (by rw[h2.1];simp at h;omega);simpa [e] using this
theorem iC {t:TypeId}{k:IntKind}(ht:P.underlying t=some (.int k)):eP enc P W spare held t fun d as=>∃ n,d=.lit (.int k n)/\as=[.lit (.int k n)]/\(Lit.int k n).wf=true:=by
 intro fuel cs x h;cases fuel with
 | zero=>simp [DataW.trod]at h
 | succ n =>
  unfold DataW.trod at h;rw[ht]at h;split at h<;>simp_all
  rename_i k' n' _ _;obtain⟨⟨rfl,hw⟩,rfl⟩:=h;exact⟨_,.one (.lit _),_,rfl,rfl,hw⟩
theorem yw:∀ {rows:List (List AVal)} {css:List (List Value)},css.length=rows.length->(∀ i (h:i<rows.length) (h':i<css.length),fT P W rows[i] css[i])->fT P W rows.flatten css.flatten:=by
 intro rows
 induction rows with
 | nil=>intro css h _;obtain rfl:=PG h;exact .nil
 | cons r rows ih =>
  intro css h h'
  match css,h with
  | c :: css,h =>
   simp only[List.flatten_cons];exact(h' 0 (by simp) (by simp)).append (ih (by simpa using h) fun i hi hi'=>h' (i+1) (by simpa using hi) (by simpa using hi'))
theorem yy {α:Type}{Q:Nat->α->Prop}:∀ n,(∀ i,i<n->∃ a,Q i a)->∃ l:List α,l.length=n/\∀ i (h:i<l.length),Q i l[i]:=by
 intro n
 induction n with
 | zero=>intro _;exact⟨[],rfl,fun i h=>absurd h (PL _)⟩
 | succ n ih =>
  intro h;obtain⟨l,hl,hq⟩:=ih fun i hi=>h i (by omega);obtain⟨a,ha⟩:=h n (by omega);refine⟨l++[a],by simp [hl],fun i hi=>?_⟩;by_cases hi':i<l.length
  ·rw[Qk hi'];exact hq i hi'
  ·have:i=l.length:=(by simp at hi;omega);subst this;simp only[List.getElem_concat_length];rw[hl];exact ha
theorem DM {α:Type}{z:Nat}:∀ {rows:List (List α)},(∀ i (h:i<rows.length),rows[i].length=z)->rows.flatten.length=rows.length*z:=by
 intro rows
 induction rows with
 | nil=>intro _;simp
 | cons r rows ih =>
  intro h;have h0:=h 0 (by simp);have:=ih fun i hi=>h (i+1) (by simpa using hi);simp only[P1]at h0;simp only[List.flatten_cons,List.length_append,List.length_cons,this,h0,Sh];omega
theorem DN {α:Type}{z:Nat}:∀ {rows:List (List α)},(∀ i (h:i<rows.length),rows[i].length=z)->∀ i j (hi:i<rows.length) (hj:j<z),rows.flatten[i*z+j]?=(rows[i])[j]?:=by
 intro rows
 induction rows with
 | nil=>intro _ i j hi;exact absurd hi (PL _)
 | cons r rows ih =>
  intro h i j hi hj;have h0:=h 0 (by simp);simp only[P1]at h0;cases i with
  | zero=>simp only[List.flatten_cons,P1,QW,Nat.zero_add];rw[PN (by omega)]
  | succ i =>
   simp only[List.flatten_cons,QC];rw[PI (by rw[h0,Sh];omega),<- ih (fun i hi=>h (i+1) (by simpa using hi)) i j (by simpa using hi) hj];congr 1;rw[h0,Sh];omega
def yz (φ:DataW H->List AVal->Prop)(ds:List (DataW H))(rows:List (List AVal)):Prop:=ds.length=rows.length/\∀ i (h:i<rows.length) (h':i<ds.length),φ ds[i] rows[i]
theorem yA {t e:TypeId}{φ:DataW H->List AVal->Prop}(ht:P.underlying t=some (.slice e))(hz:0<P.cellsOf e)(he:eP enc P W spare held e φ):
  eP enc P W spare held t fun d as=>(d=.nil/\as=[.vec 0 []])\/∃ ds rest rows,d=.slice ds rest/\as=[.vec rows.length rows.flatten]/\yz φ ds rows/\(∀ i (h:i<rows.length),rows[i].length=P.cellsOf e)/\rows.length<=maxLen:=by
 intro fuel cs x h;rcases DataW.trod_slice ht h with ⟨rfl,rfl⟩|⟨a,len,cap,elems,rest,n,rfl,rfl,rfl,_,hl,hm,hlen,hel,_,_⟩
 ·exact⟨_,.one (.vec0 _ _),.inl ⟨rfl,rfl⟩⟩
 have hrow:∀ i,i<len->∃ p:List Value × List AVal,W.cells? 0 (a.add (i*P.cellsOf e)) (P.cellsOf e)=some p.1/\fT P W p.2 p.1/\∃ x,elems[i]?=some x/\φ x.1 p.2:=by
  intro i hi;have:=hel i hi;rw[Pr (by omega),Pu]at this;obtain⟨cs,hc,hx⟩:=this;obtain⟨as,ha,hφ⟩:=he _ _ _ hx;exact⟨(cs,as),hc,ha,_,Pr (by omega),hφ⟩
 obtain⟨l,hll,hQ⟩:=yy len hrow;have hzr:∀ i (h:i<(l.map Prod.snd).length),(l.map Prod.snd)[i].length=P.cellsOf e:=by
  intro i h;simp only[Px]at h;simp only[PB];obtain⟨hc,hr,_⟩:=hQ i h;rw[<- hr.1];exact(World.cells?_some hc).2.1
 have hzc:∀ i (h:i<(l.map Prod.fst).length),(l.map Prod.fst)[i].length=P.cellsOf e:=by
  intro i h;simp only[Px]at h;simp only[PB];exact(World.cells?_some (hQ i h).1).2.1
 refine⟨[.vec (l.map Prod.snd).length (l.map Prod.snd).flatten],.one ?_,.inr ⟨_,_,l.map Prod.snd,rfl,rfl,⟨by simp [hll,hlen],fun i h h'=>?_⟩,hzr,by simp only[Px];omega⟩⟩
 ·rcases RW len with h0|h0
  ·subst h0;obtain rfl:=PG hll;exact .vec0 _ _
  have hrc:fT P W (l.map Prod.snd).flatten (l.map Prod.fst).flatten:=yw (by simp) fun i h h'=>by
   simp only[Px]at h;simp only[PB];exact(hQ i h).2.1
  have hla:(l.map Prod.snd).length=len:=by simp [hll]
  have hsp:∀ i,i<len->∀ j,j<P.cellsOf e->∃ v,W.cell? ((a.add (i*P.cellsOf e)).add j)=some v/\(l.map Prod.fst).flatten[i*P.cellsOf e+j]?=some v:=by
   intro i hi j hj;obtain⟨hc,_⟩:=hQ i (by omega);obtain⟨_,hcl,hcell⟩:=World.cells?_some hc;refine⟨(l[i]'(by omega)).1[j]'(by omega),?_,?_⟩
   ·rw[hcell j hj,Pr]
   ·rw[DN hzc i j (by simp;omega) hj];simp only[PB];rw[Pr]
  have hspot:a.spot=none:=by
   obtain⟨v,hv,_⟩:=hsp 0 h0 0 hz;unfold World.cell? at hv;split at hv
   ·split at hv
    ·cases hv
    ·rename_i hs;simpa [Addr.add] using hs
   ·cases hv
  obtain⟨b,off,spot⟩:=a;simp only at hspot;subst hspot;have hadd:∀ (b off n:Nat),(⟨b,off,none⟩:Addr).add n=⟨b,off+n,none⟩:=by
   intro b off n;unfold Addr.add;by_cases hn:n=0
   ·subst hn;simp
   ·simp [hn]
  have hlt:b<W.heap.size:=by
   obtain⟨v,hv,_⟩:=hsp 0 h0 0 hz;rw[hadd,hadd]at hv;unfold World.cell? at hv;rcases PR b W.heap.size with h|h
   ·exact h
   ·rw[Qw h]at hv;cases hv
  rw[hla];refine .vec (xI b) hlt hl hrc.1 (fun i hi=>?_) fun i h h'=>hrc.2 i h h';have hlc:=DM hzc;simp only[Px,hll]at hlc;have hi':i<len*P.cellsOf e:=by omega
  obtain⟨v,hv,hg⟩:=hsp (i / P.cellsOf e) (Nat.div_lt_of_lt_mul (by rw[Q9];exact hi')) (i % P.cellsOf e) (R7 _ hz);have hdm:i / P.cellsOf e*P.cellsOf e+i % P.cellsOf e=i:=by rw[Q9];exact Q2 _ _
  rw[hdm]at hg;rw[Pr hi]at hg;rw[Option.some.inj hg,<- hv,hadd,hadd];congr 2;omega
 ·simp only[Px]at h h';obtain⟨_,_,y,hy,hφ⟩:=hQ i h;simp only[PB];rw[Pr h']at hy;rw[Option.some.inj hy];exact hφ
theorem pn {t:TypeId}{fs:Array Field}{φ:Nat->DataW H->List AVal->Prop}(ht:P.underlying t=some (.struct fs))
  (hlay:∀ cs:List Value,cs.length=P.cellsOf t->(fs.toList.map fun f=>(cs.drop f.offset).take (P.cellsOf f.type)).flatten=cs)
  (he:∀ i (h:i<fs.size),eP enc P W spare held fs[i].type (φ i)):
  eP enc P W spare held t fun d as=>∃ (ds:List (DataW H)) (rows:List (List AVal)),d=.agg ds/\as=rows.flatten/\ds.length=fs.size/\rows.length=fs.size/\∀ i (h:i<rows.length) (h':i<ds.length),φ i ds[i] rows[i]:=by
 intro fuel cs x h;obtain⟨xs,m,rfl,rfl,hcl,hxl,hel⟩:=DataW.trod_struct ht h;have hrow:∀ i,i<fs.size->∃ as:List AVal,(∀ h:i<fs.size,fT P W as ((cs.drop fs[i].offset).take (P.cellsOf fs[i].type)))/\∃ x,xs[i]?=some x/\φ i x.1 as:=by
  intro i hi;have:=hel i fs[i] (PA hi);rw[Pr (by omega)]at this;obtain⟨as,ha,hφ⟩:=he i hi _ _ _ this;exact⟨as,fun _=>ha,_,Pr (by omega),hφ⟩
 obtain⟨l,hll,hQ⟩:=yy fs.size hrow;refine⟨l.flatten,?_,_,l,rfl,rfl,by simp [hxl],hll,fun i h h'=>?_⟩
 ·rw[<- hlay cs hcl];refine yw (by simp [hll]) fun i h h'=>?_;simp only[PB,Qi];exact(hQ i h).1 (by omega)
 ·obtain⟨_,y,hy,hφ⟩:=hQ i h;simp only[Px]at h';simp only[PB];rw[Pr h']at hy;rw[Option.some.inj hy];exact hφ
end Go.Hx
namespace Go.Hx
variable {P:Program} {G:Nat->Option (List AVal)} {H:AHeap}
theorem Iq (l:List AVal)(i:Nat):jE (.tup l) i=l[i]?:=rfl
theorem Ir (cells:List AVal)(off:Nat):iz H (.vptr cells off)=some (.vptr cells off):=rfl
theorem Is (id gen off:Nat):iz H (.ptr id gen off)=(H.live id gen).map fun _=>.ptr id gen off:=by
 simp only[iz]
theorem It (t:TypeId)(f:Nat)(id gen off:Nat):nf P H t f (.ptr id gen off)=(bE P t f).bind fun of=>(H.live id gen).map fun _=>.ptr id gen (off+of.1):=rfl
theorem Iu (t:TypeId)(f:Nat)(cells:List AVal)(off:Nat):nf P H t f (.vptr cells off)=(bE P t f).bind fun of=>some (.vptr cells (off+of.1)):=rfl
def cY (H:AHeap)(L:List Blk)(e:TypeId)(lo hi:Nat)(v:AVal)(cs:List AVal):Prop :=
 (v=.lit (.slice none 0 0)/\cs=[])\/∃ i g,lo<=i/\i<hi/\v=.own (H.next+i) g 0 cs.length 1/\L[i]?=some (.arr g e cs)
theorem cY.nil {L:List Blk}{e:TypeId}{lo hi:Nat}:cY H L e lo hi (.lit (.slice none 0 0)) []:=.inl ⟨rfl,rfl⟩
theorem cY.keep {L L':List Blk}{e:TypeId}{lo hi lo' hi':Nat}{v:AVal}{cs:List AVal}(h:cY H L e lo hi v cs)(hl:lo'<=lo)(hh:hi<=hi')(hk:∀ i g,lo<=i->i<hi->L[i]?=some (.arr g e cs)->L'[i]?=L[i]?):
  cY H L' e lo' hi' v cs:=by
 rcases h with h|⟨i,g,h1,h2,h3,h4⟩
 ·exact .inl h
 ·exact .inr ⟨i,g,by omega,by omega,h3,by rw[hk i g h1 h2 h4];exact h4⟩
theorem cY.fz {S:Nat->Prop}{L:List Blk}{e:TypeId}{lo hi:Nat}{v:AVal}{cs cs':List AVal}{nx:Nat}(h:cY H L e lo hi v cs)(hS:∀ i,S (H.next+i))(hl:cs'.length=cs.length)
  (hc:∀ i (h:i<cs.length) (h':i<cs'.length),Fz S (ext H L) nx cs[i] cs'[i]):Fz S (ext H L) nx v (.vec cs'.length cs'):=by
 rcases h with ⟨rfl,rfl⟩|⟨i,g,_,_,rfl,h4⟩
 ·obtain rfl:=PG hl;exact .nil
 ·rw[hl];have hi:i<L.length:=by
   rcases PR i L.length with h'|h'
   ·exact h'
   ·rw[PD h']at h4;cases h4
  refine .frz (hS i) (by rw[aY H L i hi];exact h4) (by omega) fun j hj h2 h'=>?_;simp only[Nat.zero_add]at h2 ⊢;exact hc j h2 h'
end Go.Hx
namespace Go.Hx
variable {P:Program} {G:Nat->Option (List AVal)} {H:AHeap}
def uQ (P:Program)(s d:TypeId)(x:Bool)(y:Option TypeDesc)(v:AVal):Option AVal :=
 if x=true then (match y,v with
  | some (.int k'),.lit (.int _ a)=>some (.lit (.int k' (k'.wrap a)))
  | _,_=>iW P s d v) else iW P s d v
theorem Iv (s d:TypeId)(v:AVal):iW P s d v=uQ P s d (P.underlying s).isSome (P.underlying d) v:=by
 unfold uQ;split
 ·rename_i hs;split
  ·rename_i k' k a hd;exact FJ hs hd
  ·rfl
 ·rfl
theorem Iw (s d:TypeId)(k k':IntKind)(a:Int):uQ P s d true (some (.int k')) (.lit (.int k a))=some (.lit (.int k' (k'.wrap a))):=rfl
def zk (P:Program)(d:Option TypeDesc)(cells:List AVal)(i:Int):Option AVal:=match d with
 | some (.array n e)=>if 0<=i/\i<(n:Int) then dS P e cells (i.toNat*P.cellsOf e) else none
 | _=>none
theorem Ix (t:TypeId)(cells:List AVal)(k:IntKind)(i:Int):oS P t (.agg cells) (.lit (.int k i))=zk P (P.underlying t) cells i:=rfl
theorem Iy (n:Nat)(e:TypeId)(cells:List AVal)(i:Int):zk P (some (.array n e)) cells i=if 0<=i/\i<(n:Int) then dS P e cells (i.toNat*P.cellsOf e) else none:=rfl
theorem aj {id g:Nat}{e:TypeId}{c:List AVal}(h:H.get id=some (.arr g e c)):H.live id g=some (e,c):=by
 unfold AHeap.live;rw[h];simp
theorem aC (a:Nat)(x:Blk):(H.upd a x).next=H.next:=rfl
theorem dF {L:List Blk}{id g:Nat}(h:id<H.next):(ext H L).live id g=H.live id g:=by
 unfold AHeap.live;rw[bY H L id h]
def lG (H:AHeap)(L:List Blk)(e1 e0:TypeId)(v:AVal)(rows:List (List AVal)):Prop :=
 ∃ cs:List AVal,cY H L e1 0 L.length v cs/\cs.length=rows.length/\∀ (j:Nat) (r:List AVal) (c:AVal),rows[j]?=some r->cs[j]?=some c->cY H L e0 0 L.length c r
theorem lG.nil {L:List Blk}{e1 e0:TypeId}:lG H L e1 e0 (.lit (.slice none 0 0)) []:=⟨[],.nil,rfl,fun j r c h=>by simp at h⟩
theorem cY.lt {L:List Blk}{e:TypeId}{lo hi i g n z:Nat}{cs:List AVal}(h:cY H L e lo hi (.own (H.next+i) g 0 n z) cs):i<L.length/\L[i]?=some (.arr g e cs)/\n=cs.length/\z=1:=by
 rcases h with ⟨h,_⟩|⟨j,g2,_,_,h3,h4⟩
 ·cases h
 ·have:=AVal.own.inj h3;obtain rfl:i=j:=by omega
  obtain⟨_,rfl,_,rfl,rfl⟩:=this;refine⟨?_,h4,rfl,rfl⟩;rcases PR i L.length with h|h
  ·exact h
  ·rw[PD h]at h4;cases h4
theorem cY.uR {L L':List Blk}{e e':TypeId}{lo hi lo' hi':Nat}{v u:AVal}{cs cs':List AVal}(hv:cY H L e lo hi v cs)(hu:cY H L e' lo' hi' u cs')(hne:e≠e')(hh:hi'<=L.length)
  (hp:∀ k,k<L.length->(∀ g n,v≠.own (H.next+k) g 0 n 1)->L'[k]?=L[k]?):cY H L' e' lo' hi' u cs':=by
 refine hu.keep (Nat.le_refl _) (Nat.le_refl _) fun i g h1 h2 h3=>hp i (by omega) fun g' n he=>?_;rcases hv with ⟨rfl,_⟩|⟨j,g2,_,_,rfl,h4⟩
 ·cases he
 ·have hj:j=i:=by
   have:=AVal.own.inj he;omega
  subst hj;rw[h3]at h4;cases h4;exact hne rfl
theorem cY.lf {L:List Blk}{e:TypeId}{lo hi:Nat}{v:AVal}{cs:List AVal}(hv:cY H L e lo hi v cs):v.one=true:=by
 rcases hv with ⟨rfl,_⟩|⟨_,_,_,_,rfl,_⟩<;>rfl
theorem cY.jN {L:List Blk}{e:TypeId}{lo hi:Nat}{v:AVal}{cs:List AVal}(hv:cY H L e lo hi v cs):v.cells=[v]:=by
 rcases hv with ⟨rfl,_⟩|⟨_,_,_,_,rfl,_⟩<;>rfl
theorem cY.other {L L':List Blk}{e e':TypeId}{lo hi lo' hi':Nat}{v u:AVal}{cs cs':List AVal}(hv:cY H L e lo hi v cs)(hu:cY H L e' lo' hi' u cs')(hne:e≠e')(hh:hi'<=L.length)
  (hp:∀ k,k<L.length->(∀ g n,v≠.own (H.next+k) g 0 n 1)->L'[k]?=L[k]?):cY H L' e' lo' hi' u cs':=hv.uR hu hne hh hp
theorem cY.one {L:List Blk}{e:TypeId}{lo hi:Nat}{v:AVal}{cs:List AVal}(hv:cY H L e lo hi v cs):v.one=true:=hv.lf
theorem cY.cells {L:List Blk}{e:TypeId}{lo hi:Nat}{v:AVal}{cs:List AVal}(hv:cY H L e lo hi v cs):v.cells=[v]:=hv.jN
theorem lG.keep {L L':List Blk}{e1 e0:TypeId}{v:AVal}{rows:List (List AVal)}(h:lG H L e1 e0 v rows)(hl:L.length<=L'.length)(hk:∀ i,i<L.length->L'[i]?=L[i]?):lG H L' e1 e0 v rows:=by
 obtain⟨cs,c1,c2,c3⟩:=h;exact⟨cs,c1.keep (Nat.le_refl _) hl fun i _ _ hi _=>hk i hi,c2,fun j r c hr hc=>(c3 j r c hr hc).keep (Nat.le_refl _) hl fun i _ _ hi _=>hk i hi⟩
theorem lG.fz {S:Nat->Prop}{L:List Blk}{e1 e0:TypeId}{v:AVal}{rows rows':List (List AVal)}{nx:Nat}(h:lG H L e1 e0 v rows)(hS:∀ i,S (H.next+i))(hl:rows'.length=rows.length)
  (hr:∀ (j:Nat) (r r':List AVal),rows[j]?=some r->rows'[j]?=some r'->r'.length=r.length/\∀ i (h:i<r.length) (h':i<r'.length),Fz S (ext H L) nx r[i] r'[i]):
  Fz S (ext H L) nx v (.vec rows'.length (rows'.map fun r=>.vec r.length r)):=by
 obtain⟨cs,h1,h2,h3⟩:=h;have:=h1.fz (S:=S) (nx:=nx) (cs':=rows'.map fun r=>.vec r.length r) hS (by simp [h2,hl]) fun i hi hi'=>by
  simp only[PB];have hi2:i<rows.length:=by omega
  have hi3:i<rows'.length:=by omega
  obtain⟨a1,a2⟩:=hr i rows[i] rows'[i] (Pr hi2) (Pr hi3);exact(h3 i rows[i] cs[i] (Pr hi2) (Pr hi)).fz (S:=S) (nx:=nx) (cs':=rows'[i]) hS a1 a2
 rw[Px]at this;exact this
theorem i9 (H:AHeap)(L L':List Blk):ext (ext H L) L'=ext H (L++L'):=by
 unfold ext;simp only[List.length_append];congr 1
 ·funext j
  by_cases h1:H.next+L.length<=j/\j<H.next+L.length+L'.length
  ·rw[Pv h1,Pv (by omega),PI (by omega)];congr 1;omega
  ·rw[Pt h1];by_cases h2:H.next<=j/\j<H.next+L.length
   ·rw[Pv h2,Pv (by omega),PN (by omega)]
   ·rw[Pt h2,Pt (by omega)]
 ·omega
theorem Iz (t:TypeId)(id g o l z:Nat):iD P t (.own id g o l z)=if jK (P.underlying t)=true then [id] else []:=by
 unfold iD;cases h:P.underlying t with
 | none=>rfl
 | some d=>cases d<;>rfl
structure Over (H H2:AHeap):Prop where
 next:H.next<=H2.next
 old:∀ id,id<H.next->H2.get id=H.get id
theorem Over.refl (H:AHeap):Over H H:=⟨Nat.le_refl _,fun _ _=>rfl⟩
theorem Over.trans {H H2 H3:AHeap}(a:Over H H2)(b:Over H2 H3):Over H H3 :=
 ⟨PY a.next b.next,fun id h=>(b.old id (PE h a.next)).trans (a.old id h)⟩
theorem Over.ext (H:AHeap)(L:List Blk):Over H (ext H L):=⟨by simp [bb],fun id h=>bY H L id h⟩
theorem IA {H H2:AHeap}(hc:Clo H)(ho:Over H H2):FzH (fun id=>H.next<=id) H2 H where
 gone id hs:=by
  cases h:H.get id with
  | none=>rfl
  | some b=>have:=hc.lt id b h;omega
 kept id b hs hb:=by
  have hlt:id<H.next:=Rv hs;rw[ho.old id hlt]at hb;have hbb:=hc.below id b hb;refine⟨hlt,b,hb,?_⟩;have hno:∀ i,i<H.next->¬ H.next<=i:=fun i h=>Nat.not_le_of_lt h;cases b with
  | rsv=>trivial
  | mp=>rfl
  | arr g e cells=>exact⟨rfl,rfl,rfl,fun i h _=>.refl (hbb i h) hno⟩
  | loop st pend n env ps asg body=>exact⟨rfl,rfl,rfl,rfl,rfl,rfl,rfl,fun t ht=>.refl (hbb t ht) hno⟩
 none id hs hb:=by
  rw[ho.old id (Rv hs)]at hb;exact hb
theorem av.bq {H2:AHeap}(hG:eD G)(hc:Clo H)(ho:Over H H2){K:ARes->AHeap->Prop}{v v':AVal}(hv:Fz (fun id=>H.next<=id) H2 H.next v v')(hk:K (.ret v') H):av P G H K v H2 :=
 ⟨v',H,.freeze hG (IA hc ho) hv,Nat.le_refl _,hk⟩
theorem Fz.old {H H2:AHeap}{nx:Nat}{v:AVal}(h:Below H.next v)(hn:H.next<=nx):Fz (fun id=>H.next<=id) H2 nx v v:=by
 induction h with
 | lit v=>exact .lit v
 | vec _ ih=>exact .vec rfl fun i h _=>ih i h
 | vptr _ ih=>exact .vptr rfl fun i h _=>ih i h
 | agg _ ih=>exact .agg rfl fun i h _=>ih i h
 | tup _ ih=>exact .tup rfl fun i h _=>ih i h
 | clo _ _ ih1 ih2=>exact .clo rfl rfl (fun i h _=>ih1 i h) fun i h _=>ih2 i h
 | own h=>exact .own (by omega) (by omega)
 | ptr h=>exact .ptr (by omega) (by omega)
 | yld h=>exact .yld (by omega) (by omega)
theorem Fz.put {S:Nat->Prop}{H:AHeap}{nx d:Nat}{ρ ρ':Env}{v v':AVal}(h:∀ t,Fz S H nx (ρ t) (ρ' t))(hv:Fz S H nx v v'):∀ t,Fz S H nx (aE ρ (some d) v t) (aE ρ' (some d) v' t):=by
 intro t;simp only[aE];split
 ·exact hv
 ·exact h t
theorem Fz.ay {S:Nat->Prop}{H:AHeap}{nx:Nat}(rows:List (List Int)):Fz S H nx (.vec rows.length (rows.map ae)) (.vec rows.length (rows.map ae)) :=
 .vec rfl fun i h _=>by simp only[PB];exact .dm _
theorem Fz.env {S:Nat->Prop}{H:AHeap}{nx:Nat}{args args':List AVal}(hl:args'.length=args.length)(h:∀ i (h:i<args.length) (h':i<args'.length),Fz S H nx args[i] args'[i]):∀ t,Fz S H nx (fB args t) (fB args' t):=by
 intro t;rw[uE,uE];by_cases ht:t<args.length
 ·rw[Pr ht,Pr (by omega)];exact h t ht (by omega)
 ·rw[PD (by omega),PD (by omega)];exact .lit _
end Go.Hx
namespace Go.Hx
open Go.ChangeShapes Go.WideShapes Go.RowKit
variable {P:Program} {W:World} {H:Type} {enc:TypeId × Value->H} {spare:Nat->Bool} {held:Bool}
theorem eP.mono {t:TypeId}{φ ψ:DataW H->List AVal->Prop}(h:eP enc P W spare held t φ)(hm:∀ d as,φ d as->ψ d as):eP enc P W spare held t ψ:=fun fuel cs x hx =>
 let ⟨as,h1,h2⟩:=h fuel cs x hx;⟨as,h1,hm _ _ h2⟩
def po (k:IntKind)(l:List Int):List AVal:=l.map fun n=>.lit (.int k n)
theorem yB {α:Type}{φ:DataW H->List AVal->Prop}{f:α->List AVal}{q:α->Prop}(hφ:∀ d as,φ d as->∃ a,as=f a/\q a):∀ {rows:List (List AVal)} {ds:List (DataW H)},yz φ ds rows ->
  ∃ l:List α,rows=l.map f/\∀ a,a∈l->q a:=by
 intro rows
 induction rows with
 | nil=>intro ds _;exact⟨[],rfl,fun a h=>by cases h⟩
 | cons r rows ih =>
  intro ds h;obtain⟨h1,h2⟩:=h;cases ds with
  | nil=>simp at h1
  | cons d ds =>
   obtain⟨a,ha,hq⟩:=hφ _ _ (h2 0 (by simp) (by simp));obtain⟨l,hl,hq2⟩:=ih (ds:=ds) ⟨by simpa using h1,fun i hi hi'=>h2 (i+1) (by simpa using hi) (by simpa using hi')⟩;refine⟨a :: l,by simp only[List.map_cons,<- hl];simp only[P1]at ha;rw[ha],fun b hb=>?_⟩;rcases List.mem_cons.1 hb with rfl|hb
   ·exact hq
   ·exact hq2 b hb
theorem DO {α β:Type}(f:α->β)(l:List α):(l.map fun a=>[f a]).flatten=l.map f:=by
 induction l with
 | nil=>rfl
 | cons a l ih=>simp only[List.map_cons,List.flatten_cons,ih];rfl
theorem qT {t e:TypeId}{k:IntKind}(ht:P.underlying t=some (.slice e))(he:P.underlying e=some (.int k))(hc:P.cellsOf e=1):
  eP enc P W spare held t fun _ as=>∃ l:List Int,as=[.vec l.length (po k l)]/\l.length<=maxLen/\∀ c,c∈l->(Lit.int k c).wf=true :=
 (yA ht (by omega) (iC he)).mono fun d as h=>by
  rcases h with ⟨_,rfl⟩|⟨ds,rest,rows,_,rfl,hr,_,hl⟩
  ·exact⟨[],rfl,by decide,fun c h=>by cases h⟩
  ·obtain⟨l,rfl,hq⟩:=yB (f:=fun n=>[AVal.lit (.int k n)]) (q:=fun n=>(Lit.int k n).wf=true) (fun d as ⟨n,_,h2,h3⟩=>⟨n,h2,h3⟩) hr;refine⟨l,?_,by simpa using hl,hq⟩;rw[Px];congr 2;exact DO _ l
theorem yC {r:Reach}{b:Nat}{t:TypeId}{v:Value}{d:DataW H}{ps:List MemPlace}{φ:DataW H->List AVal->Prop}(hop:eP enc P W spare held t φ)
  (ht:(∃ fs,P.underlying t=some (.struct fs))\/∃ n e,P.underlying t=some (.array n e)) (hval:Value.okWide P W r b t v) (hd:DataW.Trod enc P W 0 spare held t v d ps):
  ∃ as,RelV P iu cF W (.agg as) v/\φ d as:=by
 obtain⟨cs,rfl⟩:∃ cs,v=.agg cs:=by
  unfold Value.okWide at hval;rcases ht with ⟨fs,ht⟩|⟨n,e,ht⟩
  ·rw[ht]at hval;obtain⟨cs,h,_⟩:=hval;exact⟨cs,h⟩
  ·rw[ht]at hval;obtain⟨cs,h,_⟩:=hval;exact⟨cs,h⟩
 obtain⟨fuel,hf⟩:=hd;obtain⟨as,hr,hφ⟩:=hop _ _ _ hf;refine⟨as,?_,hφ⟩;have:=RelV.agg (P:=P) (Γ:=iu) (H:=cF) (w:=W) (cells:=as) (cs:=cs.toList) hr.1 hr.2;simpa using this
theorem wf_u8 {n:Int}(h:(Lit.int .u8 n).wf=true):0<=n/\n<=255:=by
 simpa [Lit.wf,IntKind.min,IntKind.max,IntKind.signed,IntKind.bits] using h
end Go.Hx
namespace Go.Hx
attribute [go_sem] List.replicate_one List.flatten_cons List.flatten_nil List.length_append List.append_nil Nat.sub_zero Bool.not_true Bool.not_false
attribute [go_sem] Bool.true_eq_false List.map_eq_nil_iff zc Int.le_refl decide_true decide_false eq_self List.getElem?_map
attribute [go_sem] Ej Ek El Em En Eo Ep Er
attribute [go_sem] Es Et Eu Ew Ey Ex Ez EA
attribute [go_sem] EB EC ED EF D5 D6 D7 D8
attribute [go_sem] D9 Ea Eb Ec Ed Ee Ef Eg
attribute [go_sem] Eh Ei lz q6 uD fg yH D0
attribute [go_sem] D1 ER ES FT FO FQ FR FS
attribute [go_sem] List.getElem?_toArray Option.bind_some FU FV FW FX FY FZ
attribute [go_sem] F1 F4 F5 F6 F7 F8 F9 Ga
attribute [go_sem] Gb Gc Gd Ge Gf Gg Gh Gi
attribute [go_sem] Gj Gk Gl Gm Gn GS uK GT
attribute [go_sem] GU GV zh GW GX GY GZ G1
attribute [go_sem] G2 G3 G4 G5 G6 G7 G8 List.set_cons_zero
attribute [go_sem] List.set_cons_succ G9 Hd Hf Hg Hh Hl Ho
attribute [go_sem] Ht Hv HA HB HC HD HE HF
attribute [go_sem] HG HH HI HJ HK HL HM
attribute [go_sem] pD uN HN HO HP HQ HR
attribute [go_sem] HS HT HU HV HW HX HY HZ
attribute [go_sem] H7 H8 H9 Ia Ib Ic Ie If
attribute [go_sem] Ig Ih Ii Ij Ik Il Im Io
attribute [go_sem] Ip fU aS aa Int.toNat_natCast Int.natCast_nonneg ae List.all_cons
attribute [go_sem] List.all_nil Bool.and_true Nat.mul_one Gp Gq Gr Gs Gt
attribute [go_sem] Gu Gv Gw Gx Gy Gz
attribute [go_sem] GB GC GF GE
attribute [go_sem] GG GH GI GJ List.take_succ_cons List.take_zero
attribute [go_sem] List.take_nil List.drop_succ_cons List.drop_zero List.drop_nil List.forall_mem_cons List.not_mem_nil List.mem_cons List.mem_singleton
attribute [go_sem] or_false false_or or_true true_or not_or false_implies implies_true forall_const
attribute [go_sem] EV EW EX EY EZ Fa Fb Fc
attribute [go_sem] Fe Ff Fg Fh Fi Fj Fk Fl
attribute [go_sem] Fm Fo Fp Fq Fs Bool.false_eq_true Ft Fu
attribute [go_sem] Fv Fw Fx Fy FA FB
attribute [go_sem] FC FD builtin_len builtin_append builtin_copy builtin_min builtin_max yK
attribute [go_sem] yL yM FE FF yO yQ yR yS
attribute [go_sem] yT yU FG bb q8 yV FK yX
attribute [go_sem] FM yW FN FL List.map_cons List.map_nil if_true if_false
attribute [go_sem] ne_eq not_false_eq_true not_true_eq_false true_and and_true false_and and_false List.length_cons
attribute [go_sem] List.length_nil Nat.zero_add Nat.add_zero Option.isSome_some List.append_assoc List.cons_append List.nil_append Option.map_some
attribute [go_sem] Option.map_none dL uE List.getElem?_cons_zero List.getElem?_cons_succ List.getElem?_nil Option.getD_some Option.getD_none
attribute [go_sem] EG EI EJ EK EL EM EN EO
attribute [go_sem] Iq Ir Is Int.natCast_zero Int.cast_ofNat_Int Ix Iy Iz
attribute [go_sem] FH FI Iv Iw It Iu aW Nat.le_refl
end Go.Hx
namespace Go.Hx
variable {P:Program} {G:Nat->Option (List AVal)} {H H':AHeap}
def AHeap.cut (H:AHeap)(n:Nat):AHeap:=⟨fun j=>if j<n then H.get j else none,H.next⟩
theorem rD {n id:Nat}(h:id<n):(H.cut n).get id=H.get id:=by simp [AHeap.cut,h]
theorem IB {n id:Nat}(h:n<=id):(H.cut n).get id=none:=by simp [AHeap.cut,Nat.not_lt.2 h]
theorem Over.cut {B:AHeap}(h:Over B H):Over B (H.cut B.next):=⟨h.next,fun id hi=>(rD hi).trans (h.old id hi)⟩
open Classical in
theorem Fz.dead {S:Nat->Prop}{H:AHeap}{nx:Nat}{v:AVal}(h:Below nx v):Fz S H nx v v:=by
 induction h with
 | lit v=>exact .lit v
 | vec _ ih=>exact .vec rfl fun i h _=>ih i h
 | vptr _ ih=>exact .vptr rfl fun i h _=>ih i h
 | agg _ ih=>exact .agg rfl fun i h _=>ih i h
 | tup _ ih=>exact .tup rfl fun i h _=>ih i h
 | clo _ _ ih1 ih2=>exact .clo rfl rfl (fun i h _=>ih1 i h) fun i h _=>ih2 i h
 | @own id _ _ _ _ h=>by_cases hs:S id;exact .deadOwn h hs;exact .own h hs
 | @ptr id _ _ h=>by_cases hs:S id;exact .deadPtr h hs;exact .ptr h hs
 | @yld id h=>by_cases hs:S id;exact .deadYld h hs;exact .yld h hs
theorem zl (hc:Clo H)(n:Nat):FzH (fun id=>n<=id) H (H.cut n) where
 gone id hs:=IB hs
 kept id b hs hb:=by
  have hlt:id<n:=Rv hs;have hbb:=hc.below id b hb;refine⟨hc.lt id b hb,b,by rw[rD hlt];exact hb,?_⟩;cases b with
  | rsv=>trivial
  | mp=>rfl
  | arr g e cells=>exact⟨rfl,rfl,rfl,fun i h _=>.dead (hbb i h)⟩
  | loop st pend n env ps asg body=>exact⟨rfl,rfl,rfl,rfl,rfl,rfl,rfl,fun t ht=>.dead (hbb t ht)⟩
 none id hs hb:=by rw[rD (Rv hs)];exact hb
theorem ab.uS {f:FuncId}{args args':List AVal}{K:ARes->AHeap->Prop}(n:Nat)(hG:eD G)(hl:args'.length=args.length)(hv:∀ i (h:i<args.length) (h':i<args'.length),Fz (fun id=>n<=id) H H.next args[i] args'[i])
  (h:ab P G f args' (H.cut n) K):ab P G f args H K:=by
 refine⟨h.1,fun Γ w cargs R hr=>?_⟩;have F:=zl R.clo n;have R0:=F.rel hG R;have E0:Evo Γ H w (ef (fun id=>n<=id) Γ) (H.cut n) w:=F.aQ;refine(h.2 _ w cargs R0 ⟨by have:=hr.1;omega,fun i h1 h2=>(hv i (by omega) h1).sound R F (hr.2 i (by omega) h2)⟩).mono ?_;rintro e w' ⟨r,H',Γ',h1,h2,h3,h4,h5⟩;exact⟨r,H',Γ',h1,h2,h3,E0.trans (Nat.le_refl _) h4,h5⟩
theorem az.uS {f:FuncId}{args args':List AVal}{K:ARes->AHeap->Prop}(n:Nat)(hG:eD G)(hl:args'.length=args.length)(hv:∀ i (h:i<args.length) (h':i<args'.length),Fz (fun id=>n<=id) H H.next args[i] args'[i])
  (h:ab P G f args' (H.cut n) K):az P G (.clo f [] []) args H K:=by
 refine az.clo (by simpa using ab.uS n hG hl hv h)
def aA (lo:Nat)(H:AHeap)(e:TypeId)(v:AVal)(cs:List AVal):Prop :=
 (v=.lit (.slice none 0 0)/\cs=[])\/∃ id g,lo<=id/\id<H.next/\v=.own id g 0 cs.length 1/\H.get id=some (.arr g e cs)
theorem aA.nil {lo:Nat}{e:TypeId}:aA lo H e (.lit (.slice none 0 0)) []:=.inl ⟨rfl,rfl⟩
theorem aA.keep {lo lo':Nat}{e:TypeId}{v:AVal}{cs:List AVal}(h:aA lo H e v cs)(hl:lo'<=lo)(hn:H.next<=H'.next)(hk:∀ id g,lo<=id->id<H.next->H.get id=some (.arr g e cs)->v=.own id g 0 cs.length 1->H'.get id=H.get id):aA lo' H' e v cs:=by
 rcases h with h|⟨id,g,h1,h2,h3,h4⟩
 ·exact .inl h
 ·exact .inr ⟨id,g,by omega,by omega,h3,by rw[hk id g h1 h2 h4 h3];exact h4⟩
theorem aA.over {lo:Nat}{e:TypeId}{v:AVal}{cs:List AVal}(h:aA lo H e v cs)(ho:Over H H'):aA lo H' e v cs:=h.keep (Nat.le_refl _) ho.next fun id _ _ h2 _ _=>ho.old id h2
theorem aA.one {lo:Nat}{e:TypeId}{v:AVal}{cs:List AVal}(h:aA lo H e v cs):v.one=true:=by
 rcases h with ⟨rfl,_⟩|⟨_,_,_,_,rfl,_⟩<;>rfl
theorem aA.cells {lo:Nat}{e:TypeId}{v:AVal}{cs:List AVal}(h:aA lo H e v cs):v.cells=[v]:=by
 rcases h with ⟨rfl,_⟩|⟨_,_,_,_,rfl,_⟩<;>rfl
theorem aA.fz {S:Nat->Prop}{lo nx:Nat}{e:TypeId}{v:AVal}{cs cs':List AVal}(h:aA lo H e v cs)(hS:∀ i,lo<=i->S i)(hl:cs'.length=cs.length)
  (hc:∀ i (h:i<cs.length) (h':i<cs'.length),Fz S H nx cs[i] cs'[i]):Fz S H nx v (.vec cs'.length cs'):=by
 rcases h with ⟨rfl,rfl⟩|⟨id,g,h1,_,rfl,h4⟩
 ·obtain rfl:=PG hl;exact .nil
 ·rw[hl];refine .frz (hS id h1) h4 (by omega) fun j hj h2 h'=>?_;simp only[Nat.zero_add]at h2 ⊢;exact hc j h2 h'
theorem aA.ja {S:Nat->Prop}{lo nx:Nat}{e:TypeId}{v:AVal}{l:List Int}(h:aA lo H e v (ints l))(hS:∀ i,lo<=i->S i):Fz S H nx v (ae l):=by
 have:=h.fz (S:=S) (nx:=nx) (cs':=ints l) hS rfl fun i hi _=>by simp only[ints,PB];exact .lit _
 rw[aS]at this;exact this
theorem aA.new {e:TypeId}{cs:List AVal}:aA H.next (ext H [.arr 0 e cs]) e (.own H.next 0 0 cs.length 1) cs :=
 .inr ⟨H.next,0,Nat.le_refl _,by simp [bb],rfl,by simpa using aY H [.arr 0 e cs] 0 (by simp)⟩
theorem eF {b:Blk}{id:Nat}(h:id<H.next):(ext H [b]).get id=H.get id:=bY H [b] id h
theorem cJ {b:Blk}:(ext H [b]).get H.next=some b:=by simpa using aY H [b] 0 (by simp)
theorem rE {n:Nat}{b:Blk}(h:n=H.next):H.lay n b=some (ext H [b]):=by subst h;exact q8 H b
theorem pE {t e:TypeId}{lo n:Nat}{v:AVal}{cs src:List AVal}{z:List AVal}(ht:P.underlying t=some (.slice e))(hz:P.cellsOf e=1)(hzero:bM P e=some z)(hx:src.all AVal.one=true)
  (hb:(cs.length+src.length)*P.bytesOf e<=2 ^ 46/\cs.length+src.length<=2 ^ 46) (ho:aA lo H e v cs) (hlo:lo<=H.next) (hn:n=H.next):
  ∃ v' H',bC P H n t t v (.vec src.length src)=some (v',H')/\aA lo H' e v' (cs++src)/\H.next<=H'.next/\(∀ k,k<H.next->(∀ g n,v≠.own k g 0 n 1)->H'.get k=H.get k):=by
 have hsrc:ct H 1 (.vec src.length src)=some (src.length,src):=by
  unfold ct;simp
 by_cases h0:src.length=0
 ·have e0:src=[]:=PG h0;subst e0;refine⟨v,H,?_,?_,Nat.le_refl _,fun _ _ _=>rfl⟩
  ·rcases ho with ⟨rfl,rfl⟩|⟨i,g,h1,h2,rfl,h4⟩
   ·unfold bC;rw[ht];simp only[hzero,hz,Option.bind_some];rw[hsrc];rfl
   ·unfold bC;rw[ht];have hl:=aj h4;simp only[hzero,hz,Option.bind_some,hsrc,hl];rw[Pv ⟨trivial,trivial,by omega,hb.1,hb.2,rfl⟩];simp
  ·rw[List.append_nil];exact ho
 rcases ho with ⟨rfl,rfl⟩|⟨i,g,h1,h2,rfl,h4⟩
 ·refine⟨.own H.next 0 0 src.length 1,ext H [.arr 0 e src],?_,.inr ⟨H.next,0,hlo,by simp [bb],by simp,by simpa using cJ⟩,by simp [bb],fun k hk _=>eF hk⟩;unfold bC;rw[ht];simp only[hzero,hz,Option.bind_some,hsrc];rw[Pt h0,Pv (by simpa using hb),rE hn,hn];rfl
 ·refine⟨.own i (g+1) 0 (cs.length+src.length) 1,H.upd i (.arr (g+1) e (cs++src)),?_,.inr ⟨i,g+1,h1,h2,by simp,by rw[ag,Pv rfl]⟩,Nat.le_refl _,fun k hk hne=>?_⟩
  ·unfold bC;rw[ht];have hl:=aj h4;simp only[hzero,hz,Option.bind_some,hsrc,hl];rw[Pv ⟨trivial,trivial,by omega,hb.1,hb.2,hx⟩,Pt h0];simp
  ·rw[ag,Pt];rintro rfl;exact hne _ _ rfl
theorem jc {t e:TypeId}{lo n:Nat}{v x:AVal}{cs:List AVal}{z:List AVal}(ht:P.underlying t=some (.slice e))(hz:P.cellsOf e=1)(hzero:bM P e=some z)(hx:x.one=true)
  (hb:(cs.length+1)*P.bytesOf e<=2 ^ 46/\cs.length+1<=2 ^ 46) (ho:aA lo H e v cs) (hlo:lo<=H.next) (hn:n=H.next+1):
  ∃ v' H',bC P (ext H [.arr 0 e [x]]) n t t v (.own H.next 0 0 1 1)=some (v',H')/\aA lo H' e v' (cs++[x])/\H.next<=H'.next/\(∀ k,k<H.next->(∀ g n,v≠.own k g 0 n 1)->H'.get k=H.get k):=by
 have hsrc:ct (ext H [.arr 0 e [x]]) 1 (.own H.next 0 0 1 1)=some (1,[x]):=by
  unfold ct;have:=aj (H:=ext H [.arr 0 e [x]]) (g:=0) (cJ (b:=.arr 0 e [x]));simp [this]
 have hne:(ext H [Blk.arr 0 e [x]]).next=H.next+1:=rfl;rcases ho with ⟨rfl,rfl⟩|⟨i,g,h1,h2,rfl,h4⟩
 ·refine⟨.own (H.next+1) 0 0 1 1,ext (ext H [.arr 0 e [x]]) [.arr 0 e [x]],?_,.inr ⟨H.next+1,0,by omega,by simp [bb],by simp,?_⟩,by simp [bb];omega,fun k hk _=>?_⟩
  ·unfold bC;rw[ht];simp only[hzero,hz,Option.bind_some,hsrc];rw[Pt (by decide),Pv (by simpa using hb),rE (by rw[hn,hne]),hn];rfl
  ·rw[<- hne];exact cJ
  ·rw[eF (by rw[hne];omega),eF hk]
 ·have h4':(ext H [.arr 0 e [x]]).get i=some (.arr g e cs):=by rw[eF h2];exact h4
  refine⟨.own i (g+1) 0 (cs.length+1) 1,(ext H [.arr 0 e [x]]).upd i (.arr (g+1) e (cs++[x])),?_,.inr ⟨i,g+1,h1,by rw[aC,hne];omega,by simp,by rw[ag,Pv rfl]⟩,by rw[aC,hne];omega,fun k hk hne=>?_⟩
  ·unfold bC;rw[ht];have hl:=aj h4';simp only[hzero,hz,Option.bind_some,hsrc,hl];rw[Pv ⟨trivial,trivial,by omega,hb.1,hb.2,by simp [hx]⟩];simp
  ·rw[ag,Pt,eF hk];rintro rfl;exact hne _ _ rfl
def gY (lo:Nat)(H:AHeap)(e1 e0:TypeId)(v:AVal)(rows:List (List AVal)):Prop :=
 ∃ cs:List AVal,aA lo H e1 v cs/\cs.length=rows.length/\∀ (j:Nat) (r:List AVal) (c:AVal),rows[j]?=some r->cs[j]?=some c->aA lo H e0 c r
theorem gY.nil {lo:Nat}{e1 e0:TypeId}:gY lo H e1 e0 (.lit (.slice none 0 0)) []:=⟨[],.nil,rfl,fun j r c h=>by simp at h⟩
theorem gY.over {lo:Nat}{e1 e0:TypeId}{v:AVal}{rows:List (List AVal)}(h:gY lo H e1 e0 v rows)(ho:Over H H'):gY lo H' e1 e0 v rows:=by
 obtain⟨cs,c1,c2,c3⟩:=h;exact⟨cs,c1.over ho,c2,fun j r c hr hc=>(c3 j r c hr hc).over ho⟩
theorem gY.fz {S:Nat->Prop}{lo nx:Nat}{e1 e0:TypeId}{v:AVal}{rows rows':List (List AVal)}(h:gY lo H e1 e0 v rows)(hS:∀ i,lo<=i->S i)(hl:rows'.length=rows.length)
  (hr:∀ (j:Nat) (r r':List AVal),rows[j]?=some r->rows'[j]?=some r'->r'.length=r.length/\∀ i (h:i<r.length) (h':i<r'.length),Fz S H nx r[i] r'[i]):
  Fz S H nx v (.vec rows'.length (rows'.map fun r=>.vec r.length r)):=by
 obtain⟨cs,h1,h2,h3⟩:=h;have:=h1.fz (S:=S) (nx:=nx) (cs':=rows'.map fun r=>.vec r.length r) hS (by simp [h2,hl]) fun i hi hi'=>by
  simp only[PB];have hi2:i<rows.length:=by omega
  have hi3:i<rows'.length:=by omega
  obtain⟨a1,a2⟩:=hr i rows[i] rows'[i] (Pr hi2) (Pr hi3);exact(h3 i rows[i] cs[i] (Pr hi2) (Pr hi)).fz (S:=S) (nx:=nx) (cs':=rows'[i]) hS a1 a2
 rw[Px]at this;exact this
theorem aA.uR {lo lo':Nat}{e e':TypeId}{v u:AVal}{cs cs':List AVal}(hv:aA lo H e v cs)(hu:aA lo' H e' u cs')(hne:e≠e')(hn:H.next<=H'.next)
  (hp:∀ k,k<H.next->(∀ g n,v≠.own k g 0 n 1)->H'.get k=H.get k):aA lo' H' e' u cs':=by
 refine hu.keep (Nat.le_refl _) hn fun i g h1 h2 h3 _=>hp i h2 fun g' n he=>?_;rcases hv with ⟨rfl,_⟩|⟨j,g2,_,_,rfl,h4⟩
 ·cases he
 ·have:=AVal.own.inj he;obtain rfl:j=i:=this.1;rw[h3]at h4;cases h4;exact hne rfl
attribute [go_sem] Int.reduceToNat Int.reduceLE Int.reduceLT Int.reduceAdd Int.reduceSub Int.reduceMul Int.reduceEq Int.reduceNe Nat.reduceEqDiff Nat.reducePow Nat.reduceDiv Nat.reduceMod Nat.reduceAdd Nat.reduceMul Nat.reduceSub Nat.reduceLT Nat.reduceLeDiff reduceIte reduceCtorEq
end Go.Hx
