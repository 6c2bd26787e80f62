/-
  An evaluator of code on abstract states, made for the kernel. Own work: no program stands in this text.
-/
import Derived.Test.YtebhdkihcdmmjaaGreatLibB
import Derived.ProofKit
import Derived.SevenTiedAt
import Derived.RecoverIn
import Derived.MakeChecks
import Derived.OpenShut
set_option linter.all false
namespace Go.Hx
inductive BT (α:Type) where
 |nil
 |node (v:Option α) (l r:BT α)
inductive nnk where
 |O (gen:Nat) (elem:TypeId) (cells:List nnn)
 |loop (st:LoopState) (pend:Option Code) (n:Nat) (env:BT nnn) (ps:Array Tmp) (asg body:Code)
 |mp (es:List (Int × Int))
structure EH where
 hp:BT nnk
 nx:Nat
inductive RR where
 |ev (x:AX) (env:BT nnn) (h:EH)
 |ret (v:nnn) (h:EH)
 |panic (h:EH)
abbrev R:=Option RR
noncomputable def eK:BT nnn->Nat->Option nnn :=
 BT.rec (motive:=fun _=>Nat->Option nnn) (fun _=>none) (fun v _ _ gl gr n =>
  Nat.rec (motive:=fun _=>Option nnn) v (fun m _=>Nat.rec (motive:=fun _=>Option nnn) (gl (Nat.div m 2)) (fun _ _=>gr (Nat.div m 2)) (Nat.mod m 2)) n)
noncomputable def ba:BT nnk->Nat->Option nnk :=
 BT.rec (motive:=fun _=>Nat->Option nnk) (fun _=>none) (fun v _ _ gl gr n =>
  Nat.rec (motive:=fun _=>Option nnk) v (fun m _=>Nat.rec (motive:=fun _=>Option nnk) (gl (Nat.div m 2)) (fun _ _=>gr (Nat.div m 2)) (Nat.mod m 2)) n)
noncomputable def uy:Nat->Nat->nnn->(BT nnn->R)->R :=
 Nat.rec (motive:=fun _=>Nat->nnn->(BT nnn->R)->R) (fun _ _ _=>none) (fun _ ih n x k =>
  Nat.rec (motive:=fun _=>R) (k (.node (some x) .nil .nil)) (fun m _=>Nat.rec (motive:=fun _=>R) (ih (Nat.div m 2) x fun l=>k (.node none l .nil)) (fun _ _=>ih (Nat.div m 2) x fun r=>k (.node none .nil r)) (Nat.mod m 2)) n)
noncomputable def mD:BT nnn->Nat->nnn->(BT nnn->R)->R :=
 BT.rec (motive:=fun _=>Nat->nnn->(BT nnn->R)->R) (uy 20) (fun v l r sl sr n x k =>
  Nat.rec (motive:=fun _=>R) (k (.node (some x) l r)) (fun m _=>Nat.rec (motive:=fun _=>R) (sl (Nat.div m 2) x fun l=>k (.node v l r)) (fun _ _=>sr (Nat.div m 2) x fun r=>k (.node v l r)) (Nat.mod m 2)) n)
noncomputable def uz:Nat->Nat->nnk->(BT nnk->R)->R :=
 Nat.rec (motive:=fun _=>Nat->nnk->(BT nnk->R)->R) (fun _ _ _=>none) (fun _ ih n x k =>
  Nat.rec (motive:=fun _=>R) (k (.node (some x) .nil .nil)) (fun m _=>Nat.rec (motive:=fun _=>R) (ih (Nat.div m 2) x fun l=>k (.node none l .nil)) (fun _ _=>ih (Nat.div m 2) x fun r=>k (.node none .nil r)) (Nat.mod m 2)) n)
noncomputable def gh:BT nnk->Nat->nnk->(BT nnk->R)->R :=
 BT.rec (motive:=fun _=>Nat->nnk->(BT nnk->R)->R) (uz 20) (fun v l r sl sr n x k =>
  Nat.rec (motive:=fun _=>R) (k (.node (some x) l r)) (fun m _=>Nat.rec (motive:=fun _=>R) (sl (Nat.div m 2) x fun l=>k (.node v l r)) (fun _ _=>sr (Nat.div m 2) x fun r=>k (.node v l r)) (Nat.mod m 2)) n)
noncomputable def dx (n:Nat)(k:Nat->R):R:=Nat.rec (motive:=fun _=>R) (k 0) (fun m _=>k (Nat.succ m)) n
noncomputable def n9 (i:Int)(k:Int->R):R:=Int.rec (motive:=fun _=>R) (fun n=>dx n fun n=>k (.ofNat n)) (fun n=>dx n fun n=>k (.negSucc n)) i
noncomputable def yV (b:Bool)(k:Bool->R):R:=Bool.rec (motive:=fun _=>R) (k false) (k true) b
noncomputable def gi:List nnn->(List nnn->R)->R :=
 List.rec (motive:=fun _=>(List nnn->R)->R) (fun k=>k []) (fun x _ ih k=>ih fun l=>k (x :: l))
noncomputable def uA:List (Int × Int)->(List (Int × Int)->R)->R :=
 List.rec (motive:=fun _=>(List (Int × Int)->R)->R) (fun k=>k []) (fun p _ ih k=>Prod.casesOn (motive:=fun _=>R) p fun a b=>n9 a fun a=>n9 b fun b=>ih fun l=>k ((a,b) :: l))
noncomputable def yW (v:Value)(k:Value->R):R:=match v with
 |.int i n=>n9 n fun n=>k (.int i n)
 |.bool b=>yV b fun b=>k (.bool b)
 |v=>k v
noncomputable def yX (v:Value)(k:nnn->R):R:=yW v fun v=>k (.lit v)
noncomputable def yY (n:Nat)(cs:List nnn)(k:nnn->R):R:=dx n fun n=>gi cs fun cs=>k (.L n cs)
noncomputable def yZ (a b c d e:Nat)(k:nnn->R):R:=dx a fun a=>dx b fun b=>dx c fun c=>dx d fun d=>dx e fun e=>k (.Z a b c d e)
noncomputable def y8 (a b c:Nat)(k:nnn->R):R:=dx a fun a=>dx b fun b=>dx c fun c=>k (.Y a b c)
noncomputable def y9 (cs:List nnn)(n:Nat)(k:nnn->R):R:=dx n fun n=>gi cs fun cs=>k (.ni cs n)
noncomputable def za (cs:List nnn)(k:nnn->R):R:=gi cs fun cs=>k (.agg cs)
noncomputable def zc (cs:List nnn)(k:nnn->R):R:=gi cs fun cs=>k (.nc cs)
noncomputable def zd (f:FuncId)(a b:List nnn)(k:nnn->R):R:=dx f fun f=>gi a fun a=>gi b fun b=>k (.nb f a b)
noncomputable def ze (n:Nat)(k:nnn->R):R:=dx n fun n=>k (.nk n)
noncomputable def kK:nnn->(nnn->R)->R:=fun v=>nnn.casesOn (motive_1:=fun _=>(nnn->R)->R) v yX yY yZ y8 y9 za zc zd ze
noncomputable def aK (env:BT nnn):Env:=fun t=>Option.casesOn (motive:=fun _=>nnn) (eK env t) (.lit undef) fun v=>v
noncomputable def nnk.kL:nnk->Blk
 |.O g e c=>.O g e c
 |.loop st p n env ps a b=>.loop st p n (aK env) ps a b
 |.mp es=>.mp es
noncomputable def au (h:EH):nnl:=⟨fun j=>(ba h.hp j).map nnk.kL,h.nx⟩
noncomputable def fH (env:BT nnn)(d:Option Tmp)(v:nnn)(k:BT nnn->R):R :=
 Option.casesOn (motive:=fun _=>R) d (k env) fun d=>mD env d v k
noncomputable def zf (G:Nat->Option (List nnn))(g:Nat)(k:nnn->R):R :=
 Option.casesOn (motive:=fun _=>R) (G g) (k (.lit (.pointer (some ⟨g,0,none⟩)))) fun cells=>gi cells fun cells=>k (.ni cells 0)
noncomputable def zh (env:BT nnn)(t:Tmp)(k:nnn->R):R:=Option.casesOn (motive:=fun _=>R) (eK env t) (k (.lit undef)) k
noncomputable def cI (G:Nat->Option (List nnn))(env:BT nnn)(x:Operand)(k:nnn->R):R :=
 Operand.casesOn (motive:=fun _=>R) x (fun t=>zh env t k) (fun v=>k (.lit v)) (fun g=>zf G g k) (fun f=>k (.nb f [] []))
noncomputable def mE (G:Nat->Option (List nnn))(env:BT nnn)(l:List Operand):(List nnn->R)->R :=
 List.rec (motive:=fun _=>(List nnn->R)->R) (fun k=>k []) (fun x _ ih k=>cI G env x fun x=>ih fun l=>k (x :: l)) l
inductive OR where
 |fail
 |val (v:nnn)
 |nw (v:nnn) (r g:Nat) (e:TypeId) (cells:List nnn) (fresh:Bool)
 |effM (v:nnn) (r:Nat) (es:List (Int × Int)) (fresh:Bool)
noncomputable def OR.opt (o:Option nnn):OR:=Option.casesOn (motive:=fun _=>OR) o .fail .val
noncomputable def sj (k:IntKind)(i:Int):Int :=
 match k with
 |.i64=>Int.casesOn (motive:=fun _=>Int) i
   (fun n=>Bool.casesOn (motive:=fun _=>Int) (Nat.ble n 9223372036854775807) (IntKind.i64.wrap (.ofNat n)) (.ofNat n))
   (fun n=>Bool.casesOn (motive:=fun _=>Int) (Nat.ble n 9223372036854775807) (IntKind.i64.wrap (.negSucc n)) (.negSucc n))
 |k=>k.wrap i
noncomputable def sk (a b:Int):Bool :=
 Int.casesOn (motive:=fun _=>Bool) a
  (fun m=>Int.casesOn (motive:=fun _=>Bool) b (fun n=>Nat.ble (Nat.succ m) n) fun _=>false)
  (fun m=>Int.casesOn (motive:=fun _=>Bool) b (fun _=>true) fun n=>Nat.ble (Nat.succ n) m)
noncomputable def ss (a b:Int):Bool :=
 Int.casesOn (motive:=fun _=>Bool) a
  (fun m=>Int.casesOn (motive:=fun _=>Bool) b (fun n=>Nat.beq m n) fun _=>false)
  (fun m=>Int.casesOn (motive:=fun _=>Bool) b (fun _=>false) fun n=>Nat.beq m n)
noncomputable def zi (P:Program)(h:EH)(t:TypeId)(a:nnn):Option nnn :=
 match a with
 |.Y id gen off=>match ba h.hp id with
  |some (.O g _ cells)=>Bool.casesOn (motive:=fun _=>Option nnn) (Nat.beq g gen) none (eP P t cells off)
  |_=>none
 |.ni cells off=>eP P t cells off
 |_=>none
noncomputable def qm (P:Program)(h:EH)(t:TypeId)(a v:nnn):OR :=
 match a with
 |.Y id gen off=>match ba h.hp id with
  |some (.O g e cells)=>Bool.casesOn (motive:=fun _=>OR) (Nat.beq g gen) .fail
    (if v.cells.length=P.cellsOf t/\v.cells.all nnn.one=true/\off+v.cells.length<=cells.length then .nw (.lit undef) id g e (setAt cells off v.cells) false else .fail)
  |_=>.fail
 |_=>.fail
noncomputable def su (h:EH)(f:FP)(r:Option (nnn × nnl)):OR :=
 match r with
 |none=>.fail
 |some (v,H')=>match f.nw with
  | []=>.val v
  |r :: _=>match H'.get r with
   |some (.O g e c)=>.nw v r g e c (Nat.beq r h.nx)
   |some (.mp es)=>.effM v r es (Nat.beq r h.nx)
   |_=>.fail
noncomputable def zj (h:EH)(k:nnn->EH->R)(o:OR):R :=
 OR.casesOn (motive:=fun _=>R) o none (fun v=>kK v fun v=>k v h)
  (fun v r g e c fresh=>dx r fun r=>dx g fun g=>gi c fun c=>gh h.hp r (nnk.O g e c) fun hp=>kK v fun v=>k v ⟨hp,Bool.casesOn (motive:=fun _=>Nat) fresh h.nx (Nat.succ h.nx)⟩)
  (fun v r es fresh=>dx r fun r=>uA es fun es=>gh h.hp r (nnk.mp es) fun hp=>kK v fun v=>k v ⟨hp,Bool.casesOn (motive:=fun _=>Nat) fresh h.nx (Nat.succ h.nx)⟩)
structure GD where
 z:nnn
 ok:nnn->Bool
structure EP where
 P:Program
 G:Nat->Option (List nnn)
 gd:FuncId->Option GD
  /-- What is known already of a function's calls. -/
 known:FuncId->Option (List (List nnn × nnn))
  /-- What a call of a function without a body comes to. -/
 ext:FuncId->Option (List nnn->Option nnn):=fun _=>none
noncomputable def bO (f:nnn->Option (nnn × List Nat))(l:List nnn):Option (List nnn × List Nat) :=
 List.rec (motive:=fun _=>Option (List nnn × List Nat)) (some ([],[])) (fun x _ r=>match f x,r with
  |some (y,a),some (l,b)=>some (y :: l,a++b)
  |_,_=>none) l
noncomputable def il (h:EH)(fuel:Nat):nnn->Option (nnn × List Nat) :=
 Nat.rec (motive:=fun _=>nnn->Option (nnn × List Nat)) (fun _=>none) (fun _ ih v=>match v with
  |.lit v=>some (.lit v,[])
  |.L n c=>(bO ih c).map fun p=>(.L n p.1,p.2)
  |.ni c o=>(bO ih c).map fun p=>(.ni p.1 o,p.2)
  |.agg c=>(bO ih c).map fun p=>(.agg p.1,p.2)
  |.nc c=>(bO ih c).map fun p=>(.nc p.1,p.2)
  |.nb f a b=>match bO ih a,bO ih b with
   |some p,some q=>some (.nb f p.1 q.1,p.2++q.2)
   |_,_=>none
  |.Z id g o l z=>match ba h.hp id with
   |some (.O g' _ cells)=>if g'=g/\o+l*z<=cells.length then (bO ih ((cells.drop o).take (l*z))).map fun p=>(.L l p.1,id :: p.2) else none
   |_=>none
  |.Y id g o=>match ba h.hp id with
   |some (.O g' _ (x :: cells))=>if g'=g then (bO ih (x :: cells)).map fun p=>(.ni p.1 o,id :: p.2) else none
   |_=>none
  |.nk _=>none) fuel
noncomputable def kM (f:nnn->Option nnn)(l:List nnn):Option (List nnn) :=
 List.rec (motive:=fun _=>Option (List nnn)) (some []) (fun x _ r=>match f x,r with
  |some y,some l=>some (y :: l)
  |_,_=>none) l
noncomputable def oa (h:EH)(fuel:Nat):nnn->Option nnn :=
 Nat.rec (motive:=fun _=>nnn->Option nnn) (fun _=>none) (fun _ ih v=>match v with
  |.lit v=>some (.lit v)
  |.agg c=>(kM ih c).map .agg
  |.nc c=>(kM ih c).map .nc
  |.Z id g o l z=>match ba h.hp id with
   |some (.O g' _ cells)=>if g'=g/\o+l*z<=cells.length then (kM ih ((cells.drop o).take (l*z))).map (.L l) else none
   |_=>none
  |_=>none) fuel
noncomputable def fQ (f:nnn->nnn->Bool)(a:List nnn):List nnn->Bool :=
 List.rec (motive:=fun _=>List nnn->Bool) (fun b=>match b with|[]=>true|_=>false) (fun x _ ih b=>match b with
  | []=>false
  |y :: b=>match f x y with|true=>ih b|false=>false) a
noncomputable def zk (ih:nnn->nnn->Bool)(a b:nnn):Bool:=match a,b with
 |.lit (.int k x),.lit (.int k' y)=>decide (k=k') && ss x y
 |.lit (.bool x),.lit (.bool y)=>x == y
 |.lit (.slice none 0 0),.lit (.slice none 0 0)=>true
 |.L n c,.L m d=>Nat.beq n m && fQ ih c d
 |.ni c n,.ni d m=>Nat.beq n m && fQ ih c d
 |.agg c,.agg d=>fQ ih c d
 |.nc c,.nc d=>fQ ih c d
 |.nb f a b,.nb g c d=>Nat.beq f g && (fQ ih a c && fQ ih b d)
 |_,_=>false
noncomputable def qo (fuel:Nat):nnn->nnn->Bool:=Nat.rec (motive:=fun _=>nnn->nnn->Bool) (fun _ _=>false) (fun _ ih=>zk ih) fuel
noncomputable def eU (l:List Nat)(n:Nat):Bool:=List.rec (motive:=fun _=>Bool) false (fun x _ ih=>Bool.rec (motive:=fun _=>Bool) ih true (Nat.beq x n)) l
noncomputable def zm (f:Nat->Bool)(l:List Nat):Bool:=List.rec (motive:=fun _=>Bool) true (fun x _ ih=>Bool.rec (motive:=fun _=>Bool) false ih (f x)) l
abbrev KF:=nnn->List Nat->Option (List Nat)
noncomputable def jN (f:KF)(l:List nnn):List Nat->Option (List Nat) :=
 List.rec (motive:=fun _=>List Nat->Option (List Nat)) (fun acc=>some acc) (fun x _ ih acc=>match f x acc with
  |some acc=>ih acc
  |none=>none) l
noncomputable def qp (h:EH)(lo:Nat)(kp:List Nat)(rc:KF)(id:Nat)(acc:List Nat):Option (List Nat) :=
 match Nat.blt id lo with
 |true=>match eU kp id with
  |true=>some acc
  |false=>none
 |false=>match eU acc id with
  |true=>some acc
  |false=>match ba h.hp id with
   |some (.O _ _ cells)=>jN rc cells (id :: acc)
   |_=>none
noncomputable def kO (h:EH)(lo:Nat)(kp:List Nat)(fuel:Nat):KF :=
 Nat.rec (motive:=fun _=>KF) (fun _ _=>none) (fun _ ih v acc=>match v with
  |.lit _=>some acc
  |.L 0 []=>some acc
  |.agg c=>jN ih c acc
  |.nc c=>jN ih c acc
  |.nb _ a b=>match jN ih a acc with
   |some acc=>jN ih b acc
   |none=>none
  |.Z id _ _ _ _=>qp h lo kp ih id acc
  |.Y id _ _=>qp h lo kp ih id acc
  |_=>none) fuel
abbrev CF:=nnn->List Nat->(List Nat->R)->R
noncomputable def kP (f:CF)(l:List nnn):List Nat->(List Nat->R)->R :=
 List.rec (motive:=fun _=>List Nat->(List Nat->R)->R) (fun acc k=>k acc) (fun x _ ih acc k=>f x acc fun acc=>ih acc k) l
noncomputable def uB (f:CF)(acc:List Nat)(k:List Nat->R)(b:Option nnk):R:=match b with
 |some (.O _ _ cells)=>kP f cells acc k
 |_=>k acc
noncomputable def zp (h:EH)(f:CF)(v:nnn)(acc:List Nat)(k:List Nat->R):R:=match v with
 |.L _ c=>kP f c acc k
 |.ni c _=>kP f c acc k
 |.agg c=>kP f c acc k
 |.nc c=>kP f c acc k
 |.nb _ a b=>kP f a acc fun acc=>kP f b acc k
 |.Z id _ _ _ _=>uB f acc k (ba h.hp id)
 |.Y id _ _=>uB f acc k (ba h.hp id)
 |_=>k acc
noncomputable def uC (h:EH)(fuel:Nat):CF:=Nat.rec (motive:=fun _=>CF) (fun _ acc k=>k acc) (fun _ ih v acc k=>match kO h 0 [] 40 v acc with
 |some acc=>k acc
 |none=>zp h ih v acc k) fuel
noncomputable def jO (h:EH)(kp:List Nat)(fuel:Nat):nnn->Option (nnn × List Nat) :=
 Nat.rec (motive:=fun _=>nnn->Option (nnn × List Nat)) (fun _=>none) (fun _ ih v=>match v with
  |.lit v=>some (.lit v,[])
  |.L n c=>(bO ih c).map fun p=>(.L n p.1,p.2)
  |.ni c o=>(bO ih c).map fun p=>(.ni p.1 o,p.2)
  |.agg c=>(bO ih c).map fun p=>(.agg p.1,p.2)
  |.nc c=>(bO ih c).map fun p=>(.nc p.1,p.2)
  |.nb f a b=>match bO ih a,bO ih b with
   |some p,some q=>some (.nb f p.1 q.1,p.2++q.2)
   |_,_=>none
  |.Z id g o l z=>match eU kp id with
   |true=>some (.Z id g o l z,[])
   |false=>match ba h.hp id with
    |some (.O g' _ cells)=>if g'=g/\o+l*z<=cells.length then (bO ih ((cells.drop o).take (l*z))).map fun p=>(.L l p.1,id :: p.2) else none
    |_=>none
  |.Y id g o=>match eU kp id with
   |true=>some (.Y id g o,[])
   |false=>match ba h.hp id with
    |some (.O g' _ (x :: cells))=>if g'=g then (bO ih (x :: cells)).map fun p=>(.ni p.1 o,id :: p.2) else none
    |_=>none
  |.nk _=>none) fuel
noncomputable def zq (h:EH)(l:List Nat)(k:BT nnk->R):BT nnk->R :=
 List.rec (motive:=fun _=>BT nnk->R) (fun t=>k t) (fun id _ ih t=>match ba h.hp id with
  |some b=>gh t id b ih
  |none=>none) l
noncomputable def zt (a b:Value):Bool:=match a,b with
 |.int k x,.int k' y=>decide (k=k') && ss x y
 |.bool x,.bool y=>x == y
 |.slice none 0 0,.slice none 0 0=>true
 |.pointer none,.pointer none=>true
 |_,_=>false
noncomputable def zu (ih:nnn->nnn->Bool)(a b:nnn):Bool:=match a,b with
 |.lit x,.lit y=>zt x y
 |.L n c,.L m d=>Nat.beq n m && fQ ih c d
 |.agg c,.agg d=>fQ ih c d
 |.nc c,.nc d=>fQ ih c d
 |.nb f a b,.nb g c d=>Nat.beq f g && (fQ ih a c && fQ ih b d)
 |.Z a b c d e,.Z a' b' c' d' e'=>Nat.beq a a' && (Nat.beq b b' && (Nat.beq c c' && (Nat.beq d d' && Nat.beq e e')))
 |.Y a b c,.Y a' b' c'=>Nat.beq a a' && (Nat.beq b b' && Nat.beq c c')
 |_,_=>false
noncomputable def zw (fuel:Nat):nnn->nnn->Bool:=Nat.rec (motive:=fun _=>nnn->nnn->Bool) (fun _ _=>false) (fun _ ih=>zu ih) fuel
noncomputable def zx (a b:Option nnk):Bool:=match a,b with
 |some (.O g e c),some (.O g' e' c')=>Nat.beq g g' && (Nat.beq e e' && fQ (zw 40) c c')
 |_,_=>false
noncomputable def zy (h':EH)(lv:List Nat)(t:BT nnk)(k:BT nnk->R)(id:Nat):R:=match eU lv id with
 |true=>match ba h'.hp id with
  |some b=>gh t id b k
  |none=>none
 |false=>gh t id (.O 0 0 []) k
noncomputable def uD (h':EH)(lv:List Nat)(lo n:Nat):BT nnk->(BT nnk->R)->R :=
 Nat.rec (motive:=fun _=>BT nnk->(BT nnk->R)->R) (fun t k=>k t) (fun i ih t k=>dx (Nat.add lo i) (zy h' lv t fun t=>ih t k)) n
noncomputable def uE (k:BT nnn->R)(l:List nnn):Nat->BT nnn->R :=
 List.rec (motive:=fun _=>Nat->BT nnn->R) (fun _ t=>k t) (fun v _ ih i t=>mD t i v fun t=>dx (Nat.succ i) fun i=>ih i t) l
noncomputable def qt (h:EH):Option Nat->Bool
 |none=>true
 |some id=>match ba h.hp id with|some (.loop ..)=>true|_=>false
abbrev jQ:=Option Nat->Nat->Code->BT nnn->EH->R
section step
variable (E:EP) (ih:jQ)
noncomputable def uF (nx:Nat)(v:nnn)(h':EH):R:=Bool.rec (motive:=fun _=>R) none (kK v fun v=>some (.ret v h')) (Nat.ble nx h'.nx)
noncomputable def CH (rs:List ResultVar)(nx:Nat)(r:R):R:=match r with
 |some (.ev .normal env h')=>match dR E.P (au h') (aK env) rs with
  |some vs=>uF nx (fO vs) h'
  |none=>none
 |some (.ev .ret env h')=>match dR E.P (au h') (aK env) rs with
  |some vs=>uF nx (fO vs) h'
  |none=>none
 |some (.ev .panic _ h')=>Bool.rec (motive:=fun _=>R) none (some (.panic h')) (Nat.ble nx h'.nx)
 |_=>none
def CI (fn : Func) (c : Code) : Bool := fits fn.ntmps c && !(fn.name == "runtime.NumGoroutine")
noncomputable def uG (fn:Func)(c:Code)(args:List nnn)(h:EH):R :=
 Bool.rec (motive:=fun _=>R) none (Bool.rec (motive:=fun _=>R) none (uE (fun env=>CH E fn.results.toList h.nx (ih none fn.ntmps c env h)) args 0 .nil) (Nat.ble args.length fn.ntmps)) (CI fn c)
noncomputable def mF (f:FuncId)(args:List nnn)(h:EH):R :=
 Option.rec (motive:=fun _=>R) none (fun fn=>Option.rec (motive:=fun _=>R) none (fun c=>uG E ih fn c args h) fn.body) (E.P.funcs[f]?)
noncomputable def zz (f:FuncId)(args:List nnn):Option nnn:=match mF E ih f args ⟨.nil,0⟩ with
 |some (.ret v h')=>oa h' 40 v
 |_=>none
noncomputable def uH (args:List nnn)(l:List (List nnn × nnn)):Option nnn :=
 List.rec (motive:=fun _=>Option nnn) none (fun p _ ih=>Bool.casesOn (motive:=fun _=>Option nnn) (fQ (qo 40) p.1 args) ih (some p.2)) l
noncomputable def zA (f:FuncId)(args:List nnn):Option (Option nnn):=match mF E ih f args ⟨.nil,0⟩ with
 |some (.ret v h')=>match oa h' 40 v with
  |some u=>some (some u)
  |none=>none
 |some (.panic _)=>some none
 |_=>none
noncomputable def CJ (z:GD)(h:EH)(r:Option (Option nnn)):R:=match r with
 |some (some u)=>Bool.rec (motive:=fun _=>R) none (some (.ret (.nc [u,.lit (.int .i64 0)]) h)) (z.ok u)
 |some none=>some (.ret (.nc [z.z,.lit (.int .i64 6)]) h)
 |none=>none
noncomputable def CK (z:GD)(args:List nnn)(h:EH):R:=match args with
 | [.nb g [] cap]=>match bO (il h 40) cap with
  |some p=>Bool.rec (motive:=fun _=>R) none (CJ z h (zA E ih g p.1)) (p.2.all fun r=>Nat.blt r h.nx)
  |none=>none
 |_=>none
noncomputable def uI (k:BT nnn->R):List Tmp->List nnn->BT nnn->R
 |p :: ps,v :: vs,e=>mD e p v fun e=>uI k ps vs e
 | [],[],e=>k e
 |_,_,_=>none
noncomputable def sy (id:Nat)(st:LoopState)(pend:Option Code)(b:Bool)(h2:EH):R:=match ba h2.hp id with
 |some (.loop _ _ n env ps asg body)=>gh h2.hp id (nnk.loop st pend n env ps asg body) fun hp=>some (.ret (.lit (.bool b)) ⟨hp,h2.nx⟩)
 |_=>none
noncomputable def endRound (id:Nat)(r:R):R:=match r with
 |some (.ev .normal _ h2)=>sy id .ready none true h2
 |some (.ev .ret _ h2)=>sy id .done (some .ret) false h2
 |some (.ev (.exit i) _ h2)=>sy id .done (some (.exit i)) false h2
 |_=>none
noncomputable def CL (id n:Nat)(body:Code)(r:R):R:=match r with
 |some (.ev .normal e h1)=>match ba h1.hp id with
  |some (.loop .ready pend n2 env2 ps2 asg2 body2)=>gh h1.hp id (nnk.loop .busy pend n2 env2 ps2 asg2 body2) fun hp1=>endRound id (ih (some id) n body e ⟨hp1,h1.nx⟩)
  |_=>none
 |_=>none
def CM (v:Option nnn)(b n:Nat):Bool:=match v with
 |none=>true
 |some _=>Nat.blt b n
noncomputable def okB:BT nnn->Nat->Nat->Nat->Bool :=
 BT.rec (motive:=fun _=>Nat->Nat->Nat->Bool) (fun _ _ _=>true) (fun v _ _ fl fr a b n=>CM v b n && (fl (Nat.mul 2 a) (Nat.add a b) n && fr (Nat.mul 2 a) (Nat.add (Nat.mul 2 a) b) n))
noncomputable def CN (env:BT nnn)(n:Nat)(ps:Array Tmp)(asg body:Code):Bool:=okB env 1 0 n && (fits n asg && (fits n body && ps.toList.all fun p=>decide (p<n)))
noncomputable def zB (id:Nat)(args:List nnn)(h:EH):R :=
 match ba h.hp id with
 |some (.loop .ready _ n env ps asg body) =>
  Bool.rec (motive:=fun _=>R) none (uI (fun e=>CL ih id n body (ih (some id) n asg e h)) ps.toList args env) (CN env n ps asg body)
 |_=>none
noncomputable def CO (f:FuncId)(args:List nnn)(h:EH)(l:List (List nnn × nnn)):R :=
 match bO (il h 40) args with
 |none=>none
 |some p=>match uH p.1 l with
  |some v=>some (.ret v h)
  |none=>mF E ih f args h
noncomputable def zC (f:FuncId)(first cap args:List nnn)(h:EH):R :=
 match E.gd f with
 |none=>gi (first++args++cap) fun args=>match E.known f with
  |none=>mF E ih f args h
  |some l=>CO E ih f args h l
 |some z=>gi (first++args++cap) fun args=>CK E ih z args h
noncomputable def CP (e:List nnn->Option nnn)(fc args:List nnn)(h:EH):R:=match fc with
 | []=>gi args fun args=>match e args with
  |some r=>kK r fun r=>some (.ret r h)
  |none=>none
 |_=>none
noncomputable def uJ (fv:nnn)(args:List nnn)(h:EH):R :=
 match fv with
 |.nb f first cap=>match E.ext f with
  |none=>zC E ih f first cap args h
  |some e=>CP e (first++cap) args h
 |.nk id=>zB ih id args h
 |_=>none
noncomputable def CQ (rd:Option Nat)(d:Option Tmp)(k:BT nnn->EH->R)(env:BT nnn)(r:R):R:=match r with
 |some (.ret v h')=>Bool.casesOn (motive:=fun _=>R) (qt h' rd) none (fH env d v fun env=>k env h')
 |some (.panic h')=>Bool.casesOn (motive:=fun _=>R) (qt h' rd) none (some (.ev .panic env h'))
 |_=>none
noncomputable def dA (d:Option Tmp)(k:BT nnn->EH->R)(env:BT nnn)(o:OR)(h:EH):R:=zj h (fun v h=>fH env d v fun env=>k env h) o
noncomputable def sA (d:Option Tmp)(k:BT nnn->EH->R)(env:BT nnn)(h:EH)(kd:IntKind)(i:Int):R:=n9 i fun i=>fH env d (.lit (.int kd i)) fun env=>k env h
noncomputable def kQ (d:Option Tmp)(k:BT nnn->EH->R)(env:BT nnn)(h:EH)(b:Bool):R:=yV b fun b=>fH env d (.lit (.bool b)) fun env=>k env h
abbrev bP:=EP->jQ->Option Nat->Option Tmp->(BT nnn->EH->R)->BT nnn->EH->R
end step
noncomputable def mG (x:Operand):bP:=fun E _ _ d k env h=>cI E.G env x fun v=>fH env d v fun env=>k env h
noncomputable def uK (e:TypeId)(x:Operand):bP:=fun E _ _ d k env h=>cI E.G env x fun v=>dA d k env (.nw (.Y h.nx 0 0) h.nx 0 e v.cells true) h
noncomputable def uL (t:TypeId)(parts:Array (Nat × Operand)):bP:=fun E _ _ d k env h =>
 mE E.G env (parts.toList.map (·.2)) fun vs=>dA d k env (.opt (pN E.P t ((parts.toList.map (·.1)).zip vs))) h
noncomputable def uM (t:TypeId)(len:Nat)(parts:Array (Nat × Operand)):bP:=fun E _ _ d k env h =>
 mE E.G env (parts.toList.map (·.2)) fun vs=>dA d k env (su h ⟨[h.nx],[]⟩ (jG E.P (au h) h.nx t len ((parts.toList.map (·.1)).zip vs))) h
noncomputable def uN (t:TypeId)(a:Operand):bP:=fun E _ _ d k env h=>cI E.G env a fun a=>dA d k env (.opt (zi E.P h t a)) h
noncomputable def uO (t:TypeId)(a x:Operand):bP:=fun E _ _ d k env h =>
 Bool.rec (motive:=fun _=>R) none (cI E.G env a fun a=>cI E.G env x fun v=>dA d k env (qm E.P h t a v) h) (E.P.underlying t).isSome
abbrev jR:=IntKind->Int->Int->Option Tmp->(BT nnn->EH->R)->BT nnn->EH->R
noncomputable def N9:jR:=fun kd a b d k env h=>sA d k env h kd (sj kd (Int.add a b))
noncomputable def Oa:jR:=fun kd a b d k env h=>sA d k env h kd (sj kd (Int.sub a b))
noncomputable def Ob:jR:=fun kd a b d k env h=>sA d k env h kd (sj kd (Int.mul a b))
noncomputable def Oc:jR:=fun _ a b d k env h=>kQ d k env h (sk a b)
noncomputable def Od:jR:=fun _ a b d k env h=>kQ d k env h (sk b a)
noncomputable def Oe:jR:=fun _ a b d k env h=>kQ d k env h (sk b a).not
noncomputable def Of:jR:=fun _ a b d k env h=>kQ d k env h (sk a b).not
noncomputable def Og:jR:=fun _ a b d k env h=>kQ d k env h (ss a b)
noncomputable def Oh:jR:=fun _ a b d k env h=>kQ d k env h (ss a b).not
noncomputable def sB (op:BinOp):Option jR:=match op with
 |.add=>some N9|.sub=>some Oa|.mul=>some Ob|.lss=>some Oc|.gtr=>some Od|.leq=>some Oe|.geq=>some Of|.eql=>some Og|.neq=>some Oh
 |_=>none
def oh:IntKind->Nat
 |.i8=>0|.i16=>1|.i32=>2|.i64=>3|.u8=>4|.u16=>5|.u32=>6|.u64=>7
noncomputable def uP (E:EP)(op:BinOp)(t:TypeId)(x y:Operand)(a b:nnn)(d:Option Tmp)(k:BT nnn->EH->R)(env:BT nnn)(h:EH):R:=dA d k env (.opt (bq E.P op t x y a b)) h
noncomputable def CR (E:EP)(op:BinOp)(t:TypeId)(x y:Operand)(a b:nnn)(d:Option Tmp)(k:BT nnn->EH->R)(env:BT nnn)(h:EH):R:=match iF (au h) op a b with
 |none=>uP E op t x y a b d k env h
 |some true=>Bool.rec (motive:=fun _=>R) none (kQ d k env h (op == .neq)) (lM (E.P.underlying t))
 |some false=>none
noncomputable def CS (E:EP)(op:BinOp)(t:TypeId)(x y:Operand)(a b:nnn)(d:Option Tmp)(k:BT nnn->EH->R)(env:BT nnn)(h:EH):R :=
 match a,b with
 |.lit (.int kd a),.lit (.int kd' b)=>Bool.rec (motive:=fun _=>R) (uP E op t x y (.lit (.int kd a)) (.lit (.int kd' b)) d k env h) (Option.rec (motive:=fun _=>R) (uP E op t x y (.lit (.int kd a)) (.lit (.int kd' b)) d k env h) (fun f=>f kd a b d k env h) (sB op)) (Nat.beq (oh kd) (oh kd'))
 |a,b=>CR E op t x y a b d k env h
noncomputable def uQ (op:BinOp)(t:TypeId)(x y:Operand)(_:TypeId):bP:=fun E _ _ d k env h=>cI E.G env x fun a=>cI E.G env y fun b=>CS E op t x y a b d k env h
noncomputable def uR (fn:Fn)(first cap:Array Operand):bP:=fun E _ _ d k env h =>
 match fn with
 |.func f=>mE E.G env first.toList fun a=>mE E.G env cap.toList fun b=>fH env d (.nb f a b) fun env=>k env h
 |_=>none
noncomputable def uS (t:TypeId)(x i:Operand):bP:=fun E _ _ d k env h=>cI E.G env x fun x=>cI E.G env i fun i=>dA d k env (.opt (qg E.P (au h) t x i)) h
noncomputable def om (E:EP)(env:BT nnn)(h:EH)(o:Op):OR:=su h (bz E.P E.G (aK env) h.nx o) (aj E.P E.G (aK env) (au h) h.nx o)
noncomputable def fR (o:Op):bP:=fun E _ _ d k env h=>dA d k env (om E env h o) h
noncomputable def zD (x:Operand):bP:=fun E _ _ _ _ env h=>match ak E.G (aK env) x with
 |.lit (.iface _ _)=>some (.ev .panic env h)
 |_=>none
noncomputable def zE (fv:Operand)(args:Array Operand):bP:=fun E ih rd d k env h =>
 mE E.G env args.toList fun args=>cI E.G env fv fun fv=>CQ rd d k env (uJ E ih fv args h)
noncomputable def sC:bP:=fun _ _ _ _ _ _ _=>none
noncomputable def sD {α:Type}(_:α):bP:=sC
noncomputable def qu {α β:Type}(_:α)(_:β):bP:=sC
noncomputable def Oi {α β γ:Type}(_:α)(_:β)(_:γ):bP:=sC
noncomputable def Oj {α β γ δ:Type}(_:α)(_:β)(_:γ)(_:δ):bP:=sC
noncomputable def sE (v:nnn)(r:Nat)(fresh:Bool)(b:Option Blk):OR:=match b with
 |some (.O g e c)=>.nw v r g e c fresh
 |_=>.fail
noncomputable def uT (r:Nat)(fresh:Bool)(o:Option (nnn × nnl)):OR:=match o with
 |some (v,H')=>sE v r fresh (H'.get r)
 |none=>.fail
noncomputable def uU (c a b:Operand):bP:=fun E _ _ d k env h=>cI E.G env c fun c=>match c with
 |.lit (.bool t)=>Bool.rec (motive:=fun _=>R) (cI E.G env b fun v=>fH env d v fun env=>k env h) (cI E.G env a fun v=>fH env d v fun env=>k env h) t
 |_=>none
noncomputable def uV (e:TypeId):bP:=fun E _ _ d k env h=>match bC E.P e with
 |some z=>dA d k env (.nw (.Y h.nx 0 0) h.nx 0 e z true) h
 |none=>none
noncomputable def uW (x:Operand):bP:=fun E _ _ d k env h=>cI E.G env x fun x=>dA d k env (.opt (jI (au h) x)) h
noncomputable def uX (op:UnOp)(_:TypeId)(x:Operand):bP:=fun E _ _ d k env h=>cI E.G env x fun x=>dA d k env (.opt (rF E.P op x)) h
noncomputable def uY (s t:TypeId)(x:Operand):bP:=fun E _ _ d k env h=>cI E.G env x fun x=>dA d k env (.opt (jH E.P (au h) s t x)) h
noncomputable def Ol (t:TypeId)(x:Operand):bP:=fR (.makeInterface t x)
noncomputable def uZ (t:TypeId)(l c:Operand):bP:=fun E _ _ d k env h=>cI E.G env l fun l=>cI E.G env c fun c=>dA d k env (uT h.nx true (je E.P (au h) h.nx t l c)) h
noncomputable def zF (G:Nat->Option (List nnn))(env:BT nnn)(x:Option Operand)(k:Option nnn->R):R:=match x with
 |none=>k none
 |some x=>cI G env x fun v=>k (some v)
noncomputable def u9 (t:TypeId)(x:Operand)(l u m:Option Operand):bP:=fun E _ _ d k env h=>match m with
 |none=>cI E.G env x fun x=>zF E.G env l fun l=>zF E.G env u fun u=>dA d k env (.opt (lD E.P (au h) t x l u)) h
 |some _=>none
noncomputable def va (t:TypeId)(x:Operand)(f:Nat):bP:=fun E _ _ d k env h=>cI E.G env x fun x=>dA d k env (.opt (qf E.P (au h) t f x)) h
noncomputable def vb (t:TypeId)(x:Operand)(f:Nat):bP:=fun E _ _ d k env h=>cI E.G env x fun x=>dA d k env (.opt (Cb E.P t f x)) h
noncomputable def vd (t:TypeId)(x i:Operand):bP:=fun E _ _ d k env h=>cI E.G env x fun x=>cI E.G env i fun i=>dA d k env (.opt (mr E.P t x i)) h
noncomputable def ve (t:Operand)(i:Nat):bP:=fun E _ _ d k env h=>cI E.G env t fun t=>dA d k env (.opt (lF t i)) h
noncomputable def vf (t:TypeId)(x:Operand):bP:=fun E _ _ d k env h=>cI E.G env x fun x=>dA d k env (.opt (kE E.P (au h) t x)) h
noncomputable def CT (E:EP)(t u:TypeId)(s x:nnn)(d:Option Tmp)(k:BT nnn->EH->R)(env:BT nnn)(h:EH):R:=match s with
 |.Z id g o l z=>match bh E.P (au h) h.nx t u s x with
  |some (.Z _ g' o' l' z',H')=>Bool.rec (motive:=fun _=>R) (dA d k env (sE (.Z id g' o' l' z') id false (H'.get id)) h) (dA d k env (.val (.Z id g o l z)) h) (Nat.beq g' g)
  |_=>none
 |s=>match bh E.P (au h) h.nx t u s x with
  |some (.Z id' g' o' l' z',H')=>dA d k env (sE (.Z id' g' o' l' z') h.nx true (H'.get h.nx)) h
  |some (.lit v,_)=>dA d k env (.val (.lit v)) h
  |_=>none
noncomputable def vg (t u:TypeId)(s x:Operand):bP:=fun E _ _ d k env h=>cI E.G env s fun s=>cI E.G env x fun x=>CT E t u s x d k env h
noncomputable def qv (c:Call)(b:Builtin):bP:=match b,c.argTypes.toList,c.args.toList with
 |.len,[t],[x]=>vf t x
 |.append,[t,u],[s,x]=>vg t u s x
 |_,_,_=>fR (.call c)
noncomputable def CU (c:Call):bP:=match c.callee with
 |.value fv=>zE fv c.args
 |.builtin b=>qv c b
 |_=>sC
noncomputable def Om (t:TypeId)(m a x:Operand):bP:=fR (.insert t m a x)
noncomputable def On (t:TypeId)(x:Option Operand):bP:=fR (.makeMap t x)
noncomputable def Oo (t:TypeId)(x i:Operand)(ok:Bool):bP:=fR (.lookup t x i ok)
noncomputable def Oq (t:TypeId)(m a x:Operand):bP:=fR (.mapUpdate t m a x)
noncomputable def Ot (t:TypeId)(m a:Operand):bP:=fR (.mapEntry t m a)
noncomputable def Ou (t:TypeId)(m a x:Operand):bP:=fR (.entryStore t m a x)
noncomputable def vh:Op->bP :=
 Op.rec (motive:=fun _=>bP) mG mG uU uV uK uL uM Om uN uO sD sD uW uQ uX uY qu Ol uR
  On qu uZ u9 va vb uS vd Oo Oq Ot Ou qu qu sD Oj ve CU sD sD zD qu Oi qu
section step
variable (E:EP) (ih:jQ)
noncomputable def zG (all:Array Oper)(ρ:Env)(yes no:R)(jw:Nat × Bool):R :=
 match (all[jw.1]?).bind (·.dst) with
 |some d=>match ρ d with
  |.lit (.bool b)=>Bool.rec (motive:=fun _=>R) no yes (b == jw.2)
  |.lit _=>no
  |_=>none
 |none=>no
noncomputable def qw (all:Array Oper)(ρ:Env)(g:Option (Nat × Bool))(yes no:R):R:=Option.rec (motive:=fun _=>R) yes (zG all ρ yes no) g
noncomputable def qx (rd:Option Nat)(all:Array Oper)(l:List Oper):BT nnn->EH->R :=
 List.rec (motive:=fun _=>BT nnn->EH->R) (fun env h=>some (.ev .normal env h)) (fun o _ ihr env h =>
  qw all (aK env) o.guard (vh o.op E ih rd o.dst ihr env h) (fH env o.dst (.lit undef) fun env=>ihr env h)) l
def Ov (bs:List Nat)(o:Oper):Nat:=(tZ o).foldl (fun b j=>b |||(2 ^ j |||dw bs j)) 0
def mH:List Oper->List Nat->List Nat
 | [],bs=>bs
 |o :: l,bs=>mH l (bs++[Ov bs o])
def sF (bs:List Nat):Nat->Nat
 |0=>0
 |k+1=>if dw bs k=2 ^ k-1 then sF bs k else k+1
def zH (b:Nat)(f:FP)(acc:List (Nat × FP)):Bool:=acc.all fun p=>b.testBit p.1 ||(f.nw.all fun r=>!p.2.rs.contains r) && p.2.nw.all fun r=>!f.rs.contains r
noncomputable def CV (e:List nnn->Option nnn)(fc args:List nnn)(h:EH)(k:nnn->FP->EH->R):R:=match fc with
 | []=>gi args fun args=>match e args with
  |some v=>k v ⟨[],[]⟩ h
  |none=>none
 |_=>none
noncomputable def CW (h h':EH)(kp fz:List Nat)(v:nnn)(k:nnn->FP->EH->R):R :=
 match Nat.ble h.nx h'.nx,zm (fun id=>zx (ba h.hp id) (ba h'.hp id)) kp,kO h' h.nx kp 40 v [] with
 |true,true,some lv=>uD h' lv h.nx (Nat.sub h'.nx h.nx) h.hp fun hp=>dx h'.nx fun nx=>k v ⟨Ev.lI h.nx nx,kp++fz⟩ ⟨hp,nx⟩
 |_,_,_=>none
noncomputable def CX (f:FuncId)(kp fz:List Nat)(all:List nnn)(h:EH)(k:nnn->FP->EH->R)(hp:BT nnk):R:=match mF E ih f all ⟨hp,h.nx⟩ with
 |some (.ret v h')=>CW h h' kp fz v k
 |_=>none
noncomputable def CY (f:FuncId)(all:List nnn)(h:EH)(k:nnn->FP->EH->R)(kp:List Nat):R:=match bO (jO h kp 40) all with
 |some p=>Bool.rec (motive:=fun _=>R) none (zq h kp (CX E ih f kp p.2 p.1 h k) .nil) (p.2.all fun r=>Nat.blt r h.nx)
 |none=>none
noncomputable def vj (f:FuncId)(all:List nnn)(h:EH)(k:nnn->FP->EH->R):R:=kP (uC h 40) all [] (CY E ih f all h k)
noncomputable def CZ (f:FuncId)(all:List nnn)(h:EH)(k:nnn->FP->EH->R)(l:List (List nnn × nnn)):R:=match bO (il h 40) all with
 |none=>vj E ih f all h k
 |some p=>match uH p.1 l with
  |some v=>Bool.rec (motive:=fun _=>R) none (k v ⟨[],p.2⟩ h) (p.2.all fun r=>Nat.blt r h.nx)
  |none=>vj E ih f all h k
noncomputable def C2 (f:FuncId)(first cap args:List nnn)(h:EH)(k:nnn->FP->EH->R):R:=match E.gd f with
 |some _=>none
 |none=>gi (first++args++cap) fun all=>match E.known f with
  |none=>vj E ih f all h k
  |some l=>CZ E ih f all h k l
noncomputable def zI (fv:nnn)(args:List nnn)(h:EH)(k:nnn->FP->EH->R):R:=match fv with
 |.nb f first cap=>match E.ext f with
  |none=>C2 E ih f first cap args h k
  |some e=>CV e (first++cap) args h k
 |_=>none
abbrev qy:=List (Nat × FP)->BT nnn->EH->R
noncomputable def vk (d:Option Tmp)(b i:Nat)(acc:List (Nat × FP))(k:qy)(env:BT nnn)(f:FP)(o:OR)(h:EH):R :=
 Bool.casesOn (motive:=fun _=>R) (zH b f acc) none (zj h (fun v h=>fH env d v fun env=>k (dH i f acc) env h) o)
noncomputable def C3 (d:Option Tmp)(b i:Nat)(acc:List (Nat × FP))(k:qy)(env:BT nnn)(v:nnn)(f:FP)(h:EH):R :=
 Bool.casesOn (motive:=fun _=>R) (zH b f acc) none (kK v fun v=>fH env d v fun env=>k (dH i f acc) env h)
noncomputable def vl (o:Oper)(b i:Nat)(acc:List (Nat × FP))(k:qy)(env:BT nnn)(h:EH):R:=match o.op with
 |.call c=>match c.callee with
  |.value fv=>mE E.G env c.args.toList fun args=>cI E.G env fv fun fv=>zI E ih fv args h (C3 o.dst b i acc k env)
  |_=>vk o.dst b i acc k env (bz E.P E.G (aK env) h.nx (.call c)) (om E env h (.call c)) h
 |.panic _=>none
 |op=>vk o.dst b i acc k env (bz E.P E.G (aK env) h.nx op) (om E env h op) h
noncomputable def vm (all:Array Oper)(tail:BT nnn->EH->R)(l:List Oper):List Nat->Nat->qy :=
 List.rec (motive:=fun _=>List Nat->Nat->qy) (fun _ _ _ env h=>tail env h) (fun o _ ihr bs i acc env h=>match bs with
  | []=>none
  |b :: bs=>qw all (aK env) o.guard (vl E ih o b i acc (ihr bs (i+1)) env h) (fH env o.dst (.lit undef) fun env=>ihr bs (i+1) acc env h)) l
noncomputable def vn (rd:Option Nat)(ops:Array Oper)(bs:List Nat)(K:Nat)(env:BT nnn)(h:EH):R :=
 Bool.casesOn (motive:=fun _=>R) (pY ops (bs.take K) K) none (vm E ih ops (qx E ih rd ops (ops.toList.drop K)) (ops.toList.take K) (bs.take K) 0 [] env h)
noncomputable def sG (rd:Option Nat)(n:Nat)(b:Code)(r:R):R:=match r with
 |some (.ev .normal e h)=>ih rd n b e h
 |r=>r
noncomputable def zJ (id:Nat)(r:R):R:=match r with
 |some (.ev (.exit i) e h)=>Bool.casesOn (motive:=fun _=>R) (Nat.beq i id) (some (.ev (.exit i) e h)) (some (.ev .normal e h))
 |r=>r
noncomputable def qA (r:R):R:=match r with
 |some (.ev (.goto _) _ _)=>none
 |r=>r
noncomputable def zK (v:nnn)(x y:R):R:=match v with
 |.lit (.bool b)=>Bool.casesOn (motive:=fun _=>R) b y x
 |_=>none
noncomputable def endLoop (env:BT nnn)(h2:EH)(pend:Option Code)(hp3:BT nnk):R:=match pend with
 |none=>some (.ev .normal env ⟨hp3,h2.nx⟩)
 |some .ret=>some (.ev .ret env ⟨hp3,h2.nx⟩)
 |some (.exit i)=>some (.ev (.exit i) env ⟨hp3,h2.nx⟩)
 |_=>none
noncomputable def C4 (rd:Option Nat)(env:BT nnn)(id:Nat)(r:R):R:=match r with
 |some (.ret _ h2)=>Bool.casesOn (motive:=fun _=>R) (qt h2 rd) none (match ba h2.hp id with
  |some (.loop .busy ..)=>none
  |some (.loop _ pend n2 env2 ps2 asg2 body2)=>gh h2.hp id (nnk.loop .exhausted pend n2 env2 ps2 asg2 body2) fun hp3=>endLoop env h2 pend hp3
  |_=>none)
 |some (.panic h2)=>Bool.casesOn (motive:=fun _=>R) (qt h2 rd) none (some (.ev .panic env h2))
 |_=>none
noncomputable def zL (rd:Option Nat)(n:Nat)(env:BT nnn)(h:EH)(ps:Array Tmp)(asg body:Code)(v:nnn):R:=match v with
 |.nb g first cap=>gh h.hp h.nx (nnk.loop .ready none n env ps asg body) fun hp1=>C4 rd env h.nx (gi (first++[.nk h.nx]++cap) fun args=>mF E ih g args ⟨hp1,Nat.succ h.nx⟩)
 |_=>none
end step
abbrev gS:=EP->jQ->Option Nat->Nat->BT nnn->EH->R
noncomputable def C5:gS:=fun _ _ _ _ env h=>some (.ev .normal env h)
noncomputable def Ow (_:Nat):gS:=C5
noncomputable def Ox (i:Nat):gS:=fun _ _ _ _ env h=>some (.ev (.exit i) env h)
noncomputable def Oy:gS:=fun _ _ _ _ env h=>some (.ev .ret env h)
noncomputable def Oz (_:Nat):gS:=fun _ _ _ _ _ _=>none
noncomputable def OA (_:String):gS:=fun _ _ _ _ _ _=>none
noncomputable def OB (_:Nat)(ops:Array Oper)(dr:Bool):gS:=fun E ih rd _ env h =>
 Bool.rec (motive:=fun _=>R) (qx E ih rd ops ops.toList env h) (vn E ih rd ops (mH ops.toList []) (sF (mH ops.toList []) ops.toList.length) env h) dr
noncomputable def OC (a b:Code):gS:=fun _ ih rd n env h=>sG ih rd n b (ih rd n a env h)
noncomputable def OD (x:Operand)(a b:Code):gS:=fun E ih rd n env h=>zK (ak E.G (aK env) x) (ih rd n a env h) (ih rd n b env h)
noncomputable def OE (id:Nat)(b:Code):gS:=fun _ ih rd n env h=>zJ id (ih rd n b env h)
noncomputable def OF (b:Code):gS:=fun _ ih rd n env h=>qA (sG ih rd n (.loop b) (ih rd n b env h))
noncomputable def OG (b:Code):gS:=fun _ ih rd n env h=>qA (ih rd n b env h)
noncomputable def OH (f:Operand)(ps:Array Tmp)(asg body:Code):gS:=fun E ih rd n env h=>zL E ih rd n env h ps asg body (ak E.G (aK env) f)
noncomputable def OI:Code->gS:=fun c=>Code.casesOn (motive:=fun _=>gS) c C5 OB OC OD OE OF OH Ox OG Ow Oz Oy OA
noncomputable def C6 (E:EP)(ih:jQ)(rd:Option Nat)(n:Nat)(c:Code)(env:BT nnn)(h:EH):R:=OI c E ih rd n env h
noncomputable def C7 (E:EP)(fuel:Nat):jQ:=Nat.rec (motive:=fun _=>jQ) (fun _ _ _ _ _=>none) (fun _ ih=>C6 E ih) fuel
noncomputable def C8 (E:EP)(fuel:Nat)(f:FuncId)(args:List nnn):Option nnn:=zz E (C7 E fuel) f args
end Go.Hx
namespace Go.Hx
variable {P:Program} {G:Nat->Option (List nnn)}
variable {k:BT nnn->EH->R}{h:EH}{E:EP}{kd:IntKind}{o:Op}{d:Option Tmp}{r:RR}{t:TypeId}{H':nnl}{v:nnn}
def im (n:Nat)(k:Nat->R):dx n k=k n:=by cases n<;>rfl
def vo (n:Int)(k:Int->R):n9 n k=k n:=by
 cases n with
 |ofNat n=>show dx n (fun n=>k (.ofNat n))=_;rw[im]
 |negSucc n=>show dx n (fun n=>k (.negSucc n))=_;rw[im]
def C9 (n:Bool)(k:Bool->R):yV n k=k n:=by cases n<;>rfl
def iJ (l:List nnn):∀(k:List nnn->R),gi l k=k l:=by
 induction l with
 |nil=>intro k;rfl
 |cons x l ih=>intro k;exact ih _
def OJ (v:Value)(k:Value->R):yW v k=k v:=by
 unfold yW;split
 ·rw[vo]
 ·rw[C9]
 ·rfl
def OK (l:List (Int × Int)):∀(k:List (Int × Int)->R),uA l k=k l:=by
 induction l with
 |nil=>intro k;rfl
 |cons p l ih =>
  intro k;obtain⟨a,b⟩:=p;show (n9 a fun a=>n9 b fun b=>uA l fun l=>k ((a,b) :: l))=_;rw[vo,vo,ih]
def qB (v:nnn)(k:nnn->R):kK v k=k v:=by
 cases v with
 |lit v=>show yX v k=_;unfold yX;rw[OJ]
 |L n cs=>show yY n cs k=_;unfold yY;rw[im,iJ]
 |Z a b c d e=>show yZ a b c d e k=_;unfold yZ;simp only[im]
 |Y a b c=>show y8 a b c k=_;unfold y8;simp only[im]
 |ni cs n=>show y9 cs n k=_;unfold y9;rw[im,iJ]
 |agg cs=>show za cs k=_;unfold za;rw[iJ]
 |nc cs=>show zc cs k=_;unfold zc;rw[iJ]
 |nb f a b=>show zd f a b k=_;unfold zd;simp only[im,iJ]
 |nk n=>show ze n k=_;unfold ze;rw[im]
def vp (n:Nat):eK .nil n=none:=rfl
def OL (v:Option nnn)(l r:BT nnn):eK (.node v l r) 0=v:=rfl
def kR (v:Option nnn)(l r:BT nnn)(m:Nat):eK (.node v l r) (m+1)=if m % 2=0 then eK l (m / 2) else eK r (m / 2):=by
 show Nat.rec (motive:=fun _=>Option nnn) (eK l (m / 2)) (fun _ _=>eK r (m / 2)) (m % 2)=_;rcases Yo m with h|h<;>rw[h]<;>rfl
def zM (n:Nat):ba .nil n=none:=rfl
def lS (v:Option nnk)(l r:BT nnk)(m:Nat):ba (.node v l r) (m+1)=if m % 2=0 then ba l (m / 2) else ba r (m / 2):=by
 show Nat.rec (motive:=fun _=>Option nnk) (ba l (m / 2)) (fun _ _=>ba r (m / 2)) (m % 2)=_;rcases Yo m with h|h<;>rw[h]<;>rfl
def mI {m n:Nat}(h:m % 2=n % 2):m / 2=n / 2↔m=n:=U
def OM:∀(f n:Nat) (x:nnn) (k:BT nnn->R) (r:RR),uy f n x k=some r->∃t,k t=some r/\∀m,eK t m=if m=n then some x else none:=by
 intro f
 induction f with
 |zero=>intro n x k r h;cases h
 |succ f ih =>
  intro n x k r h;cases n with
  |zero =>
   refine⟨_,h,fun m=>?_⟩;cases m with
   |zero=>rfl
   |succ m=>rw[kR];simp[vp]
  |succ n =>
   have h':Nat.rec (motive:=fun _=>R) (uy f (n / 2) x fun l=>k (.node none l .nil)) (fun _ _=>uy f (n / 2) x fun r=>k (.node none .nil r)) (n % 2)=some r:=h;rcases Yo n with h2|h2<;>rw[h2]at h'
   ·obtain⟨t,h3,h4⟩:=ih _ _ _ _ h';refine⟨_,h3,fun m=>?_⟩;cases m with
    |zero=>rw[W7 U];rfl
    |succ m =>
     rw[kR,h4,vp];split
     ·rename_i hm;simp only[Yh,mI (hm.trans h2.symm)]
     ·rename_i hm;rw[W7];rintro hmn;have:m=n:=U;exact hm (this ▸ h2)
   ·obtain⟨t,h3,h4⟩:=ih _ _ _ _ h';refine⟨_,h3,fun m=>?_⟩;cases m with
    |zero=>rw[W7 U];rfl
    |succ m =>
     rw[kR,h4,vp];split
     ·rename_i hm;rw[W7];rintro hmn;have:m=n:=U;omega
     ·rename_i hm;have hm':m % 2=n % 2:=U;simp only[Yh,mI hm']
def zQ:∀(t:BT nnn) (n:Nat) (x:nnn) (k:BT nnn->R) (r:RR),mD t n x k=some r->∃t',k t'=some r/\∀m,eK t' m=if m=n then some x else eK t m:=by
 intro t
 induction t with
 |nil=>intro n x k r h;exact OM 20 n x k r h
 |node v l r ihl ihr =>
  intro n x k rr h;cases n with
  |zero =>
   refine⟨_,h,fun m=>?_⟩;cases m with
   |zero=>rfl
   |succ m=>rw[kR,kR];simp
  |succ n =>
   have h':Nat.rec (motive:=fun _=>R) (mD l (n / 2) x fun l=>k (.node v l r)) (fun _ _=>mD r (n / 2) x fun r=>k (.node v l r)) (n % 2)=some rr:=h;rcases Yo n with h2|h2<;>rw[h2]at h'
   ·obtain⟨t,h3,h4⟩:=ihl _ _ _ _ h';refine⟨_,h3,fun m=>?_⟩;cases m with
    |zero=>rw[W7 U];rfl
    |succ m =>
     rw[kR,kR,h4];split
     ·rename_i hm;simp only[Yh,mI (hm.trans h2.symm)]
     ·rename_i hm;rw[W7];rintro hmn;have:m=n:=U;exact hm (this ▸ h2)
   ·obtain⟨t,h3,h4⟩:=ihr _ _ _ _ h';refine⟨_,h3,fun m=>?_⟩;cases m with
    |zero=>rw[W7 U];rfl
    |succ m =>
     rw[kR,kR,h4];split
     ·rename_i hm;rw[W7];rintro hmn;have:m=n:=U;omega
     ·rename_i hm;have hm':m % 2=n % 2:=U;simp only[Yh,mI hm']
def ON:∀(f n:Nat) (x:nnk) (k:BT nnk->R) (r:RR),uz f n x k=some r->∃t,k t=some r/\∀m,ba t m=if m=n then some x else none:=by
 intro f
 induction f with
 |zero=>intro n x k r h;cases h
 |succ f ih =>
  intro n x k r h;cases n with
  |zero =>
   refine⟨_,h,fun m=>?_⟩;cases m with
   |zero=>rfl
   |succ m=>rw[lS];simp[zM]
  |succ n =>
   have h':Nat.rec (motive:=fun _=>R) (uz f (n / 2) x fun l=>k (.node none l .nil)) (fun _ _=>uz f (n / 2) x fun r=>k (.node none .nil r)) (n % 2)=some r:=h;rcases Yo n with h2|h2<;>rw[h2]at h'
   ·obtain⟨t,h3,h4⟩:=ih _ _ _ _ h';refine⟨_,h3,fun m=>?_⟩;cases m with
    |zero=>rw[W7 U];rfl
    |succ m =>
     rw[lS,h4,zM];split
     ·rename_i hm;simp only[Yh,mI (hm.trans h2.symm)]
     ·rename_i hm;rw[W7];rintro hmn;have:m=n:=U;exact hm (this ▸ h2)
   ·obtain⟨t,h3,h4⟩:=ih _ _ _ _ h';refine⟨_,h3,fun m=>?_⟩;cases m with
    |zero=>rw[W7 U];rfl
    |succ m =>
     rw[lS,h4,zM];split
     ·rename_i hm;rw[W7];rintro hmn;have:m=n:=U;omega
     ·rename_i hm;have hm':m % 2=n % 2:=U;simp only[Yh,mI hm']
def mJ:∀(t:BT nnk) (n:Nat) (x:nnk) (k:BT nnk->R) (r:RR),gh t n x k=some r->∃t',k t'=some r/\∀m,ba t' m=if m=n then some x else ba t m:=by
 intro t
 induction t with
 |nil=>intro n x k r h;exact ON 20 n x k r h
 |node v l r ihl ihr =>
  intro n x k rr h;cases n with
  |zero =>
   refine⟨_,h,fun m=>?_⟩;cases m with
   |zero=>rfl
   |succ m=>rw[lS,lS];simp
  |succ n =>
   have h':Nat.rec (motive:=fun _=>R) (gh l (n / 2) x fun l=>k (.node v l r)) (fun _ _=>gh r (n / 2) x fun r=>k (.node v l r)) (n % 2)=some rr:=h;rcases Yo n with h2|h2<;>rw[h2]at h'
   ·obtain⟨t,h3,h4⟩:=ihl _ _ _ _ h';refine⟨_,h3,fun m=>?_⟩;cases m with
    |zero=>rw[W7 U];rfl
    |succ m =>
     rw[lS,lS,h4];split
     ·rename_i hm;simp only[Yh,mI (hm.trans h2.symm)]
     ·rename_i hm;rw[W7];rintro hmn;have:m=n:=U;exact hm (this ▸ h2)
   ·obtain⟨t,h3,h4⟩:=ihr _ _ _ _ h';refine⟨_,h3,fun m=>?_⟩;cases m with
    |zero=>rw[W7 U];rfl
    |succ m =>
     rw[lS,lS,h4];split
     ·rename_i hm;rw[W7];rintro hmn;have:m=n:=U;omega
     ·rename_i hm;have hm':m % 2=n % 2:=U;simp only[Yh,mI hm']
def vq (env:BT nnn)(t:Tmp):aK env t=(eK env t).getD (.lit undef):=by
 unfold aK;cases eK env t<;>rfl
def Da {env env':BT nnn}{d:Nat}(h:∀m,eK env' m=if m=d then some v else eK env m):aK env'=aF (aK env) (some d) v:=by
 funext t
 simp only[vq,h,aF];split<;>rfl
def lT {env:BT nnn}{k:BT nnn->R}(h:fH env d v k=some r):∃env',k env'=some r/\aK env'=aF (aK env) d v:=by
 cases d with
 |none=>exact⟨env,h,rfl⟩
 |some d =>
  obtain⟨t,h1,h2⟩:=zQ _ _ _ _ _ h;exact⟨t,h1,Da h2⟩
def cW (env:BT nnn)(x:Operand)(k:nnn->R):cI G env x k=k (ak G (aK env) x):=by
 cases x with
 |tmp t =>
  show zh env t k=_;unfold zh;simp only[ak,vq];cases eK env t<;>rfl
 |const v=>rfl
 |global g =>
  show zf G g k=_;unfold zf;simp only[ak];cases G g with
  |none=>rfl
  |some c=>exact iJ _ _
 |func f=>rfl
def qC (env:BT nnn)(l:List Operand):∀(k:List nnn->R),mE G env l k=k (l.map (ak G (aK env))):=by
 induction l with
 |nil=>intro k;rfl
 |cons x l ih =>
  intro k;show cI G env x (fun x=>mE G env l fun l=>k (x :: l))=_;rw[cW,ih];rfl
def Db (env:BT nnn)(x:Option Operand)(k:Option nnn->R):zF G env x k=k (x.map (ak G (aK env))):=by
 cases x with
 |none=>rfl
 |some x=>exact cW _ _ _
def qD (o:OR)(h:EH)(v:nnn)(H':nnl):Prop :=
 match o with
 |.fail=>False
 |.val u=>v=u/\H'=au h
 |.nw u r g e c fr=>v=u/\H'=⟨fun j=>if j=r then some (.O g e c) else (au h).get j,if fr then h.nx+1 else h.nx⟩
 |.effM u r es fr=>v=u/\H'=⟨fun j=>if j=r then some (.mp es) else (au h).get j,if fr then h.nx+1 else h.nx⟩
def vr {hp:BT nnk}{r nx:Nat}{b:nnk}(hs:∀m,ba hp m=if m=r then some b else ba h.hp m):au ⟨hp,nx⟩=⟨fun j=>if j=r then some b.kL else (au h).get j,nx⟩:=by
 unfold au;congr 1
 funext j
 show Option.map nnk.kL (ba hp j)=_;rw[hs];split<;>rfl
def Dc {o:Option nnn}(hr:qD (.opt o) h v H'):o=some v/\H'=au h:=by
 cases o with
 |none=>exact hr.elim
 |some u=>exact⟨by rw[hr.1],hr.2⟩
def zR (k:IntKind)(i:Int):sj k i=k.wrap i:=by
 unfold sj;split
 ·have hr:∀j:Int,-9223372036854775808<=j->j<=9223372036854775807->IntKind.i64.wrap j=j:=fun j h1 h2=>W6 j U;cases i with
  |ofNat n =>
   show Bool.casesOn (motive:=fun _=>Int) (Nat.ble n 9223372036854775807) _ _=_;cases hb:Nat.ble n 9223372036854775807 with
   |false=>rfl
   |true =>
    have:=Yw hb;exact(hr (Int.ofNat n) (by simp only[Zt];omega) (by simp only[Zt];omega)).symm
  |negSucc n =>
   show Bool.casesOn (motive:=fun _=>Int) (Nat.ble n 9223372036854775807) _ _=_;cases hb:Nat.ble n 9223372036854775807 with
   |false=>rfl
   |true =>
    have:=Yw hb;exact(hr (Int.negSucc n) U U).symm
 ·rfl
def vt (a b:Int):sk a b=decide (a<b):=by
 cases a with
 |ofNat m=>cases b with
  |ofNat n =>
   show Nat.ble (m+1) n=_;rw[Yt,Nat.ble_eq,X0];simp;omega
  |negSucc n =>
   show false=_
   symm
   rw[YL];simp only[Zt];omega
 |negSucc m=>cases b with
  |ofNat n =>
   show true=_
   symm
   rw[X0];simp only[Zt];omega
  |negSucc n =>
   show Nat.ble (n+1) m=_;rw[Yt,Nat.ble_eq,X0];omega
def vu (a b:Int):ss a b=decide (a=b):=by
 cases a with
 |ofNat m=>cases b with
  |ofNat n =>
   show Nat.beq m n=_;rw[Yt,X0];constructor
   ·intro h;rw[Xr h]
   ·intro h;rw[Int.ofNat.inj h];exact Y8 n
  |negSucc n =>
   show false=_
   symm
   rw[YL];intro h;cases h
 |negSucc m=>cases b with
  |ofNat n =>
   show false=_
   symm
   rw[YL];intro h;cases h
  |negSucc n =>
   show Nat.beq m n=_;rw[Yt,X0];constructor
   ·intro h;rw[Xr h]
   ·intro h;rw[Int.negSucc.inj h];exact Y8 n
def zS {env:BT nnn}{i:Int}(hr:sA d k env h kd i=some r):∃env',aK env'=aF (aK env) d (.lit (.int kd i))/\k env' h=some r:=by
 unfold sA at hr;rw[vo]at hr;obtain⟨env',h1,h2⟩:=lT hr;exact⟨env',h2,h1⟩
def oo {env:BT nnn}{b:Bool}(hr:kQ d k env h b=some r):∃env',aK env'=aF (aK env) d (.lit (.bool b))/\k env' h=some r:=by
 unfold kQ at hr;rw[C9]at hr;obtain⟨env',h1,h2⟩:=lT hr;exact⟨env',h2,h1⟩
def Dd (a b:Int):(decide (b<a)).not=decide (a<=b):=by
 rw[Yt];simp
def OO {op:BinOp}{x y:Operand}{f:jR}(hf:sB op=some f){a b:Int}{env:BT nnn}
  (hr:f kd a b d k env h=some r):
  ∃v env',bq P op t x y (.lit (.int kd a)) (.lit (.int kd b))=some v/\aK env'=aF (aK env) d v/\k env' h=some r:=by
 unfold sB at hf;split at hf
 ·cases hf;obtain⟨env',h1,h2⟩:=zS hr;exact⟨_,env',Cc,by rw[h1,zR];rfl,h2⟩
 ·cases hf;obtain⟨env',h1,h2⟩:=zS hr;exact⟨_,env',Cd,by rw[h1,zR];rfl,h2⟩
 ·cases hf;obtain⟨env',h1,h2⟩:=zS hr;exact⟨_,env',Ce,by rw[h1,zR];rfl,h2⟩
 ·cases hf;obtain⟨env',h1,h2⟩:=oo hr;exact⟨_,env',Cf,by rw[h1,vt],h2⟩
 ·cases hf;obtain⟨env',h1,h2⟩:=oo hr;exact⟨_,env',Ci,by rw[h1,vt],h2⟩
 ·cases hf;obtain⟨env',h1,h2⟩:=oo hr;exact⟨_,env',Cg,by rw[h1,vt,Dd],h2⟩
 ·cases hf;obtain⟨env',h1,h2⟩:=oo hr;exact⟨_,env',Cj,by rw[h1,vt,Dd],h2⟩
 ·cases hf;obtain⟨env',h1,h2⟩:=oo hr;exact⟨_,env',Ck,by rw[h1,vu],h2⟩
 ·cases hf;obtain⟨env',h1,h2⟩:=oo hr;exact⟨_,env',Cl,by rw[h1,vu],h2⟩
 ·cases hf
def OP {a b:IntKind}(h:Nat.beq (oh a) (oh b)=true):a=b:=by
 have:=Xr h;cases a<;>cases b<;>first|rfl|simp[oh]at this
def OQ {a:nnn}(hr:zi P h t a=some v):fk P (au h) t a=some v:=by
 unfold zi at hr;split at hr
 ·rename_i id gen off;split at hr
  ·rename_i g e cells hg;show (match (au h).get id with|some (.O g _ cells)=>if g=gen then eP P t cells off else none|_=>none)=some v;have:(au h).get id=some (.O g e cells):=(by show Option.map nnk.kL (ba h.hp id)=_;rw[hg];rfl);rw[this];cases hb:Nat.beq g gen with
   |false=>rw[hb]at hr;cases hr
   |true =>
    rw[hb]at hr;simp only;rw[W8 (Xr hb)];exact hr
  ·cases hr
 ·exact hr
 ·cases hr
def OS {a x:nnn}(hr:qD (qm P h t a x) h v H'):v=.lit undef/\ie P (au h) t a x=some H':=by
 unfold qm at hr;split at hr
 ·rename_i id gen off;split at hr
  ·rename_i g e cells hg;have hget:(au h).get id=some (.O g e cells):=(by show Option.map nnk.kL (ba h.hp id)=_;rw[hg];rfl);cases hb:Nat.beq g gen with
   |false=>rw[hb]at hr;exact hr.elim
   |true =>
    rw[hb]at hr;simp only at hr;split at hr
    ·rename_i hc;refine⟨hr.1,?_⟩;have hgg:=Xr hb;show (match (au h).get id with|some (.O g e cells)=>if g=gen/\x.cells.length=P.cellsOf t/\x.cells.all nnn.one=true/\off+x.cells.length<=cells.length then some ((au h).upd id (.O g e (setAt cells off x.cells))) else none|_=>none)=some H';rw[hget];simp only;rw[W8 ⟨hgg,hc⟩,hr.2];rfl
    ·exact hr.elim
  ·exact hr.elim
 ·exact hr.elim
def VH (h:EH):Prop:=∀id b,ba h.hp id=some b->id<h.nx
def VH.wf (hv:VH h):fm (au h):=fun id b hb=>by
 have hb':Option.map nnk.kL (ba h.hp id)=some b:=hb;cases hg:ba h.hp id with
 |none=>rw[hg]at hb';cases hb'
 |some x=>exact hv id x hg
def ot (o:OR)(h:EH):Prop :=
 match o with
 |.nw _ r _ _ _ fr=>if fr then r=h.nx else r<h.nx
 |.effM _ r _ fr=>if fr then r=h.nx else r<h.nx
 |_=>True
def De {k:nnn->EH->R}{o:OR}(hv:VH h)(hok:ot o h)(hr:zj h k o=some r):∃v h',qD o h v (au h')/\VH h'/\k v h'=some r:=by
 cases o with
 |fail=>cases hr
 |val v =>
  have hr':kK v (fun v=>k v h)=some r:=hr;rw[qB]at hr';exact⟨v,h,⟨rfl,rfl⟩,hv,hr'⟩
 |nw v r' g e c fr =>
  have hr':(dx r' fun r'=>dx g fun g=>gi c fun c=>gh h.hp r' (.O g e c) fun hp=>kK v fun v=>k v ⟨hp,Bool.casesOn (motive:=fun _=>Nat) fr h.nx (Nat.succ h.nx)⟩)=some r:=hr;rw[im,im,iJ]at hr';obtain⟨hp,h1,h2⟩:=mJ _ _ _ _ _ hr';rw[qB]at h1;refine⟨v,_,⟨rfl,?_⟩,?_,h1⟩
  ·rw[vr h2];cases fr<;>rfl
  ·intro id b hb;rw[h2]at hb;cases fr with
   |false =>
    have hlt:r'<h.nx:=hok;show id<h.nx;split at hb
    ·omega
    ·exact hv id b hb
   |true =>
    have hlt:r'=h.nx:=hok;show id<h.nx+1;split at hb
    ·omega
    ·have:=hv id b hb;omega
 |effM v r' es fr =>
  have hr':(dx r' fun r'=>uA es fun es=>gh h.hp r' (.mp es) fun hp=>kK v fun v=>k v ⟨hp,Bool.casesOn (motive:=fun _=>Nat) fr h.nx (Nat.succ h.nx)⟩)=some r:=hr;rw[im,OK]at hr';obtain⟨hp,h1,h2⟩:=mJ _ _ _ _ _ hr';rw[qB]at h1;refine⟨v,_,⟨rfl,?_⟩,?_,h1⟩
  ·rw[vr h2];cases fr<;>rfl
  ·intro id b hb;rw[h2]at hb;cases fr with
   |false =>
    have hlt:r'<h.nx:=hok;show id<h.nx;split at hb
    ·omega
    ·exact hv id b hb
   |true =>
    have hlt:r'=h.nx:=hok;show id<h.nx+1;split at hb
    ·omega
    ·have:=hv id b hb;omega
def Plain (P:Program)(G:Nat->Option (List nnn))(o:Op)(d:Option Tmp)(k:BT nnn->EH->R)(env:BT nnn)(h:EH)(r:RR):Prop :=
 ∃v env' h',aj P G (aK env) (au h) h.nx o=some (v,au h')/\VH h'/\aK env'=aF (aK env) d v/\k env' h'=some r
def jj {env:BT nnn}{x:OR}(hv:VH h)(hok:ot x h)(hrel:∀v H',qD x h v H'->aj P G (aK env) (au h) h.nx o=some (v,H'))
  (hr:dA d k env x h=some r):Plain P G o d k env h r:=by
 obtain⟨v,h',h1,h2,h3⟩:=De hv hok hr;obtain⟨env',h4,h5⟩:=lT h3;exact⟨v,env',h',hrel _ _ h1,h2,h5,h4⟩
def sH {env:BT nnn}(hv:VH h)(hrel:aj P G (aK env) (au h) h.nx o=some (v,au h))
  (hr:fH env d v (fun env=>k env h)=some r):Plain P G o d k env h r:=by
 obtain⟨env',h4,h5⟩:=lT hr;exact⟨v,env',h,hrel,hv,h5,h4⟩
def Df (o:Option nnn)(h:EH):ot (.opt o) h:=by cases o<;>trivial
def iq {env:BT nnn}{x:Option nnn}(hv:VH h)(hrel:aj P G (aK env) (au h) h.nx o=x.map fun v=>(v,au h))
  (hr:dA d k env (.opt x) h=some r):Plain P G o d k env h r :=
 jj hv (Df _ _) (fun v H' hx=>by
  obtain⟨h1,h2⟩:=Dc hx;rw[hrel,h1,h2];rfl) hr
def Dg (ρ:Env)(id:Nat)(o:Op):(bz P G ρ id o).nw=[]\/∃r,(bz P G ρ id o).nw=[r]:=by
 have hid:∀v:nnn,aN v=[]\/∃r,aN v=[r]:=fun v=>by cases v<;>first|exact .inl rfl|exact .inr ⟨_,rfl⟩
 have hb:∀(b:Builtin) (ats:List TypeId) (args:List nnn),(iH P id b ats args).nw=[]\/∃r,(iH P id b ats args).nw=[r]:=fun b ats args=>by
  unfold iH;split
  ·split
   ·exact hid _
   ·exact .inr ⟨_,rfl⟩
  ·exact hid _
  ·exact hid _
  ·exact .inl rfl
  ·exact .inl rfl
 have hidM:∀v:nnn,dN v=[]\/∃r,dN v=[r]:=fun v=>by cases v<;>first|exact .inl rfl|exact .inr ⟨_,rfl⟩
 unfold bz;split<;>first|exact .inl rfl|exact .inr ⟨_,rfl⟩|exact hid _|exact hidM _|skip
 split
 ·exact hb _ _ _
 ·exact .inl rfl
def vv {env:BT nnn}(hv:VH h):ot (om E env h o) h/\∀v H',qD (om E env h o) h v H'->aj E.P E.G (aK env) (au h) h.nx o=some (v,H'):=by
 unfold om su;split
 ·exact⟨trivial,fun _ _ h=>h.elim⟩
 ·rename_i u H2 hop;obtain⟨e,al,h1,h2,h3,h4,h5,_⟩:=yx (hv.wf) hop;split
  ·rename_i hf;refine⟨trivial,fun v H' hx=>?_⟩;have he:e=none:=by
    cases e with
    |none=>rfl
    |some kb =>
     have h3':=(h3 kb.1 kb.2 rfl).1;have hf':(bz E.P E.G (aK env) (au h).C o).nw=[]:=hf;rw[hf']at h3';cases h3'
   have hal:al=false:=by
    cases al with
    |false=>rfl
    |true =>
     obtain⟨b,hb⟩:=h4 rfl;rw[he]at hb;cases hb
   obtain⟨rfl,rfl⟩:=hx;subst he;subst hal;rw[hop];congr 2;have h1':H2.get=(au h).get:=h1;have h2':H2.C=(au h).C:=h2;cases H2;simp only at h1' h2';rw[h1',h2']
  ·rename_i r l hf;split
   ·rename_i g e' c hg;have hf':(bz E.P E.G (aK env) (au h).C o).nw=r :: l:=hf;have hl:l=[]:=by
     rcases Dg (P:=E.P) (G:=E.G) (aK env) (au h).C o with h6|⟨r',h6⟩
     ·rw[hf']at h6;cases h6
     ·rw[hf']at h6;cases h6;rfl
    subst hl;have key:H2=⟨fun j=>if j=r then some (.O g e' c) else (au h).get j,if al then (au h).C+1 else (au h).C⟩/\(if al=true then r=h.nx else r<h.nx):=by
     cases e with
     |none =>
      have hal:al=false:=by
       cases al with
       |false=>rfl
       |true=>obtain⟨b,hb⟩:=h4 rfl;cases hb
      subst hal;have h1':H2.get=(au h).get:=h1;have h2':H2.C=(au h).C:=h2;have hgr:(au h).get r=some (.O g e' c):=(by rw[<- h1'];exact hg);refine⟨?_,hv.wf r _ hgr⟩;cases H2;simp only at h1' h2';rw[h1',h2'];congr 1
      funext j
      split
      ·rename_i hj;rw[hj,hgr]
      ·rfl
     |some kb =>
      obtain⟨kk,b⟩:=kb;obtain⟨h7,h8⟩:=h3 kk b rfl;rw[hf']at h7;have hkk:kk=r:=(by simpa using h7);subst hkk;have hb:b=.O g e' c:=by
       rw[h1]at hg;simp only[dO,if_true]at hg;exact Option.some.inj hg
      subst hb;refine⟨?_,?_⟩
      ·cases H2;simp only at h1 h2;rw[h1,h2];rfl
      ·cases al with
       |true =>
        obtain⟨b,hb⟩:=h4 rfl;simp only[Option.some.injEq,Prod.mk.injEq]at hb;exact hb.1
       |false=>exact h5 _ (h8 rfl)
    have hbeq:Nat.beq r h.nx=al:=by
     cases al with
     |true=>rw[show r=h.nx from key.2];exact Y8 _
     |false =>
      have:r<h.nx:=key.2;cases hb:Nat.beq r h.nx with
      |false=>rfl
      |true=>have:=Xr hb;omega
    rw[hbeq];refine⟨?_,fun v H' hx=>?_⟩
    ·have:=key.2;cases al<;>exact this
    ·obtain⟨rfl,rfl⟩:=hx;rw[hop,key.1];rfl
   ·rename_i es hg;have hf':(bz E.P E.G (aK env) (au h).C o).nw=r :: l:=hf;have hl:l=[]:=by
     rcases Dg (P:=E.P) (G:=E.G) (aK env) (au h).C o with h6|⟨r',h6⟩
     ·rw[hf']at h6;cases h6
     ·rw[hf']at h6;cases h6;rfl
    subst hl;have key:H2=⟨fun j=>if j=r then some (.mp es) else (au h).get j,if al then (au h).C+1 else (au h).C⟩/\(if al=true then r=h.nx else r<h.nx):=by
     cases e with
     |none =>
      have hal:al=false:=by
       cases al with
       |false=>rfl
       |true=>obtain⟨b,hb⟩:=h4 rfl;cases hb
      subst hal;have h1':H2.get=(au h).get:=h1;have h2':H2.C=(au h).C:=h2;have hgr:(au h).get r=some (.mp es):=(by rw[<- h1'];exact hg);refine⟨?_,hv.wf r _ hgr⟩;cases H2;simp only at h1' h2';rw[h1',h2'];congr 1
      funext j
      split
      ·rename_i hj;rw[hj,hgr]
      ·rfl
     |some kb =>
      obtain⟨kk,b⟩:=kb;obtain⟨h7,h8⟩:=h3 kk b rfl;rw[hf']at h7;have hkk:kk=r:=(by simpa using h7);subst hkk;have hb:b=.mp es:=by
       rw[h1]at hg;simp only[dO,if_true]at hg;exact Option.some.inj hg
      subst hb;refine⟨?_,?_⟩
      ·cases H2;simp only at h1 h2;rw[h1,h2];rfl
      ·cases al with
       |true =>
        obtain⟨b,hb⟩:=h4 rfl;simp only[Option.some.injEq,Prod.mk.injEq]at hb;exact hb.1
       |false=>exact h5 _ (h8 rfl)
    have hbeq:Nat.beq r h.nx=al:=by
     cases al with
     |true=>rw[show r=h.nx from key.2];exact Y8 _
     |false =>
      have:r<h.nx:=key.2;cases hb:Nat.beq r h.nx with
      |false=>rfl
      |true=>have:=Xr hb;omega
    rw[hbeq];refine⟨?_,fun v H' hx=>?_⟩
    ·have:=key.2;cases al<;>exact this
    ·obtain⟨rfl,rfl⟩:=hx;rw[hop,key.1];rfl
   ·exact⟨trivial,fun _ _ h=>h.elim⟩
def mK {ih:jQ}{rd:Option Nat}{env:BT nnn}(hv:VH h)(hr:fR o E ih rd d k env h=some r):Plain E.P E.G o d k env h r :=
 jj hv (vv hv).1 (vv hv).2 hr
end Go.Hx
namespace Go.Hx
variable {E:EP} {ih:jQ} {rd:Option Nat} {d:Option Tmp} {k:BT nnn->EH->R} {env:BT nnn} {h:EH} {r:RR}
variable {parts:Array (Nat × Operand)}{f g:Nat}{a i x:Operand}{P:Program}{e t u:TypeId}{H H':nnl}{v:nnn}
def Dh {c:List nnn}:ot (.nw v h.nx g e c true) h:=rfl
def Di (parts:Array (Nat × Operand))(f:Operand->nnn):(parts.toList.map (·.1)).zip ((parts.toList.map (·.2)).map f)=parts.toList.map fun p=>(p.1,f p.2):=by
 induction parts.toList with
 |nil=>rfl
 |cons p l ih=>simp only[List.map_cons,Zm,ih]
def zT {b:Blk}(h:H.lay H.C b=some H'):H'=⟨fun j=>if j=H.C then some b else H.get j,H.C+1⟩:=by
 unfold nnl.lay at h;rw[W8 rfl]at h;exact(Option.some.inj h).symm
def Dj {x:Option (nnn × nnl)}(hx:∀u H2,x=some (u,H2)->∃g e c,H2=⟨fun j=>if j=h.nx then some (.O g e c) else (au h).get j,h.nx+1⟩):
  ot (uT h.nx true x) h/\(qD (uT h.nx true x) h v H'->x=some (v,H')):=by
 unfold uT;split
 ·rename_i u H2;obtain⟨g,e,c,rfl⟩:=hx u H2 rfl;simp only[sE,if_true];refine⟨rfl,fun hr=>?_⟩;obtain⟨rfl,rfl⟩:=hr;rfl
 ·exact⟨trivial,fun hr=>hr.elim⟩
def OT (hv:VH h)(hr:mG x E ih rd d k env h=some r):Plain E.P E.G (.move x) d k env h r:=by
 unfold mG at hr;rw[cW]at hr;exact sH hv rfl hr
def OU (hv:VH h)(hr:mG x E ih rd d k env h=some r):Plain E.P E.G (.assign x) d k env h r:=by
 unfold mG at hr;rw[cW]at hr;exact sH hv rfl hr
def OV (hv:VH h)(hr:uK e x E ih rd d k env h=some r):Plain E.P E.G (.box e x) d k env h r:=by
 unfold uK at hr;rw[cW]at hr;refine jj hv Dh (fun v H' hx=>?_) hr;obtain⟨rfl,rfl⟩:=hx;show ((au h).lay (au h).C (.O 0 e (ak E.G (aK env) x).cells)).map (fun H'=>(nnn.Y h.nx 0 0,H'))=_;unfold nnl.lay;rw[W8 rfl];rfl
def OW (hv:VH h)(hr:uL t parts E ih rd d k env h=some r):Plain E.P E.G (.build t parts) d k env h r:=by
 unfold uL at hr;rw[qC,Di]at hr;exact iq hv rfl hr
def OX {len:Nat}(hv:VH h)(hr:uM t len parts E ih rd d k env h=some r):Plain E.P E.G (.buildSlice t len parts) d k env h r:=by
 unfold uM at hr;rw[qC,Di]at hr;have hform:∀u H2,jG E.P (au h) h.nx t len (parts.toList.map fun p=>(p.1,ak E.G (aK env) p.2))=some (u,H2)->∃e c,H2=⟨fun j=>if j=h.nx then some (.O 0 e c) else (au h).get j,h.nx+1⟩:=by
  intro u H2 hb;unfold jG at hb;split at hb
  ·split at hb
   ·simp only[Xa,W4,Prod.mk.injEq]at hb;obtain⟨z,_,c,_,H3,hl,_,rfl⟩:=hb;exact⟨_,_,zT hl⟩
   ·cases hb
  ·cases hb
 refine jj hv ?_ (fun v H' hx=>?_) hr
 ·unfold su;split
  ·trivial
  ·rename_i u H2 hb;obtain⟨e,c,rfl⟩:=hform _ _ hb;simp only[if_true,show Nat.beq h.nx h.nx=true from Y8 _];rfl
 ·unfold su at hx;split at hx
  ·exact hx.elim
  ·rename_i u H2 hb;obtain⟨e,c,rfl⟩:=hform _ _ hb;simp only[if_true,show Nat.beq h.nx h.nx=true from Y8 _]at hx;obtain⟨rfl,rfl⟩:=hx;exact hb
def OY (hv:VH h)(hr:uN t a E ih rd d k env h=some r):Plain E.P E.G (.load t a) d k env h r:=by
 unfold uN at hr;rw[cW]at hr;refine jj hv (Df _ _) (fun v H' hx=>?_) hr;obtain⟨h1,rfl⟩:=Dc hx;show (fk E.P (au h) t (ak E.G (aK env) a)).map _=_;rw[OQ h1];rfl
def OZ {a:nnn}(hv:VH h):ot (qm P h t a v) h:=by
 unfold qm;split
 ·rename_i id gen off;split
  ·rename_i g e cells hg;cases hb:Nat.beq g gen with
   |false=>trivial
   |true =>
    simp only;split
    ·show id<h.nx;exact hv _ _ hg
    ·trivial
  ·trivial
 ·trivial
def O0 (hv:VH h)(hr:uO t a x E ih rd d k env h=some r):Plain E.P E.G (.store t a x) d k env h r:=by
 unfold uO at hr;cases hu:(E.P.underlying t).isSome with
 |false=>rw[hu]at hr;cases hr
 |true =>
  rw[hu]at hr;have hr':(cI E.G env a fun a=>cI E.G env x fun v=>dA d k env (qm E.P h t a v) h)=some r:=hr;rw[cW,cW]at hr';refine jj hv ?_ (fun v H' hx=>?_) hr'
  ·exact OZ hv
  ·obtain⟨rfl,h2⟩:=OS hx;show (if (E.P.underlying t).isSome then (ie E.P (au h) t (ak E.G (aK env) a) (ak E.G (aK env) x)).map (fun H'=>(nnn.lit undef,H')) else none)=_;rw[W8 hu,h2];rfl
def Dk (P:Program)(G:Nat->Option (List nnn))(o:Op)(d:Option Tmp)(k:BT nnn->EH->R)(env:BT nnn)(h:EH)(r:RR):Prop :=
 ∃op t x y u env',o=.binOp op t x y u/\iF (au h) op (ak G (aK env) x) (ak G (aK env) y)=some true/\lM (P.underlying t)=true/\aK env'=aF (aK env) d (.lit (.bool (op == .neq)))/\k env' h=some r
def O1 {op:BinOp}{y:Operand}(hv:VH h)(hr:uQ op t x y u E ih rd d k env h=some r):Plain E.P E.G (.binOp op t x y u) d k env h r\/Dk E.P E.G (.binOp op t x y u) d k env h r:=by
 unfold uQ at hr;rw[cW,cW]at hr;have hop:aj E.P E.G (aK env) (au h) h.nx (.binOp op t x y u)=(bq E.P op t x y (ak E.G (aK env) x) (ak E.G (aK env) y)).map fun v=>(v,au h):=rfl;unfold CS at hr;split at hr
 ·rename_i kd a kd' b ha hb;rw[ha,hb]at hop;left;cases hk:Nat.beq (oh kd) (oh kd') with
  |false=>rw[hk]at hr;exact iq hv hop hr
  |true =>
   rw[hk]at hr;obtain rfl:=OP hk;have hr':Option.rec (motive:=fun _=>R) (uP E op t x y (.lit (.int kd a)) (.lit (.int kd b)) d k env h) (fun f=>f kd a b d k env h) (sB op)=some r:=hr;cases hi:sB op with
   |none =>
    rw[hi]at hr';exact iq hv hop hr'
   |some f =>
    rw[hi]at hr';obtain⟨v,env',h1,h2,h3⟩:=OO (P:=E.P) (t:=t) (x:=x) (y:=y) hi hr';refine⟨v,env',h,?_,hv,h2,h3⟩;rw[hop,h1];rfl
 ·unfold CR at hr;split at hr
  ·exact .inl (iq hv hop hr)
  ·rename_i hn;right;cases hs:lM (E.P.underlying t) with
   |false=>rw[hs]at hr;cases hr
   |true =>
    rw[hs]at hr;obtain⟨env',h1,h2⟩:=oo (show kQ d k env h (op == .neq)=some r from hr);exact⟨op,t,x,y,u,env',rfl,hn,hs,h1,h2⟩
  ·cases hr
def O2 {fn:Fn}{first cap:Array Operand}(hv:VH h)(hr:uR fn first cap E ih rd d k env h=some r):Plain E.P E.G (.makeFunc fn first cap) d k env h r:=by
 unfold uR at hr;split at hr
 ·rw[qC,qC]at hr;exact sH hv rfl hr
 ·cases hr
def O3 (hv:VH h)(hr:uS t x i E ih rd d k env h=some r):Plain E.P E.G (.indexAddr t x i) d k env h r:=by
 unfold uS at hr;rw[cW,cW]at hr;refine iq hv ?_ hr;simp only[aj,qg];split
 ·rename_i heq;rw[heq]
 ·rename_i hne;split
  ·rename_i heq;exact absurd heq (hne _ _)
  ·rfl
def O4 {c b:Operand}(hv:VH h)(hr:uU c a b E ih rd d k env h=some r):Plain E.P E.G (.pick c a b) d k env h r:=by
 unfold uU at hr;rw[cW]at hr;split at hr
 ·rename_i t hc;have hop:∀t',ak E.G (aK env) c=.lit (.bool t')->aj E.P E.G (aK env) (au h) h.nx (.pick c a b)=some (if t' then ak E.G (aK env) a else ak E.G (aK env) b,au h):=fun t' ht=>by
   simp only[aj,ht]
  cases t with
  |false =>
   have hr':(cI E.G env b fun v=>fH env d v fun env=>k env h)=some r:=hr;rw[cW]at hr';exact sH hv (hop _ hc) hr'
  |true =>
   have hr':(cI E.G env a fun v=>fH env d v fun env=>k env h)=some r:=hr;rw[cW]at hr';exact sH hv (hop _ hc) hr'
 ·cases hr
def O5 (hv:VH h)(hr:uV e E ih rd d k env h=some r):Plain E.P E.G (.alloc e) d k env h r:=by
 unfold uV at hr;split at hr
 ·rename_i z hz;refine jj hv Dh (fun v H' hx=>?_) hr;obtain⟨rfl,rfl⟩:=hx;show ((bC E.P e).bind fun z=>((au h).lay (au h).C (.O 0 e z)).map fun H'=>(nnn.Y h.nx 0 0,H'))=_;rw[hz];show ((au h).lay (au h).C (.O 0 e z)).map _=_;unfold nnl.lay;rw[W8 rfl];rfl
 ·cases hr
def O6 (hv:VH h)(hr:uW x E ih rd d k env h=some r):Plain E.P E.G (.nilCheck x) d k env h r:=by
 unfold uW at hr;rw[cW]at hr;exact iq hv rfl hr
def O7 {op:UnOp}(hv:VH h)(hr:uX op t x E ih rd d k env h=some r):Plain E.P E.G (.unOp op t x) d k env h r:=by
 unfold uX at hr;rw[cW]at hr;exact iq hv rfl hr
def O8 {s:TypeId}(hv:VH h)(hr:uY s t x E ih rd d k env h=some r):Plain E.P E.G (.convert s t x) d k env h r:=by
 unfold uY at hr;rw[cW]at hr;exact iq hv rfl hr
def O9 {t:Operand}{i:Nat}(hv:VH h)(hr:ve t i E ih rd d k env h=some r):Plain E.P E.G (.extract t i) d k env h r:=by
 unfold ve at hr;rw[cW]at hr;exact iq hv rfl hr
def Pa (hv:VH h)(hr:vd t x i E ih rd d k env h=some r):Plain E.P E.G (.index t x i) d k env h r:=by
 unfold vd at hr;rw[cW,cW]at hr;exact iq hv rfl hr
def Pb (hv:VH h)(hr:vb t x f E ih rd d k env h=some r):Plain E.P E.G (.field t x f) d k env h r:=by
 unfold vb at hr;rw[cW]at hr;refine iq hv ?_ hr;simp only[aj,Cb];cases bD E.P t f with
 |none=>rfl
 |some of =>
  simp only[Option.bind_some];generalize ak E.G (aK env) x=v;cases v with
  |lit v=>cases v<;>rfl
  |_=>rfl
def Pc (hv:VH h)(hr:va t x f E ih rd d k env h=some r):Plain E.P E.G (.fieldAddr t x f) d k env h r:=by
 unfold va at hr;rw[cW]at hr;refine iq hv ?_ hr;simp only[aj,qf];cases bD E.P t f with
 |none=>rfl
 |some of =>
  simp only[Option.bind_some];generalize ak E.G (aK env) x=v;cases v with
  |Y id gen off =>
   show Option.map _ ((au h).na id gen)=Option.map _ (Option.map _ ((au h).na id gen));rw[Option.map_map];rfl
  |_=>rfl
def Pd {l c:Operand}(hv:VH h)(hr:uZ t l c E ih rd d k env h=some r):Plain E.P E.G (.makeSlice t l c) d k env h r:=by
 unfold uZ at hr;rw[cW,cW]at hr;have hform:∀u H2,je E.P (au h) h.nx t (ak E.G (aK env) l) (ak E.G (aK env) c)=some (u,H2)->∃g e c,H2=⟨fun j=>if j=h.nx then some (.O g e c) else (au h).get j,h.nx+1⟩:=by
  intro u H2 hb;unfold je at hb;split at hb
  ·split at hb
   ·simp only[Xa,W4,Prod.mk.injEq]at hb;obtain⟨z,_,H3,hl,_,rfl⟩:=hb;exact⟨_,_,_,zT hl⟩
   ·cases hb
  ·cases hb
 exact jj hv (Dj (v:=.lit undef) (H':=au h) hform).1 (fun v H' hx=>(Dj hform).2 hx) hr
def Pe {l u m:Option Operand}(hv:VH h)(hr:u9 t x l u m E ih rd d k env h=some r):Plain E.P E.G (.slice t x l u m) d k env h r:=by
 unfold u9 at hr;split at hr
 ·rw[cW,Db,Db]at hr;exact iq hv rfl hr
 ·cases hr
def Pf {c:Call}(hb:c.callee=.builtin .len)(ht:c.argTypes.toList=[t])(ha:c.args.toList=[x])(hv:VH h)(hr:vf t x E ih rd d k env h=some r):Plain E.P E.G (.call c) d k env h r:=by
 unfold vf at hr;rw[cW]at hr;refine iq hv ?_ hr;simp only[aj,hb,ht,ha];rfl
def Pg {nx:Nat}{id o l z:Nat}{x:nnn}(hr:bh P H nx t u (.Z id g o l z) x=some (v,H')):
  (v=.Z id g o l z/\H'=H)\/∃l' e c,v=.Z id (g+1) 0 l' z/\H'=H.upd id (.O (g+1) e c)/\∃e0 c0,H.na id g=some (e0,c0):=by
 unfold bh at hr;split at hr
 ·split at hr
  ·simp only[Xa]at hr;obtain⟨_,_,nx',_,ec,hl,hr⟩:=hr;split at hr
   ·split at hr
    ·simp only[Option.some.injEq,Prod.mk.injEq]at hr;exact .inl ⟨hr.1.symm,hr.2.symm⟩
    ·simp only[Option.some.injEq,Prod.mk.injEq]at hr;exact .inr ⟨_,_,_,hr.1.symm,hr.2.symm,ec.1,ec.2,hl⟩
   ·cases hr
  ·cases hr
 ·cases hr
def append_nil {s x:nnn}(hs:∀a b c d e,s≠.Z a b c d e)(hr:bh P H H.C t u s x=some (v,H')):
  (v=.lit (.slice none 0 0)/\H'=H)\/∃l z e c,v=.Z H.C 0 0 l z/\H'=⟨fun j=>if j=H.C then some (.O 0 e c) else H.get j,H.C+1⟩:=by
 unfold bh at hr;split at hr
 ·split at hr
  ·simp only[Xa]at hr;obtain⟨_,_,nx',_,hr⟩:=hr;split at hr
   ·split at hr
    ·simp only[Option.some.injEq,Prod.mk.injEq]at hr;exact .inl ⟨hr.1.symm,hr.2.symm⟩
    ·split at hr
     ·simp only[W4,Prod.mk.injEq]at hr;obtain⟨H3,hl,h1,rfl⟩:=hr;exact .inr ⟨_,_,_,_,h1.symm,zT hl⟩
     ·cases hr
   ·exact absurd rfl (hs _ _ _ _ _)
   ·cases hr
  ·cases hr
 ·cases hr
def Ph {c:Call}{s:Operand}(hb:c.callee=.builtin .append)(ht:c.argTypes.toList=[t,u])(ha:c.args.toList=[s,x])(hv:VH h)(hr:vg t u s x E ih rd d k env h=some r):Plain E.P E.G (.call c) d k env h r:=by
 unfold vg at hr;rw[cW,cW]at hr;have hop:aj E.P E.G (aK env) (au h) h.nx (.call c)=bh E.P (au h) h.nx t u (ak E.G (aK env) s) (ak E.G (aK env) x):=by
  simp only[aj,hb,ht,ha];rfl
 generalize ak E.G (aK env) s=sv at hr hop;generalize ak E.G (aK env) x=xv at hr hop;unfold CT at hr;split at hr
 ·rename_i id g o l z;split at hr
  ·rename_i g' o' l' z' H' happ;rename_i id';have happ0:=happ;rcases Pg happ with ⟨h1,rfl⟩|⟨l2,e,c2,h1,rfl,e0,c0,hlive⟩
   ·simp only[nnn.Z.injEq]at h1;obtain⟨rfl,rfl,rfl,rfl,rfl⟩:=h1;have hb2:Nat.beq g' g'=true:=Y8 _;rw[hb2]at hr;refine jj (x:=.val (.Z id' g' o' l' z')) hv trivial (fun v H'' hx=>?_) hr;obtain⟨rfl,rfl⟩:=hx;rw[hop,happ0]
   ·simp only[nnn.Z.injEq]at h1;obtain⟨rfl,rfl,rfl,rfl,rfl⟩:=h1;have hne:Nat.beq (g+1) g=false:=by
     cases hbq:Nat.beq (g+1) g with
     |false=>rfl
     |true=>have:=Xr hbq;omega
    rw[hne]at hr;have hr':dA d k env (sE (.Z id' (g+1) 0 l' z') id' false (((au h).upd id' (.O (g+1) e c2)).get id')) h=some r:=hr;have hget:((au h).upd id' (.O (g+1) e c2)).get id'=some (.O (g+1) e c2):=(by simp[nnl.upd]);rw[hget]at hr';refine jj (x:=.nw (.Z id' (g+1) 0 l' z') id' (g+1) e c2 false) hv ?_ (fun v H'' hx=>?_) hr'
    ·show id'<h.nx;exact jh hv.wf hlive
    ·obtain⟨rfl,rfl⟩:=hx;rw[hop,happ0];rfl
  ·cases hr
 ·rename_i hs;split at hr
  ·rename_i id' g' o' l' z' H' happ;rcases append_nil (H:=au h) (fun a b c d e he=>hs a b c d e he) happ with ⟨h1,_⟩|⟨l2,z2,e,c2,h1,h2⟩
   ·cases h1
   ·have hget:H'.get h.nx=some (.O 0 e c2):=by
     rw[h2];show (if h.nx=h.nx then some (Blk.O 0 e c2) else _)=_;rw[W8 rfl]
    rw[hget]at hr;refine jj (x:=.nw (.Z id' g' o' l' z') h.nx 0 e c2 true) hv rfl (fun v H'' hx=>?_) hr;obtain⟨rfl,rfl⟩:=hx;rw[hop,happ,h2];rfl
  ·rename_i v H' happ;rcases append_nil (H:=au h) (fun a b c d e he=>hs a b c d e he) happ with ⟨h1,h2⟩|⟨l2,z2,e,c2,h1,h2⟩
   ·refine jj (x:=.val (.lit v)) hv trivial (fun v H'' hx=>?_) hr;obtain⟨rfl,rfl⟩:=hx;rw[hop,happ,h2]
   ·cases h1
  ·cases hr
def Pi (c:Call)(b:Builtin):(∃t x,b=.len/\c.argTypes.toList=[t]/\c.args.toList=[x]/\qv c b=vf t x) \/
  (∃t u s x,b=.append/\c.argTypes.toList=[t,u]/\c.args.toList=[s,x]/\qv c b=vg t u s x)\/qv c b=fR (.call c):=by
 unfold qv;split
 ·rename_i t x h1 h2;exact .inl ⟨t,x,rfl,h1,h2,rfl⟩
 ·rename_i t u s x h1 h2;exact .inr (.inl ⟨t,u,s,x,rfl,h1,h2,rfl⟩)
 ·exact .inr (.inr rfl)
def Pj {o:Op}(hv:VH h)(hr:vh o E ih rd d k env h=some r):
  Plain E.P E.G o d k env h r\/Dk E.P E.G o d k env h r\/(∃fv args ats,o=.call ⟨.value fv,args,ats⟩/\zE fv args E ih rd d k env h=some r)\/(∃x,o=.panic x/\zD x E ih rd d k env h=some r):=by
 cases o with
 |move x=>exact .inl (OT hv (show mG x E ih rd d k env h=some r from hr))
 |assign x=>exact .inl (OU hv (show mG x E ih rd d k env h=some r from hr))
 |pick c a b=>exact .inl (O4 hv (show uU c a b E ih rd d k env h=some r from hr))
 |alloc e=>exact .inl (O5 hv (show uV e E ih rd d k env h=some r from hr))
 |box e x=>exact .inl (OV hv (show uK e x E ih rd d k env h=some r from hr))
 |build t parts=>exact .inl (OW hv (show uL t parts E ih rd d k env h=some r from hr))
 |buildSlice t l parts=>exact .inl (OX hv (show uM t l parts E ih rd d k env h=some r from hr))
 |load t a=>exact .inl (OY hv (show uN t a E ih rd d k env h=some r from hr))
 |store t a x=>exact .inl (O0 hv (show uO t a x E ih rd d k env h=some r from hr))
 |nilCheck x=>exact .inl (O6 hv (show uW x E ih rd d k env h=some r from hr))
 |binOp op t x y u=>exact(O1 hv (show uQ op t x y u E ih rd d k env h=some r from hr)).elim .inl fun h=>.inr (.inl h)
 |unOp op t x=>exact .inl (O7 hv (show uX op t x E ih rd d k env h=some r from hr))
 |convert s t x=>exact .inl (O8 hv (show uY s t x E ih rd d k env h=some r from hr))
 |makeInterface t x=>exact .inl (mK hv (show fR (.makeInterface t x) E ih rd d k env h=some r from hr))
 |insert t m a x=>exact .inl (mK hv (show fR (.insert t m a x) E ih rd d k env h=some r from hr))
 |makeMap t x=>exact .inl (mK hv (show fR (.makeMap t x) E ih rd d k env h=some r from hr))
 |lookup t x i ok=>exact .inl (mK hv (show fR (.lookup t x i ok) E ih rd d k env h=some r from hr))
 |mapUpdate t m a x=>exact .inl (mK hv (show fR (.mapUpdate t m a x) E ih rd d k env h=some r from hr))
 |mapEntry t m a=>exact .inl (mK hv (show fR (.mapEntry t m a) E ih rd d k env h=some r from hr))
 |entryStore t m a x=>exact .inl (mK hv (show fR (.entryStore t m a x) E ih rd d k env h=some r from hr))
 |makeFunc fn a b=>exact .inl (O2 hv (show uR fn a b E ih rd d k env h=some r from hr))
 |makeSlice t l c=>exact .inl (Pd hv (show uZ t l c E ih rd d k env h=some r from hr))
 |slice t x l u m=>exact .inl (Pe hv (show u9 t x l u m E ih rd d k env h=some r from hr))
 |fieldAddr t x f=>exact .inl (Pc hv (show va t x f E ih rd d k env h=some r from hr))
 |field t x f=>exact .inl (Pb hv (show vb t x f E ih rd d k env h=some r from hr))
 |indexAddr t x i=>exact .inl (O3 hv (show uS t x i E ih rd d k env h=some r from hr))
 |index t x i=>exact .inl (Pa hv (show vd t x i E ih rd d k env h=some r from hr))
 |extract t i=>exact .inl (O9 hv (show ve t i E ih rd d k env h=some r from hr))
 |panic x=>exact .inr (.inr (.inr ⟨x,rfl,hr⟩))
 |call c =>
  have hr':CU c E ih rd d k env h=some r:=hr;obtain⟨callee,args,ats⟩:=c;cases callee with
  |value fv=>exact .inr (.inr (.inl ⟨fv,args,ats,rfl,hr'⟩))
  |builtin b =>
   refine .inl ?_;have hr2:qv ⟨.builtin b,args,ats⟩ b E ih rd d k env h=some r:=hr';rcases Pi ⟨.builtin b,args,ats⟩ b with ⟨t,x,rfl,h1,h2,h3⟩|⟨t,u,s,x,rfl,h1,h2,h3⟩|h3
   ·rw[h3]at hr2;exact Pf rfl h1 h2 hv hr2
   ·rw[h3]at hr2;exact Ph rfl h1 h2 hv hr2
   ·rw[h3]at hr2;exact mK hv hr2
  |invoke a b=>cases hr'
 |_=>cases hr
end Go.Hx
namespace Go.Hx
variable {k:BT nnn->R}{h:EH}{n:Nat}{r:RR}
def ow {f:nnn->Option (nnn × List Nat)}:∀ {l l':List nnn} {rs:List Nat},bO f l=some (l',rs) ->
  l'.length=l.length/\∀i (_:i<l.length) (_:i<l'.length),∃ri,f l[i]=some (l'[i],ri)/\∀r,r∈ri->r∈rs:=by
 intro l
 induction l with
 |nil =>
  intro l' rs h;simp only[bO,Option.some.injEq,Prod.mk.injEq]at h;obtain⟨rfl,rfl⟩:=h;exact⟨rfl,fun i h _=>absurd h (Xo _)⟩
 |cons x l ih =>
  intro l' rs h;have h':(match f x,bO f l with|some (y,a),some (l,b)=>some (y :: l,a++b)|_,_=>none)=some (l',rs):=h;split at h'
  ·rename_i y a l2 b h1 h2;simp only[Option.some.injEq,Prod.mk.injEq]at h';obtain⟨rfl,rfl⟩:=h';obtain⟨h3,h4⟩:=ih h2;refine⟨by simp[h3],fun i hi hi'=>?_⟩;cases i with
   |zero=>exact⟨a,h1,fun r hr=>YU _ hr⟩
   |succ i =>
    obtain⟨ri,h5,h6⟩:=h4 i (by simpa using hi) (by simpa using hi');exact⟨ri,h5,fun r hr=>YD _ (h6 r hr)⟩
  ·cases h'
def mL {id g:Nat}{e:TypeId}{c:List nnn}(hg:ba h.hp id=some (.O g e c)):(au h).get id=some (.O g e c):=by
 show Option.map nnk.kL (ba h.hp id)=_;rw[hg];rfl
def Dl :∀(fuel:Nat) {v v':nnn} {rs:List Nat},il h fuel v=some (v',rs)->∀H2:nnl,(∀r,r∈rs->H2.get r=(au h).get r)->Fz (fun _=>True) H2 0 v v':=by
 intro fuel
 induction fuel with
 |zero=>intro v v' rs h;cases h
 |succ f ih =>
  intro v v' rs hv H2 ha;have list:∀ {l l':List nnn} {rs':List Nat},bO (il h f) l=some (l',rs')->(∀r,r∈rs'->H2.get r=(au h).get r) ->
    l'.length=l.length/\∀i (_:i<l.length) (_:i<l'.length),Fz (fun _=>True) H2 0 l[i] l'[i]:=fun hm ha'=>by
   obtain⟨h1,h2⟩:=ow hm;exact⟨h1,fun i hi hi'=>let ⟨ri,h3,h4⟩:=h2 i hi hi';ih h3 H2 fun r hr=>ha' r (h4 r hr)⟩
  cases v with
  |lit v =>
   have hv':some (nnn.lit v,[])=some (v',rs):=hv;simp only[Option.some.injEq,Prod.mk.injEq]at hv';obtain⟨rfl,rfl⟩:=hv';exact .lit _
  |L n c =>
   have hv':(bO (il h f) c).map (fun p=>(nnn.L n p.1,p.2))=some (v',rs):=hv;simp only[W4,Prod.mk.injEq]at hv';obtain⟨⟨c',rs'⟩,h1,rfl,rfl⟩:=hv';obtain⟨h2,h3⟩:=list h1 ha;exact .L h2 h3
  |ni c o =>
   have hv':(bO (il h f) c).map (fun p=>(nnn.ni p.1 o,p.2))=some (v',rs):=hv;simp only[W4,Prod.mk.injEq]at hv';obtain⟨⟨c',rs'⟩,h1,rfl,rfl⟩:=hv';obtain⟨h2,h3⟩:=list h1 ha;exact .ni h2 h3
  |agg c =>
   have hv':(bO (il h f) c).map (fun p=>(nnn.agg p.1,p.2))=some (v',rs):=hv;simp only[W4,Prod.mk.injEq]at hv';obtain⟨⟨c',rs'⟩,h1,rfl,rfl⟩:=hv';obtain⟨h2,h3⟩:=list h1 ha;exact .agg h2 h3
  |nc c =>
   have hv':(bO (il h f) c).map (fun p=>(nnn.nc p.1,p.2))=some (v',rs):=hv;simp only[W4,Prod.mk.injEq]at hv';obtain⟨⟨c',rs'⟩,h1,rfl,rfl⟩:=hv';obtain⟨h2,h3⟩:=list h1 ha;exact .nc h2 h3
  |nb g a b =>
   have hv':(match bO (il h f) a,bO (il h f) b with|some p,some q=>some (nnn.nb g p.1 q.1,p.2++q.2)|_,_=>none)=some (v',rs):=hv;split at hv'
   ·rename_i p q h1 h2;simp only[Option.some.injEq,Prod.mk.injEq]at hv';obtain⟨rfl,rfl⟩:=hv';obtain⟨h3,h4⟩:=list h1 fun r hr=>ha r (YU _ hr);obtain⟨h5,h6⟩:=list h2 fun r hr=>ha r (YD _ hr);exact .nb h3 h5 h4 h6
   ·cases hv'
  |Z id g o l z =>
   have hv':(match ba h.hp id with|some (.O g' _ cells)=>if g'=g/\o+l*z<=cells.length then (bO (il h f) ((cells.drop o).take (l*z))).map fun p=>(nnn.L l p.1,id :: p.2) else none|_=>none)=some (v',rs):=hv;split at hv'
   ·rename_i g' e cells hg;split at hv'
    ·rename_i hc;obtain⟨rfl,hle⟩:=hc;simp only[W4,Prod.mk.injEq]at hv';obtain⟨⟨c',rs'⟩,h1,rfl,rfl⟩:=hv';obtain⟨h2,h3⟩:=list h1 fun r hr=>ha r (X5 _ hr);have hlen:((cells.drop o).take (l*z)).length=l*z:=(by simp;omega);refine .nq trivial ((ha id (YA ..)).trans (mL hg)) (h2.trans hlen) fun i hi h2i hi'=>?_;have:=h3 i U hi';simpa using this
    ·cases hv'
   ·cases hv'
  |Y id g o =>
   have hv':(match ba h.hp id with|some (.O g' _ (x :: cells))=>if g'=g then (bO (il h f) (x :: cells)).map fun p=>(nnn.ni p.1 o,id :: p.2) else none|_=>none)=some (v',rs):=hv;split at hv'
   ·rename_i g' e x cells hg;split at hv'
    ·rename_i hc;subst hc;simp only[W4,Prod.mk.injEq]at hv';obtain⟨⟨c',rs'⟩,h1,rfl,rfl⟩:=hv';obtain⟨h2,h3⟩:=list h1 fun r hr=>ha r (X5 _ hr);exact .pfrz trivial ((ha id (YA ..)).trans (mL hg)) aaw h2 h3
    ·cases hv'
   ·cases hv'
  |nk n=>cases hv
def Pk {f:nnn->Option nnn}:∀ {l l':List nnn},kM f l=some l'->l'.length=l.length/\∀i (_:i<l.length) (_:i<l'.length),f l[i]=some l'[i]:=by
 intro l
 induction l with
 |nil =>
  intro l' h;simp only[kM,Option.some.injEq]at h;subst h;exact⟨rfl,fun i h _=>absurd h (Xo _)⟩
 |cons x l ih =>
  intro l' h;have h':(match f x,kM f l with|some y,some l=>some (y :: l)|_,_=>none)=some l':=h;split at h'
  ·rename_i y l2 h1 h2;simp only[Option.some.injEq]at h';subst h';obtain⟨h3,h4⟩:=ih h2;refine⟨by simp[h3],fun i hi hi'=>?_⟩;cases i with
   |zero=>exact h1
   |succ i=>exact h4 i (by simpa using hi) (by simpa using hi')
  ·cases h'
def Dm :∀(fuel:Nat) {v v':nnn},oa h fuel v=some v'->nns (au h) v v':=by
 intro fuel
 induction fuel with
 |zero=>intro v v' h;cases h
 |succ f ih =>
  intro v v' hv;have list:∀ {l l':List nnn},kM (oa h f) l=some l'->l'.length=l.length/\∀i (_:i<l.length) (_:i<l'.length),nns (au h) l[i] l'[i]:=fun hm=>by
   obtain⟨h1,h2⟩:=Pk hm;exact⟨h1,fun i hi hi'=>ih (h2 i hi hi')⟩
  cases v with
  |lit v =>
   have hv':some (nnn.lit v)=some v':=hv;cases hv';exact .lit _
  |agg c =>
   have hv':(kM (oa h f) c).map nnn.agg=some v':=hv;simp only[W4]at hv';obtain⟨c',h1,rfl⟩:=hv';obtain⟨h2,h3⟩:=list h1;exact .agg h2 h3
  |nc c =>
   have hv':(kM (oa h f) c).map nnn.nc=some v':=hv;simp only[W4]at hv';obtain⟨c',h1,rfl⟩:=hv';obtain⟨h2,h3⟩:=list h1;exact .nc h2 h3
  |Z id g o l z =>
   have hv':(match ba h.hp id with|some (.O g' _ cells)=>if g'=g/\o+l*z<=cells.length then (kM (oa h f) ((cells.drop o).take (l*z))).map (nnn.L l) else none|_=>none)=some v':=hv;split at hv'
   ·rename_i g' e cells hg;split at hv'
    ·rename_i hc;obtain⟨rfl,hle⟩:=hc;simp only[W4]at hv';obtain⟨c',h1,rfl⟩:=hv';obtain⟨h2,h3⟩:=list h1;have hlen:((cells.drop o).take (l*z)).length=l*z:=(by simp;omega);refine .Z (mL hg) (h2.trans hlen) fun i hi h2i hi'=>?_;have:=h3 i U hi';simpa using this
    ·cases hv'
   ·cases hv'
  |_=>cases hv
def iK {f:nnn->nnn->Bool}(hf:∀x y,f x y=true->x=y):∀ {a b:List nnn},fQ f a b=true->a=b:=by
 intro a
 induction a with
 |nil=>intro b h;cases b with
  |nil=>rfl
  |cons=>cases h
 |cons x l ih =>
  intro b h;cases b with
  |nil=>cases h
  |cons y b =>
   have h':(match f x y with|true=>fQ f l b|false=>false)=true:=h;split at h'
   ·rename_i hxy;rw[hf _ _ hxy,ih h']
   ·cases h'
def Dn:∀(fuel:Nat) (a b:nnn),qo fuel a b=true->a=b:=by
 intro fuel
 induction fuel with
 |zero=>intro a b h;cases h
 |succ f ih =>
  intro a b h;have h':zk (qo f) a b=true:=h;unfold zk at h';split at h'
  ·simp only[Xv,decide_eq_true_eq,vu]at h';rw[h'.1,h'.2]
  ·simp only[beq_iff_eq]at h';rw[h']
  ·rfl
  ·simp only[Xv]at h';rw[Xr h'.1,iK ih h'.2]
  ·simp only[Xv]at h';rw[Xr h'.1,iK ih h'.2]
  ·rw[iK ih h']
  ·rw[iK ih h']
  ·simp only[Xv]at h';rw[Xr h'.1,iK ih h'.2.1,iK ih h'.2.2]
  ·cases h'
def Do {args:List nnn}{v:nnn}:∀ {l:List (List nnn × nnn)},uH args l=some v->(args,v)∈l:=by
 intro l
 induction l with
 |nil=>intro h;cases h
 |cons p l ih =>
  intro h;have h':Bool.casesOn (motive:=fun _=>Option nnn) (fQ (qo 40) p.1 args) (uH args l) (some p.2)=some v:=h;cases he:fQ (qo 40) p.1 args with
  |true =>
   rw[he]at h';have:=iK (Dn 40) he;have h2:p.2=v:=Option.some.inj h';rw[<- this,<- h2];exact YA ..
  |false =>
   rw[he]at h';exact X5 _ (ih h')
def Pl :∀ {l:List nnn} {i:Nat} {t:BT nnn},uE k l i t=some r->∃t',k t'=some r/\∀m,eK t' m=if i<=m/\m<i+l.length then l[m-i]? else eK t m:=by
 intro l
 induction l with
 |nil=>intro i t h;exact⟨t,h,fun m=>by rw[W7 (by simp only[List.length_nil];omega)]⟩
 |cons x l ih =>
  intro i t h;have h':(mD t i x fun t=>dx (Nat.succ i) fun i=>uE k l i t)=some r:=h;obtain⟨t1,h1,h2⟩:=zQ _ _ _ _ _ h';rw[im]at h1;obtain⟨t',h3,h4⟩:=ih h1;refine⟨t',h3,fun m=>?_⟩;rw[h4,h2];simp only[List.length_cons,Nat.succ_eq_add_one];by_cases hm:m=i
  ·subst hm;rw[W7 U,W8 rfl,W8 U];simp
  ·rw[W7 hm];by_cases hm2:i+1<=m/\m<i+1+l.length
   ·rw[W8 hm2,W8 U];have:m-i=(m-(i+1))+1:=U;rw[this,List.getElem?_cons_succ]
   ·rw[W7 hm2,W7 U]
def Pm {l:List nnn}(h:uE k l 0 .nil=some r):∃t,k t=some r/\aK t=cR l:=by
 obtain⟨t,h1,h2⟩:=Pl h;refine⟨t,h1,funext fun m=>?_⟩;rw[vq,h2];unfold cR;split
 ·rfl
 ·rename_i hm;rw[Xf U,vp]
def Pn :∀ {ps:List Tmp} {vs:List nnn} {e:BT nnn},uI k ps vs e=some r->∃e',k e'=some r/\vs.length=ps.length/\aK e'=lO (aK e) (ps.zip vs):=by
 intro ps
 induction ps with
 |nil =>
  intro vs e h;cases vs with
  |nil=>exact⟨e,h,rfl,rfl⟩
  |cons=>cases h
 |cons p ps ih =>
  intro vs e h;cases vs with
  |nil=>cases h
  |cons v vs =>
   have h':(mD e p v fun e=>uI k ps vs e)=some r:=h;obtain⟨t1,h1,h2⟩:=zQ _ _ _ _ _ h';obtain⟨e',h3,h4,h5⟩:=ih h1;refine⟨e',h3,by simp[h4],?_⟩;rw[h5,Da h2];rfl
def Po :∀(t:BT nnn) (a b:Nat),okB t a b n=true->∀j v,eK t j=some v->a*j+b<n:=by
 intro t
 induction t with
 |nil=>intro a b _ j v h;cases h
 |node v l r ihl ihr =>
  intro a b h j u hj;have h':(CM v b n && (okB l (2*a) (a+b) n && okB r (2*a) (2*a+b) n))=true:=h;simp only[Xv]at h';obtain⟨h1,h2,h3⟩:=h';cases j with
  |zero =>
   rw[OL]at hj;rw[hj]at h1;have h4:b<n:=(by rw[<- ZE];exact h1);omega
  |succ m =>
   rw[kR]at hj;split at hj
   ·rename_i hm;have:=ihl _ _ h2 _ _ hj;have h4:m=2*(m / 2):=U;generalize m / 2=q at this h4;subst h4;have h5:a*(2*q+1)=2*a*q+a:=(by rw[Nat.mul_add,Nat.mul_one,<- aai,Z4 a 2]);omega
   ·rename_i hm;have:=ihr _ _ h3 _ _ hj;have h4:m=2*(m / 2)+1:=U;generalize m / 2=q at this h4;subst h4;have h5:a*(2*q+1+1)=2*a*q+2*a:=(by rw[show 2*q+1+1=2*q+2 from rfl,Nat.mul_add,<- aai,Z4 a 2]);omega
def Pp {env:BT nnn}(h:okB env 1 0 n=true):dT (aK env) n=aK env:=by
 funext t
 unfold dT;split
 ·rfl
 ·rename_i ht;rw[vq];cases hg:eK env t with
  |none=>rfl
  |some v =>
   have:=Po env 1 0 h t v hg;omega
end Go.Hx
namespace Go.Hx
variable {h:EH}{acc acc' kp l:List Nat}{id n:Nat}
def kS :eU l n=true↔n∈l:=by
 induction l with
 |nil=>exact⟨fun h=>absurd (show false=true from h) aax,fun h=>absurd h (List.not_mem_nil)⟩
 |cons x l ih =>
  have h':eU (x :: l) n=Bool.rec (motive:=fun _=>Bool) (eU l n) true (Nat.beq x n):=rfl;rw[h',List.mem_cons];cases hb:Nat.beq x n with
  |true=>exact⟨fun _=>.inl (Xr hb).symm,fun _=>rfl⟩
  |false =>
   refine⟨fun h=>.inr (ih.1 h),?_⟩;rintro(rfl|h)
   ·rw[Y8]at hb;cases hb
   ·exact ih.2 h
def Dy (h:eU l n=false):n ∉ l:=fun hm=>by rw[kS.2 hm]at h;cases h
def PJ {f:Nat->Bool}(h:zm f l=true):∀n,n∈l->f n=true:=by
 induction l with
 |nil=>intro n hn;cases hn
 |cons x l ih =>
  have h':Bool.rec (motive:=fun _=>Bool) false (zm f l) (f x)=true:=h;cases hx:f x with
  |false=>rw[hx]at h';cases h'
  |true =>
   rw[hx]at h';intro n hn;rcases List.mem_cons.1 hn with rfl|hn
   ·exact hx
   ·exact ih h' n hn
def iL (lo:Nat)(kp acc:List Nat):Nat->Prop:=fun j=>(j<lo/\j∈kp)\/(¬j<lo/\j∈acc)
def qH (h:EH)(lo:Nat)(kp acc:List Nat)(id:Nat):Prop:=¬id<lo/\∃g e c,ba h.hp id=some (.O g e c)/\∀i (h:i<c.length),Ev.Cln (iL lo kp acc) c[i]
def gU (h:EH)(lo:Nat)(kp acc acc':List Nat):Prop:=(∀id,id∈acc->id∈acc')/\∀id,id∈acc'->id∈acc\/qH h lo kp acc' id
def iL.mono {lo:Nat}(hs:∀id,id∈acc->id∈acc')(id:Nat)(h:iL lo kp acc id):iL lo kp acc' id:=by
 rcases h with h|h
 ·exact .inl h
 ·exact .inr ⟨h.1,hs _ h.2⟩
theorem qH.mono {lo:Nat}(hs:∀id,id∈acc->id∈acc')(hg:qH h lo kp acc id):qH h lo kp acc' id:=by
 obtain⟨h1,g,e,c,h2,h3⟩:=hg;exact⟨h1,g,e,c,h2,fun i hi=>(h3 i hi).mono (iL.mono hs)⟩
def gU.refl (h:EH)(lo:Nat)(kp acc:List Nat):gU h lo kp acc acc:=⟨fun _ h=>h,fun _ h=>.inl h⟩
def gU.trans {lo:Nat}{a b c:List Nat}(h1:gU h lo kp a b)(h2:gU h lo kp b c):gU h lo kp a c:=by
 refine⟨fun id hid=>h2.1 id (h1.1 id hid),fun id hid=>?_⟩;rcases h2.2 id hid with h3|h3
 ·rcases h1.2 id h3 with h4|h4
  ·exact .inl h4
  ·exact .inr (h4.mono h2.1)
 ·exact .inr h3
def sJ {lo:Nat}{f:KF}(hf:∀v acc acc',f v acc=some acc'->gU h lo kp acc acc'/\Ev.Cln (iL lo kp acc') v):
  ∀ {l:List nnn} {acc acc':List Nat},jN f l acc=some acc'->gU h lo kp acc acc'/\∀i (h:i<l.length),Ev.Cln (iL lo kp acc') l[i]:=by
 intro l
 induction l with
 |nil =>
  intro acc acc' hk;have:some acc=some acc':=hk;cases this;exact⟨.refl _ _ _ _,fun i h=>absurd h (Xo _)⟩
 |cons x l ih =>
  intro acc acc' hk;have h':(match f x acc with|some acc=>jN f l acc|none=>none)=some acc':=hk;split at h'
  ·rename_i a1 h1;obtain⟨h2,h3⟩:=hf _ _ _ h1;obtain⟨h4,h5⟩:=ih h';refine⟨h2.trans h4,fun i hi=>?_⟩;cases i with
   |zero=>exact h3.mono (iL.mono h4.1)
   |succ i=>exact h5 i (by simpa using hi)
  ·cases h'
def Dz {lo:Nat}{f:KF}(hf:∀v acc acc',f v acc=some acc'->gU h lo kp acc acc'/\Ev.Cln (iL lo kp acc') v)
    (hk:qp h lo kp f id acc=some acc'):gU h lo kp acc acc'/\iL lo kp acc' id:=by
 unfold qp at hk;split at hk
 ·rename_i hlt;rw[ZE]at hlt;split at hk
  ·rename_i hm;cases hk;exact⟨.refl _ _ _ _,.inl ⟨hlt,kS.1 hm⟩⟩
  ·cases hk
 ·rename_i hlt;have hlt':¬id<lo:=fun h=>by rw[<- ZE]at h;rw[h]at hlt;cases hlt
  split at hk
  ·rename_i hm;cases hk;exact⟨.refl _ _ _ _,.inr ⟨hlt',kS.1 hm⟩⟩
  ·split at hk
   ·rename_i g e cells hg;obtain⟨⟨h1,h2⟩,h3⟩:=sJ hf hk;have hin:id∈acc':=h1 id (YA ..);refine⟨⟨fun j hj=>h1 j (X5 _ hj),fun j hj=>?_⟩,.inr ⟨hlt',hin⟩⟩;rcases h2 j hj with h4|h4
    ·rcases List.mem_cons.1 h4 with rfl|h4
     ·exact .inr ⟨hlt',g,e,cells,hg,h3⟩
     ·exact .inl h4
    ·exact .inr h4
   ·cases hk
def DA {lo:Nat}:∀(fuel:Nat) (v:nnn) (acc acc':List Nat),kO h lo kp fuel v acc=some acc'->gU h lo kp acc acc'/\Ev.Cln (iL lo kp acc') v:=by
 intro fuel
 induction fuel with
 |zero=>intro v acc acc' h;cases h
 |succ n ih =>
  intro v acc acc' hk;cases v with
  |lit v =>
   have:some acc=some acc':=hk;cases this;exact⟨.refl _ _ _ _,.lit _⟩
  |L m c =>
   have hk':(match nnn.L m c with|.L 0 []=>some acc|_=>none)=some acc':=by
    cases m<;>cases c<;>exact hk
   split at hk'
   ·rename_i he;cases he;cases hk';exact⟨.refl _ _ _ _,.nil⟩
   ·cases hk'
  |agg c =>
   obtain⟨h1,h2⟩:=sJ ih (show jN (kO h lo kp n) c acc=some acc' from hk);exact⟨h1,.agg h2⟩
  |nc c =>
   obtain⟨h1,h2⟩:=sJ ih (show jN (kO h lo kp n) c acc=some acc' from hk);exact⟨h1,.nc h2⟩
  |nb f a b =>
   have hk':(match jN (kO h lo kp n) a acc with|some acc=>jN (kO h lo kp n) b acc|none=>none)=some acc':=hk;split at hk'
   ·rename_i a1 h1;obtain⟨h2,h3⟩:=sJ ih h1;obtain⟨h4,h5⟩:=sJ ih hk';exact⟨h2.trans h4,.nb (fun i hi=>(h3 i hi).mono (iL.mono h4.1)) h5⟩
   ·cases hk'
  |Z id g o l z =>
   obtain⟨h1,h2⟩:=Dz ih (show qp h lo kp (kO h lo kp n) id acc=some acc' from hk);exact⟨h1,.Z h2⟩
  |Y id g o =>
   obtain⟨h1,h2⟩:=Dz ih (show qp h lo kp (kO h lo kp n) id acc=some acc' from hk);exact⟨h1,.Y h2⟩
  |ni=>cases hk
  |nk=>cases hk
def mR {f:CF}(hf:∀v acc k r,f v acc k=some r->∃acc',k acc'=some r/\gU h 0 [] acc acc'):
  ∀ {l:List nnn} {acc:List Nat} {k:List Nat->R} {r:RR},kP f l acc k=some r->∃acc',k acc'=some r/\gU h 0 [] acc acc':=by
 intro l
 induction l with
 |nil=>intro acc k r hr;exact⟨acc,hr,.refl _ _ _ _⟩
 |cons x l ih =>
  intro acc k r hr;have h':(f x acc fun acc=>kP f l acc k)=some r:=hr;obtain⟨a1,h1,h2⟩:=hf _ _ _ _ h';obtain⟨a2,h3,h4⟩:=ih h1;exact⟨a2,h3,h2.trans h4⟩
def PK :∀(fuel:Nat) (v:nnn) (acc:List Nat) (k:List Nat->R) (r:RR),uC h fuel v acc k=some r->∃acc',k acc'=some r/\gU h 0 [] acc acc':=by
 intro fuel
 induction fuel with
 |zero=>intro v acc k r hr;exact⟨acc,hr,.refl _ _ _ _⟩
 |succ n ih =>
  intro v acc k r hr;have h':(match kO h 0 [] 40 v acc with|some acc=>k acc|none=>zp h (uC h n) v acc k)=some r:=hr;split at h'
  ·rename_i a1 h1;exact⟨a1,h',(DA 40 v acc a1 h1).1⟩
  ·have blk:∀b,uB (uC h n) acc k b=some r->∃acc',k acc'=some r/\gU h 0 [] acc acc':=by
    intro b hb;unfold uB at hb;split at hb
    ·exact mR ih hb
    ·exact⟨acc,hb,.refl _ _ _ _⟩
   unfold zp at h';split at h'
   ·exact mR ih h'
   ·exact mR ih h'
   ·exact mR ih h'
   ·exact mR ih h'
   ·obtain⟨a1,h1,h2⟩:=mR ih h';obtain⟨a2,h3,h4⟩:=mR ih h1;exact⟨a2,h3,h2.trans h4⟩
   ·exact blk _ h'
   ·exact blk _ h'
   ·exact⟨acc,h',.refl _ _ _ _⟩
def PL (hkp:∀id,id∈kp->id<h.nx):∀(fuel:Nat) {v v':nnn} {rs:List Nat},jO h kp fuel v=some (v',rs)->∀H2:nnl,(∀r,r∈rs->H2.get r=(au h).get r)->Fz (fun id=>¬id∈kp) H2 h.nx v v':=by
 intro fuel
 induction fuel with
 |zero=>intro v v' rs h;cases h
 |succ f ih =>
  intro v v' rs hv H2 ha;have list:∀ {l l':List nnn} {rs':List Nat},bO (jO h kp f) l=some (l',rs')->(∀r,r∈rs'->H2.get r=(au h).get r) ->
    l'.length=l.length/\∀i (_:i<l.length) (_:i<l'.length),Fz (fun id=>¬id∈kp) H2 h.nx l[i] l'[i]:=fun hm ha'=>by
   obtain⟨h1,h2⟩:=ow hm;exact⟨h1,fun i hi hi'=>let ⟨ri,h3,h4⟩:=h2 i hi hi';ih h3 H2 fun r hr=>ha' r (h4 r hr)⟩
  cases v with
  |lit v =>
   have hv':some (nnn.lit v,[])=some (v',rs):=hv;simp only[Option.some.injEq,Prod.mk.injEq]at hv';obtain⟨rfl,rfl⟩:=hv';exact .lit _
  |L n c =>
   have hv':(bO (jO h kp f) c).map (fun p=>(nnn.L n p.1,p.2))=some (v',rs):=hv;simp only[W4,Prod.mk.injEq]at hv';obtain⟨⟨c',rs'⟩,h1,rfl,rfl⟩:=hv';obtain⟨h2,h3⟩:=list h1 ha;exact .L h2 h3
  |ni c o =>
   have hv':(bO (jO h kp f) c).map (fun p=>(nnn.ni p.1 o,p.2))=some (v',rs):=hv;simp only[W4,Prod.mk.injEq]at hv';obtain⟨⟨c',rs'⟩,h1,rfl,rfl⟩:=hv';obtain⟨h2,h3⟩:=list h1 ha;exact .ni h2 h3
  |agg c =>
   have hv':(bO (jO h kp f) c).map (fun p=>(nnn.agg p.1,p.2))=some (v',rs):=hv;simp only[W4,Prod.mk.injEq]at hv';obtain⟨⟨c',rs'⟩,h1,rfl,rfl⟩:=hv';obtain⟨h2,h3⟩:=list h1 ha;exact .agg h2 h3
  |nc c =>
   have hv':(bO (jO h kp f) c).map (fun p=>(nnn.nc p.1,p.2))=some (v',rs):=hv;simp only[W4,Prod.mk.injEq]at hv';obtain⟨⟨c',rs'⟩,h1,rfl,rfl⟩:=hv';obtain⟨h2,h3⟩:=list h1 ha;exact .nc h2 h3
  |nb g a b =>
   have hv':(match bO (jO h kp f) a,bO (jO h kp f) b with|some p,some q=>some (nnn.nb g p.1 q.1,p.2++q.2)|_,_=>none)=some (v',rs):=hv;split at hv'
   ·rename_i p q h1 h2;simp only[Option.some.injEq,Prod.mk.injEq]at hv';obtain⟨rfl,rfl⟩:=hv';obtain⟨h3,h4⟩:=list h1 fun r hr=>ha r (YU _ hr);obtain⟨h5,h6⟩:=list h2 fun r hr=>ha r (YD _ hr);exact .nb h3 h5 h4 h6
   ·cases hv'
  |Z id g o l z =>
   have hv':(match eU kp id with
    |true=>some (nnn.Z id g o l z,[])
    |false=>match ba h.hp id with|some (.O g' _ cells)=>if g'=g/\o+l*z<=cells.length then (bO (jO h kp f) ((cells.drop o).take (l*z))).map fun p=>(nnn.L l p.1,id :: p.2) else none|_=>none)=some (v',rs):=hv
   split at hv'
   ·rename_i hm;simp only[Option.some.injEq,Prod.mk.injEq]at hv';obtain⟨rfl,rfl⟩:=hv';exact .Z (hkp _ (kS.1 hm)) fun h=>h (kS.1 hm)
   ·rename_i hm;split at hv'
    ·rename_i g' e cells hg;split at hv'
     ·rename_i hc;obtain⟨rfl,hle⟩:=hc;simp only[W4,Prod.mk.injEq]at hv';obtain⟨⟨c',rs'⟩,h1,rfl,rfl⟩:=hv';obtain⟨h2,h3⟩:=list h1 fun r hr=>ha r (X5 _ hr);have hlen:((cells.drop o).take (l*z)).length=l*z:=(by simp;omega);refine .nq (Dy hm) ((ha id (YA ..)).trans (mL hg)) (h2.trans hlen) fun i hi h2i hi'=>?_;have:=h3 i U hi';simpa using this
     ·cases hv'
    ·cases hv'
  |Y id g o =>
   have hv':(match eU kp id with
    |true=>some (nnn.Y id g o,[])
    |false=>match ba h.hp id with|some (.O g' _ (x :: cells))=>if g'=g then (bO (jO h kp f) (x :: cells)).map fun p=>(nnn.ni p.1 o,id :: p.2) else none|_=>none)=some (v',rs):=hv
   split at hv'
   ·rename_i hm;simp only[Option.some.injEq,Prod.mk.injEq]at hv';obtain⟨rfl,rfl⟩:=hv';exact .Y (hkp _ (kS.1 hm)) fun h=>h (kS.1 hm)
   ·rename_i hm;split at hv'
    ·rename_i g' e x cells hg;split at hv'
     ·rename_i hc;subst hc;simp only[W4,Prod.mk.injEq]at hv';obtain⟨⟨c',rs'⟩,h1,rfl,rfl⟩:=hv';obtain⟨h2,h3⟩:=list h1 fun r hr=>ha r (X5 _ hr);exact .pfrz (Dy hm) ((ha id (YA ..)).trans (mL hg)) aaw h2 h3
     ·cases hv'
    ·cases hv'
  |nk n=>cases hv
def PM {k:BT nnk->R}{r:RR}:∀ {l:List Nat} {t:BT nnk},zq h l k t=some r->∃t',k t'=some r/\∀m,ba t' m=if m∈l then ba h.hp m else ba t m:=by
 intro l
 induction l with
 |nil=>intro t hr;exact⟨t,hr,fun m=>by rw[W7 aaw]⟩
 |cons x l ih =>
  intro t hr;have h':(match ba h.hp x with|some b=>gh t x b (zq h l k)|none=>none)=some r:=hr;split at h'
  ·rename_i b hb;obtain⟨t1,h1,h2⟩:=mJ _ _ _ _ _ h';obtain⟨t',h3,h4⟩:=ih h1;refine⟨t',h3,fun m=>?_⟩;rw[h4,h2];by_cases hm:m∈l
   ·rw[W8 hm,W8 (X5 _ hm)]
   ·rw[W7 hm];by_cases hx:m=x
    ·subst hx;rw[W8 rfl,W8 (YA ..),hb]
    ·rw[W7 hx,W7 (by simp[hx,hm])]
  ·cases h'
def PN {a b:Value}(h:zt a b=true):a=b:=by
 unfold zt at h;split at h
 ·simp only[Xv,decide_eq_true_eq,vu]at h;rw[h.1,h.2]
 ·simp only[beq_iff_eq]at h;rw[h]
 ·rfl
 ·rfl
 ·cases h
def PO:∀(fuel:Nat) (a b:nnn),zw fuel a b=true->a=b:=by
 intro fuel
 induction fuel with
 |zero=>intro a b h;cases h
 |succ f ih =>
  intro a b h;have h':zu (zw f) a b=true:=h;unfold zu at h';split at h'
  ·rw[PN h']
  ·simp only[Xv]at h';rw[Xr h'.1,iK ih h'.2]
  ·rw[iK ih h']
  ·rw[iK ih h']
  ·simp only[Xv]at h';rw[Xr h'.1,iK ih h'.2.1,iK ih h'.2.2]
  ·simp only[Xv]at h';rw[Xr h'.1,Xr h'.2.1,Xr h'.2.2.1,Xr h'.2.2.2.1,Xr h'.2.2.2.2]
  ·simp only[Xv]at h';rw[Xr h'.1,Xr h'.2.1,Xr h'.2.2]
  ·cases h'
def PP {a b:Option nnk}(h:zx a b=true):a=b:=by
 unfold zx at h;split at h
 ·simp only[Xv]at h;rw[Xr h.1,Xr h.2.1,iK (PO 40) h.2.2]
 ·cases h
def PQ {h':EH}{lv:List Nat}{lo:Nat}:∀ {n:Nat} {t:BT nnk} {k:BT nnk->R} {r:RR},uD h' lv lo n t k=some r ->
  ∃t',k t'=some r/\∀m,ba t' m=if lo<=m/\m<lo+n then (if eU lv m=true then ba h'.hp m else some (.O 0 0 [])) else ba t m:=by
 intro n
 induction n with
 |zero=>intro t k r hr;exact⟨t,hr,fun m=>by rw[W7 U]⟩
 |succ n ih =>
  intro t k r hr;have h1:dx (Nat.add lo n) (zy h' lv t fun t=>uD h' lv lo n t k)=some r:=hr;rw[im]at h1;have key:∀b,(if eU lv (lo+n)=true then ba h'.hp (lo+n) else some (.O 0 0 []))=some b->gh t (lo+n) b (fun t=>uD h' lv lo n t k)=some r ->
    ∃t',k t'=some r/\∀m,ba t' m=if lo<=m/\m<lo+(n+1) then (if eU lv m=true then ba h'.hp m else some (.O 0 0 [])) else ba t m:=by
   intro b hb hs;obtain⟨t1,h2,h3⟩:=mJ _ _ _ _ _ hs;obtain⟨t',h4,h5⟩:=ih h2;refine⟨t',h4,fun m=>?_⟩;rw[h5,h3];by_cases hm:m=lo+n
   ·subst hm;rw[W7 U,W8 rfl,W8 U,hb]
   ·rw[W7 hm];by_cases hm2:lo<=m/\m<lo+n
    ·rw[W8 hm2,W8 (⟨hm2.1,U⟩:lo<=m/\m<lo+(n+1))]
    ·rw[W7 hm2,W7 (fun hc:lo<=m/\m<lo+(n+1)=>hm2 ⟨hc.1,U⟩)]
  unfold zy at h1;split at h1
  ·rename_i hm;split at h1
   ·rename_i b hb;exact key b ((W8 (show eU lv (lo+n)=true from hm)).trans hb) h1
   ·cases h1
  ·rename_i hm;exact key _ (W7 (fun hc=>by rw[show eU lv (lo+n)=false from hm]at hc;cases hc)) h1
end Go.Hx
namespace Go.Hx
def Pq (z:GD):Option nnn->nnn
 |some u=>.nc [u,.lit (.int .i64 0)]
 |none=>.nc [z.z,.lit (.int .i64 6)]
def qE (P:Program)(G:Nat->Option (List nnn))(f:FuncId)(z:GD):Prop:=∀g cap cap' (H:nnl) o,cap'.length=cap.length ->
 (∀H2:nnl,(∀id,id<H.C->H2.get id=H.get id)->∀i (h:i<cap.length) (h':i<cap'.length),Fz (fun _=>True) H2 0 cap[i] cap'[i]) ->
 (∀u,o=some u->z.ok u=true)->af P G g cap' cw (rO o)->af P G f [.nb g [] cap] H fun r H'=>r=.ret (Pq z o)/\H'=H
def vw (E:EP):Prop:=∀f e,E.ext f=some e->∀args r,e args=some r->∀(H:nnl) (K:nnf->nnl->Prop),K (.ret r) H->aC E.P E.G (.nb f [] []) args H K
structure EOk (E:EP):Prop where
 gok:dS E.G
 mixed:E.P.follows .mixedOrders=true
 known:∀f l,E.known f=some l->∀a v,(a,v)∈l->af E.P E.G f a cw fun r H'=>∃u,r=.ret u/\nns H' u v
 gd:∀f z,E.gd f=some z->qE E.P E.G f z
 ext:vw E
def zU:RR->nnf->EH->Prop
 |.ret v h,x,h'=>x=.ret v/\h'=h
 |.panic h,x,h'=>x=.panic/\h'=h
 |_,_,_=>False
def gT (E:EP)(ih:jQ):Prop:=∀rd n c env h r,ih rd n c env h=some r->VH h->fits n c=true ->
 ∃x env' h',r=.ev x env' h'/\VH h'/\∀Q:AX->St->Prop,Q x ⟨aK env',au h'⟩->W E.P E.G n rd c Q ⟨aK env,au h⟩
def zV (E:EP)(f:FuncId)(args:List nnn)(h:EH)(r:RR):Prop :=
 ∃x h',zU r x h'/\VH h'/\∀K:nnf->nnl->Prop,K x (au h')->af E.P E.G f args (au h) K
def zW (E:EP)(fv:nnn)(args:List nnn)(h:EH)(r:RR):Prop :=
 ∃x h',zU r x h'/\VH h'/\∀K:nnf->nnl->Prop,K x (au h')->aC E.P E.G fv args (au h) K
section
variable {E:EP} {ih:jQ}
def gD {b:Bool}{x:R}{r:RR}(h:Bool.rec (motive:=fun _=>R) none x b=some r):b=true/\x=some r:=by
 cases b with
 |false=>cases h
 |true=>exact⟨rfl,h⟩
def zX:VH ⟨.nil,0⟩:=fun _ _ h=>by cases h
def mM (hI:gT E ih){f:FuncId}{args:List nnn}{h:EH}{r:RR}(hv:VH h)(hr:mF E ih f args h=some r):zV E f args h r:=by
 unfold mF at hr;cases hf:E.P.funcs[f]? with
 |none=>rw[hf]at hr;cases hr
 |some fn =>
  rw[hf]at hr;have hr1:Option.rec (motive:=fun _=>R) none (fun c=>uG E ih fn c args h) fn.body=some r:=hr;cases hb:fn.body with
  |none=>rw[hb]at hr1;cases hr1
  |some c =>
   rw[hb]at hr1;have hr2:uG E ih fn c args h=some r:=hr1;unfold uG at hr2;obtain⟨hok,hr3⟩:=gD hr2;obtain⟨hle,hr4⟩:=gD hr3;have hle:=Yw hle;unfold CI at hok;simp only[Xv,Z1]at hok;obtain⟨env,hr5,henv⟩:=Pm hr4;have body:∀K:nnf->nnl->Prop,W E.P E.G fn.ntmps none c (nY E.P E.G fn.results.toList (au h) K) ⟨cR args,au h⟩->af E.P E.G f args (au h) K:=fun K hW=>af.yk hf hb rfl rfl hok.2 hle hW;unfold CH at hr5;have ret:∀env' h' vs,dR E.P (au h') (aK env') fn.results.toList=some vs->uF h.nx (fO vs) h'=some r->VH h'->(∀Q:AX->St->Prop,(Q .normal ⟨aK env',au h'⟩/\Q .ret ⟨aK env',au h'⟩)->W E.P E.G fn.ntmps none c Q ⟨aK env,au h⟩)->zV E f args h r:=by
    intro env' h' vs hvs he hv' hW;unfold uF at he;obtain⟨hnx,he2⟩:=gD he;rw[qB]at he2;have he3:r=.ret (fO vs) h':=(Option.some.inj he2).symm;subst he3;refine⟨.ret (fO vs),h',⟨rfl,rfl⟩,hv',fun K hK=>body K ?_⟩;rw[<- henv];have hfin:bd (dR E.P (au h') (aK env') fn.results.toList) fun vs=>ar E.P E.G (au h) K (fO vs) (au h'):=⟨vs,hvs,ar.mk (Yw hnx) hK⟩
    exact hW _ ⟨hfin,hfin⟩
   split at hr5
   ·rename_i env' h' hi;obtain⟨x,e2,h2,h3,h4,h5⟩:=hI _ _ _ _ _ _ hi hv hok.1;cases h3;split at hr5
    ·rename_i vs hvs;exact ret _ _ _ hvs hr5 h4 fun Q hq=>h5 Q hq.1
    ·cases hr5
   ·rename_i env' h' hi;obtain⟨x,e2,h2,h3,h4,h5⟩:=hI _ _ _ _ _ _ hi hv hok.1;cases h3;split at hr5
    ·rename_i vs hvs;exact ret _ _ _ hvs hr5 h4 fun Q hq=>h5 Q hq.2
    ·cases hr5
   ·rename_i env' h' hi;obtain⟨x,e2,h2,h3,h4,h5⟩:=hI _ _ _ _ _ _ hi hv hok.1;cases h3;obtain⟨hnx,he2⟩:=gD hr5;have he3:r=.panic h':=(Option.some.inj he2).symm;subst he3;refine⟨.panic,h',⟨rfl,rfl⟩,h4,fun K hK=>body K ?_⟩;rw[<- henv];exact h5 _ ⟨au h',jK.refl _ _,Yw hnx,hK⟩
   ·cases hr5
def Pr (hI:gT E ih){f:FuncId}{args:List nnn}{v:nnn}(hr:zz E ih f args=some v):af E.P E.G f args cw fun r H'=>∃u,r=.ret u/\nns H' u v:=by
 unfold zz at hr;split at hr
 ·rename_i u h' hc;obtain⟨x,h2,hcr,hv2,hK⟩:=mM hI zX hc;obtain⟨rfl,rfl⟩:=hcr;exact hK _ ⟨u,rfl,Dm _ hr⟩
 ·cases hr
def Dp (hI:gT E ih){f:FuncId}{args:List nnn}{o:Option nnn}(hr:zA E ih f args=some o):af E.P E.G f args cw (rO o):=by
 unfold zA at hr;split at hr
 ·rename_i u h' hc;obtain⟨x,h2,hcr,_,hK⟩:=mM hI zX hc;obtain⟨rfl,rfl⟩:=hcr;split at hr
  ·rename_i w hw;cases hr;exact hK (rO (some w)) ⟨u,rfl,Dm _ hw⟩
  ·cases hr
 ·rename_i h' hc;obtain⟨x,h2,hcr,_,hK⟩:=mM hI zX hc;obtain⟨rfl,rfl⟩:=hcr;cases hr;exact hK (rO none) rfl
 ·cases hr
def Dq (hE:EOk E){f:FuncId}{args args':List nnn}{rs:List Nat}{v:nnn}{h:EH}(hm:bO (il h 40) args=some (args',rs))(hc:af E.P E.G f args' cw fun r H'=>∃u,r=.ret u/\nns H' u v)
  (H2:nnl) (ha:∀r,r∈rs->H2.get r=(au h).get r):af E.P E.G f args H2 fun r H'=>r=.ret v/\H'=H2:=by
 obtain⟨h1,h2⟩:=ow hm;exact af.frame hE.gok h1 (fun i hi hi'=>let ⟨ri,h3,h4⟩:=h2 i hi hi';Dl 40 h3 H2 fun r hr=>ha r (h4 r hr)) hc
def Ps (hE:EOk E)(hI:gT E ih){f:FuncId}{first cap args:List nnn}{h:EH}{r:RR}(hv:VH h)(hr:zC E ih f first cap args h=some r):zV E f (first++args++cap) h r:=by
 unfold zC at hr;split at hr
 ·rw[iJ]at hr;split at hr
  ·exact mM hI hv hr
  ·rename_i l hl;unfold CO at hr;split at hr
   ·cases hr
   ·rename_i p hm;split at hr
    ·rename_i v hk;have:r=.ret v h:=(Option.some.inj hr).symm;subst this;refine⟨.ret v,h,⟨rfl,rfl⟩,hv,fun K hK=>?_⟩;exact(Dq hE hm (hE.known f l hl _ _ (Do hk)) (au h) fun _ _=>rfl).mono fun x H' ⟨h1,h2⟩=>by rw[h1,h2];exact hK
    ·exact mM hI hv hr
 ·rename_i z hz;rw[iJ]at hr;unfold CK at hr;split at hr
  ·rename_i g cap2 heq;rw[heq];split at hr
   ·rename_i p hm;obtain⟨hlt,hr⟩:=gD hr;have hview:∀H2:nnl,(∀id,id<(au h).C->H2.get id=(au h).get id)->∀i (h:i<cap2.length) (h':i<p.1.length),Fz (fun _=>True) H2 0 cap2[i] p.1[i]:=fun H2 ha i hi hi'=>by
     obtain⟨_,h2⟩:=ow hm;obtain⟨ri,h3,h4⟩:=h2 i hi hi';refine Dl 40 h3 H2 fun r hr=>ha r ?_;have:=XK.1 hlt r (h4 r hr);rw[ZE]at this;exact this
    unfold CJ at hr;split at hr
    ·rename_i u hgo;obtain⟨hok,hr⟩:=gD hr;have:r=.ret (.nc [u,.lit (.int .i64 0)]) h:=(Option.some.inj hr).symm;subst this;refine⟨_,h,⟨rfl,rfl⟩,hv,fun K hK=>?_⟩;exact(hE.gd f z hz g cap2 p.1 (au h) (some u) (ow hm).1 hview (fun _ h=>by cases h;exact hok) (Dp hI hgo)).mono fun x H' ⟨h1,h2⟩=>by rw[h1,h2];exact hK
    ·rename_i hgo;have:r=.ret (.nc [z.z,.lit (.int .i64 6)]) h:=(Option.some.inj hr).symm;subst this;refine⟨_,h,⟨rfl,rfl⟩,hv,fun K hK=>?_⟩;exact(hE.gd f z hz g cap2 p.1 (au h) none (ow hm).1 hview (fun _ h=>by cases h) (Dp hI hgo)).mono fun x H' ⟨h1,h2⟩=>by rw[h1,h2];exact hK
    ·cases hr
   ·cases hr
  ·cases hr
def sI {h:EH}{id:Nat}{st:LoopState}{pend:Option Code}{n:Nat}{env:BT nnn}{ps:Array Tmp}{asg body:Code}(hg:ba h.hp id=some (.loop st pend n env ps asg body)):
  (au h).get id=some (.loop st pend n (aK env) ps asg body):=by
 show Option.map nnk.kL (ba h.hp id)=_;rw[hg];rfl
def VH.set {h:EH}(hv:VH h){hp:BT nnk}{id:Nat}{b:nnk}(hs:∀m,ba hp m=if m=id then some b else ba h.hp m)(hid:id<h.nx):VH ⟨hp,h.nx⟩:=by
 intro j x hj;rw[hs]at hj;show j<h.nx;split at hj
 ·omega
 ·exact hv _ _ hj
def zY {h:EH}{hp:BT nnk}{id:Nat}{b:nnk}(hs:∀m,ba hp m=if m=id then some b else ba h.hp m):au ⟨hp,h.nx⟩=(au h).upd id b.kL:=by
 rw[vr (nx:=h.nx) hs];rfl
def Pt (hI:gT E ih){id:Nat}{args:List nnn}{h:EH}{r:RR}(hv:VH h)(hr:zB ih id args h=some r):zW E (.nk id) args h r:=by
 unfold zB at hr;split at hr
 ·rename_i pend n env ps asg body hg;obtain ⟨hok,hr1⟩:=gD hr;unfold CN at hok;simp only [Xv] at hok;obtain ⟨hokB,hf1,hf2,hps⟩:=hok;obtain ⟨e0,hr2,hlen,he0⟩:=Pn hr1;have hget:=sI hg;have hid : id<h.nx:=hv _ _ hg
    -- the rule of a round
  have rule:∀K:nnf->nnl->Prop,W E.P E.G n (some id) asg (Cx E.P E.G n id body K) ⟨aK e0,au h⟩->aC E.P E.G (.nk id) args (au h) K:=fun K hW=>by
   refine aC.nk hget (by simpa using hlen) hps ?_;rw[Pp hokB,<- he0];exact hW
  unfold CL at hr2;split at hr2
  ·rename_i e1 h1 hi;obtain⟨x,e2,h2,h3,h4,h5⟩:=hI _ _ _ _ _ _ hi hv hf1;cases h3;split at hr2
   ·rename_i pend2 n2 env2 ps2 asg2 body2 hg1;obtain ⟨hp1,hr3,hs1⟩:=mJ _ _ _ _ _ hr2;have hget1:=sI hg1;have hv1 : VH ⟨hp1,h1.nx⟩:=h4.set hs1 (h4 _ _ hg1);have hup1:=zY (h:=h1) hs1;have mk : ∀ (x2 : AX) (e3 : BT nnn) (h3 : EH) (st : LoopState) (pd : Option Code) (b : Bool),ih (some id) n body e1 ⟨hp1,h1.nx⟩=some (.ev x2 e3 h3)→sy id st pd b h3=some r →
      (∀K:nnf->nnl->Prop,yI id K x2 ⟨aK e3,au h3⟩=bd (mC st pd ((au h3).get id)) fun blk=>K (.ret (.lit (.bool b))) ((au h3).upd id blk))->zW E (.nk id) args h r:=by
     intro x2 e3 h3 st pd b hi2 hre hq;obtain⟨x',e',h',h6,h7,h8⟩:=hI _ _ _ _ _ _ hi2 hv1 hf2;cases h6;unfold sy at hre;split at hre
     ·rename_i n3 env3 ps3 asg3 body3 hg3;obtain⟨hp3,hr4,hs3⟩:=mJ _ _ _ _ _ hre;have hr5:r=.ret (.lit (.bool b)) ⟨hp3,h3.nx⟩:=(Option.some.inj hr4).symm;subst hr5;have hup3:=zY (h:=h3) hs3;refine⟨_,_,⟨rfl,rfl⟩,h7.set hs3 (h7 _ _ hg3),fun K hK=>rule K (h5 _ ?_)⟩;refine⟨_,by rw[hget1];rfl,?_⟩;have hbusy:(au h1).upd id (.loop .busy pend2 n2 (aK env2) ps2 asg2 body2)=au ⟨hp1,h1.nx⟩:=hup1.symm;show W E.P E.G n (some id) body (yI id K) ⟨aK e1,(au h1).upd id (.loop .busy pend2 n2 (aK env2) ps2 asg2 body2)⟩;rw[hbusy];refine h8 _ ?_;rw[hq];refine⟨.loop st pd n3 (aK env3) ps3 asg3 body3,by rw[sI hg3];rfl,?_⟩;rw[hup3]at hK;exact hK
     ·cases hre
    unfold endRound at hr3;split at hr3
    ·rename_i e3 h3 hi2;exact mk _ _ _ _ _ _ hi2 hr3 fun _=>rfl
    ·rename_i e3 h3 hi2;exact mk _ _ _ _ _ _ hi2 hr3 fun _=>rfl
    ·rename_i i e3 h3 hi2;exact mk _ _ _ _ _ _ hi2 hr3 fun _=>rfl
    ·cases hr3
   ·cases hr2
  ·cases hr2
 ·cases hr
def Pu (hE:EOk E)(hI:gT E ih){fv:nnn}{args:List nnn}{h:EH}{r:RR}(hv:VH h)(hr:uJ E ih fv args h=some r):zW E fv args h r:=by
 unfold uJ at hr;split at hr
 ·rename_i f first cap
  split at hr
  ·obtain⟨x,h',h1,h2,h3⟩:=Ps hE hI hv hr;exact⟨x,h',h1,h2,fun K hK=>aC.nb (h3 K hK)⟩
  ·rename_i e he;unfold CP at hr;split at hr
   ·rename_i hfc;obtain⟨rfl,rfl⟩:=aak.1 hfc;rw[iJ]at hr;split at hr
    ·rename_i v hv2;rw[qB]at hr;have:r=.ret v h:=(Option.some.inj hr).symm;subst this;exact⟨_,h,⟨rfl,rfl⟩,hv,fun K hK=>hE.ext f e he _ _ hv2 _ _ hK⟩
    ·cases hr
   ·cases hr
 ·exact Pt hI hv hr
 ·cases hr
def vy {h:EH}{rd:Option Nat}(hr:qt h rd=true):eS (au h) rd:=by
 unfold qt at hr;split at hr
 ·trivial
 ·rename_i id;split at hr
  ·rename_i st pend n env ps asg body hg;exact⟨st,pend,n,aK env,ps,asg,body,sI hg⟩
  ·cases hr
abbrev Rest (r:RR)(KQ:(AX->St->Prop)->St->Prop)(env:BT nnn)(h:EH):Prop :=
 ∃x e2 h2,r=.ev x e2 h2/\VH h2/\∀Q:AX->St->Prop,Q x ⟨aK e2,au h2⟩->KQ Q ⟨aK env,au h⟩
def Pv {P:Program}{H:nnl}{op:BinOp}{t:TypeId}{x y:Operand}{a b v:nnn}(h:bq P op t x y a b=some v):iF H op a b=none:=by
 cases hn:iF H op a b with
 |none=>rfl
 |some c =>
  exfalso;unfold iF at hn;unfold bq at h;split at hn
  ·cases a<;>simp_all[nnn.bZ]
  ·cases a<;>simp_all[nnn.bZ]
  ·cases hn
def Pw {P:Program}{G:Nat->Option (List nnn)}{rd:Option Nat}{Q:AX->St->Prop}{o:Oper}{K:St->Prop}{s:St}{v:nnn}{H':nnl}(hop:aj P G s.ρ s.H s.H.C o.op=some (v,H'))(hk:K ⟨aF s.ρ o.dst v,H'⟩):aV P G rd Q o K s:=by
 unfold aV;split
 ·rename_i h;rw[h]at hop;simp[aj]at hop
 ·rename_i h;rw[h]at hop;simp[aj]at hop
 ·rename_i op t x y u h;rw[h]at hop;have hb:(bq P op t x y (ak G s.ρ x) (ak G s.ρ y)).map (fun v=>(v,s.H))=some (v,H'):=hop;simp only[W4,Prod.mk.injEq]at hb;obtain⟨v',hb1,_,_⟩:=hb;rw[Pv hb1];exact⟨(v,H'),hop,hk⟩
 ·exact⟨(v,H'),hop,hk⟩
def Px (hE:EOk E)(hI:gT E ih){rd:Option Nat}{o:Oper}{k:BT nnn->EH->R}{env:BT nnn}{h:EH}{r:RR}{KQ:(AX->St->Prop)->St->Prop}(hv:VH h)
  (hk:∀env' h',VH h'->k env' h'=some r->Rest r KQ env' h') (hr:vh o.op E ih rd o.dst k env h=some r):Rest r (fun Q=>aV E.P E.G rd Q o (KQ Q)) env h:=by
 rcases Pj hv hr with ⟨v,env',h',hop,hv',he,hkr⟩|⟨op,t,x,y,u,env',hop,hn,hs,he,hkr⟩|⟨fv,args,ats,hop,hrv⟩|⟨x,hop,hrp⟩
 ·obtain⟨x,e2,h2,h3,h4,h5⟩:=hk _ _ hv' hkr;refine⟨x,e2,h2,h3,h4,fun Q hq=>Pw (v:=v) (H':=au h') hop ?_⟩;have:=h5 Q hq;rw[he]at this;exact this
 ·obtain⟨x',e2,h2,h3,h4,h5⟩:=hk _ _ hv hkr;refine⟨x',e2,h2,h3,h4,fun Q hq=>?_⟩;unfold aV;rw[hop];simp only;rw[hn];refine⟨hs,fun b hb=>?_⟩;have hb':=hb rfl;subst hb';have:=h5 Q hq;rw[he]at this;cases hnq:(op == BinOp.neq)<;>rw[hnq]at this<;>exact this
 ·unfold zE at hrv;rw [qC,cW] at hrv;unfold CQ at hrv;have key : ∀ {x : nnf} {h' : EH} {r0 : RR},uJ E ih (ak E.G (aK env) fv) (args.toList.map (ak E.G (aK env))) h=some r0→zU r0 x h'→VH h'∧∀ (Q : AX→St→Prop),(eS (au h') rd∧match (x : nnf) with
    |.ret v=>KQ Q ⟨aF (aK env) o.dst v,au h'⟩
    |.panic=>Q .panic ⟨aK env,au h'⟩)->aV E.P E.G rd Q o (KQ Q) ⟨aK env,au h⟩:=by
   intro x h' r0 happ hc;obtain⟨x2,h2,hc2,hv2,hK⟩:=Pu hE hI hv happ;have hx:x2=x/\h2=h':=by
    cases r0 with
    |ret v h0=>exact⟨hc2.1.trans hc.1.symm,hc2.2.trans hc.2.symm⟩
    |panic h0=>exact⟨hc2.1.trans hc.1.symm,hc2.2.trans hc.2.symm⟩
    |ev=>exact hc.elim
   obtain⟨rfl,rfl⟩:=hx;refine⟨hv2,fun Q hq=>?_⟩;unfold aV;rw[hop];exact hK _ hq
  split at hrv
  ·rename_i v h' happ;obtain⟨hrd,hrv2⟩:=gD hrv;obtain⟨hv',hq⟩:=key happ (x:=.ret v) (h':=h') ⟨rfl,rfl⟩;obtain⟨env',h1,h2⟩:=lT hrv2;obtain⟨x,e2,h3,h4,h5,h6⟩:=hk _ _ hv' h1;refine⟨x,e2,h3,h4,h5,fun Q hQ=>hq Q ⟨vy hrd,?_⟩⟩;have:=h6 Q hQ;rw[h2]at this;exact this
  ·rename_i h' happ;obtain⟨hrd,hrv2⟩:=gD hrv;obtain⟨hv',hq⟩:=key happ (x:=.panic) (h':=h') ⟨rfl,rfl⟩;exact⟨.panic,env,h',(Option.some.inj hrv2).symm,hv',fun Q hQ=>hq Q ⟨vy hrd,hQ⟩⟩
  ·cases hrv
 ·unfold zD at hrp;split at hrp
  ·rename_i t v heq;refine⟨.panic,env,h,(Option.some.inj hrp).symm,hv,fun Q hq=>?_⟩;unfold aV;rw[hop];exact⟨⟨t,v,heq⟩,hq⟩
  ·cases hrp
def Dr {all:Array Oper}{ρ:Env}{o:Oper}{yes no:R}{r:RR}(hr:qw all ρ o.guard yes no=some r):(eH all ρ o=some true/\yes=some r)\/(eH all ρ o=some false/\no=some r):=by
 unfold qw at hr;unfold eH;cases hg:o.guard with
 |none=>rw[hg]at hr;exact .inl ⟨rfl,hr⟩
 |some jw =>
  obtain⟨j,want⟩:=jw;rw[hg]at hr;have hr2:zG all ρ yes no (j,want)=some r:=hr;unfold zG at hr2;simp only at hr2 ⊢;split at hr2
  ·rename_i d hd;rw[hd];simp only;split at hr2
   ·rename_i b hb;rw[hb];cases hbw:b == want with
    |true=>rw[hbw]at hr2;exact .inl ⟨by show some (b == want)=_;rw[hbw],hr2⟩
    |false=>rw[hbw]at hr2;exact .inr ⟨by show some (b == want)=_;rw[hbw],hr2⟩
   ·rename_i v hnb hb;rw[hb];exact .inr ⟨by cases v<;>first|rfl|exact absurd rfl (hnb _),hr2⟩
   ·cases hr2
  ·rename_i hd;rw[hd];exact .inr ⟨rfl,hr2⟩
def Ds (hE:EOk E)(hI:gT E ih){rd:Option Nat}{all:Array Oper}{r:RR}:∀(l:List Oper) (env:BT nnn) (h:EH),VH h->qx E ih rd all l env h=some r->Rest r (fun Q=>opsV E.P E.G rd Q all l) env h:=by
 intro l
 induction l with
 |nil=>exact fun env h hv hr=>⟨.normal,env,h,(Option.some.inj hr).symm,hv,fun Q hq=>hq⟩
 |cons o l ihl =>
  intro env h hv hr;have hr1:qw all (aK env) o.guard (vh o.op E ih rd o.dst (qx E ih rd all l) env h) (fH env o.dst (.lit undef) fun env=>qx E ih rd all l env h)=some r:=hr;rcases Dr hr1 with ⟨hw,hr2⟩|⟨hw,hr2⟩
  ·obtain⟨x,e2,h2,h3,h4,h5⟩:=Px hE hI (KQ:=fun Q=>opsV E.P E.G rd Q all l) hv (fun env' h' hv' hk=>ihl env' h' hv' hk) hr2;exact⟨x,e2,h2,h3,h4,fun Q hq=>⟨true,hw,h5 Q hq⟩⟩
  ·obtain⟨env',h1,h2⟩:=lT hr2;obtain⟨x,e2,h2',h3,h4,h5⟩:=ihl env' h hv h1;refine⟨x,e2,h2',h3,h4,fun Q hq=>⟨false,hw,?_⟩⟩;have:=h5 Q hq;rw[h2]at this;exact this
def qF {I:Machine->Prop}{P:Program}{m t m1:Machine}(h:StepsIn I P m t)(hs:step P m=.next m1)(hne:m≠t):StepsIn I P m1 t:=by
 cases h with
 |refl=>exact absurd rfl hne
 |head hI h' h'' =>
  rw[hs]at h';cases h';exact h''
def vz {b b':Frame}{a a':Act}{k k':List Item}{cs cs':List Frame}{w w':World}(h:k≠k'):lone (b.atR a k) cs w≠lone (b'.atR a' k') cs' w':=by
 intro he;simp only[lone,Machine.mk.injEq,Array.mk.injEq,List.cons.injEq,Goroutine.mk.injEq,Frame.atR,Frame.mk.injEq]at he;exact h he.2.1.1.1.2.2.1
def Du {b b':Frame}{a a':Act}{k k':List Item}{cs cs':List Frame}{w w':World}{u:FrameMode}(h:u≠.run):lone (b.atR a k) cs w≠lone { b'.atR a' k' with mode:=u } cs' w':=by
 intro he;simp only[lone,Machine.mk.injEq,Array.mk.injEq,List.cons.injEq,Goroutine.mk.injEq,Frame.atR,Frame.mk.injEq]at he;exact h he.2.1.1.1.2.2.2.2.1.symm
def Py {id:Nat}:∀ {k k':List Item},exitTo id k=some k'->k'.length<=k.length:=by
 intro k
 induction k with
 |nil=>intro k' h;cases h
 |cons x k ih =>
  intro k' h;have hle:exitTo id k=some k'->k'.length<=(x :: k).length:=fun h=>Nat.le_succ_of_le (ih h);cases x with
  |inBlock id' =>
   simp only[exitTo]at h;split at h
   ·cases h;simp
   ·exact hle h
  |_=>exact hle h
def W.Pz {P:Program}{G:Nat->Option (List nnn)}{n:Nat}{rd:Option Nat}{c:Code}{Q:AX->St->Prop}{s:St}(hQ:∀l s,¬Q (.goto l) s)(h:W P G n rd c (iE (W P G n rd (.loop c) Q) Q) s):W P G n rd (.loop c) Q s:=by
 intro wb Γ a w rb hs hr b k cs hro hb hrm;have h0:(lone (b.atR a (.code (.loop c) :: k)) cs w).fenced P (da rb):=fenced_calm hb hrm rfl;obtain⟨e,a₁,w₁,⟨x,s₁,Γ₁,hx,hq,hs₁,E₁,hn₁,hr₁,hf₁⟩,harr⟩:=h wb Γ a w rb hs hr b (.inLoop c :: k) cs hro hb hrm;cases e with
 |normal =>
  cases x with
  |normal =>
   obtain⟨e,a₂,w₂,hp,harr₂⟩:=hq wb Γ₁ a₁ w₁ rb hs₁ hr₁ b k cs hro hb hrm;have hp':=hp.step E₁ hn₁ hf₁ fun t ht=>ht;refine⟨e,a₂,w₂,hp',?_⟩;have start:StepsIn (Machine.fenced P (da rb)) P (lone (b.atR a (.code (.loop c) :: k)) cs w) (lone (b.atR a₁ (.code c :: .inLoop c :: k)) cs w₁) :=
    .head h0 stepR_loop (StepsIn.trans harr (.one (fenced_calm hb hrm rfl) stepR_inLoop))
   obtain⟨y,s₂,Γ₂,hy,hq₂,_⟩:=hp;have hl:∀(k':List Item),k'.length<=k.length->Item.code (.loop c) :: k≠k':=fun k' hk' he=>by subst he;simp only[List.length_cons]at hk';omega
   cases e with
   |normal=>exact start.trans (qF harr₂ stepR_loop (vz (hl _ aaz)))
   |exit id =>
    refine⟨fun k' hk'=>start.trans (qF (harr₂.1 k' hk') stepR_loop (vz (hl _ (Py hk')))),fun hr2 hk'=>?_⟩;obtain⟨k₁,h1,h2⟩:=harr₂.2 hr2 hk';exact⟨k₁,h1,start.trans (qF h2 stepR_loop (vz (k':=.code (.exit id) :: k₁) (fun he=>by cases he)))⟩
   |goto l=>cases y with
    |goto l'=>exact absurd hq₂ (hQ _ _)
    |_=>exact hy.elim
   |ret =>
    refine⟨fun hr2=>?_,fun hr2=>?_⟩
    ·obtain⟨todo,h1⟩:=harr₂.1 hr2;exact⟨todo,start.trans (qF h1 stepR_loop (Du (fun he=>by cases he)))⟩
    ·obtain⟨k₁,h1⟩:=harr₂.2 hr2;exact⟨k₁,start.trans (qF h1 stepR_loop (vz (k':=.code .ret :: k₁) (fun he=>by cases he)))⟩
   |panic ch =>
    obtain⟨todo,h1⟩:=harr₂;exact⟨todo,start.trans (qF h1 stepR_loop (Du (fun he=>by cases he)))⟩
   |outgrown=>cases y<;>exact hy.elim
  |_=>exact hx.elim
 |exit id=>cases x with
  |exit j=>exact⟨_,a₁,w₁,⟨.exit j,s₁,Γ₁,hx,hq,hs₁,E₁,hn₁,hr₁,hf₁⟩,.of_steps (.one h0 stepR_loop) (.pass (x:=.inLoop c) rfl (fun _ _=>.inl aaw) harr)⟩
  |_=>exact hx.elim
 |goto id=>cases x with
  |goto j=>exact⟨_,a₁,w₁,⟨.goto j,s₁,Γ₁,hx,hq,hs₁,E₁,hn₁,hr₁,hf₁⟩,.of_steps (.one h0 stepR_loop) (.pass (x:=.inLoop c) rfl (fun _ _=>.inl aaw) harr)⟩
  |_=>exact hx.elim
 |ret=>cases x with
  |ret=>exact⟨_,a₁,w₁,⟨.ret,s₁,Γ₁,hx,hq,hs₁,E₁,hn₁,hr₁,hf₁⟩,.of_steps (.one h0 stepR_loop) (.pass (x:=.inLoop c) rfl (fun _ _=>.inl aaw) harr)⟩
  |_=>exact hx.elim
 |panic ch=>cases x with
  |panic=>exact⟨_,a₁,w₁,⟨.panic,s₁,Γ₁,hx,hq,hs₁,E₁,hn₁,hr₁,hf₁⟩,.of_steps (.one h0 stepR_loop) (.pass (x:=.inLoop c) rfl (fun _ _=>.inl aaw) harr)⟩
  |_=>exact hx.elim
 |outgrown=>cases x<;>exact hx.elim
def Dv {b:Nat}{f:FP}{acc:List (Nat × FP)}(h:zH b f acc=true):fP b f acc:=by
 intro p hp hb;have:=XK.1 h p hp;rw[hb,ZW,Xv,XK,XK]at this;refine⟨fun r hr hr2=>?_,fun r hr hr2=>?_⟩
 ·have:=this.1 r hr;simp[hr2]at this
 ·have:=this.2 r hr;simp[hr2]at this
def jg.PA {P:Program}{G:Nat->Option (List nnn)}{fv:nnn}{args:List nnn}{H:nnl}{v:nnn}{rs:List Nat}(h1:∀r,r∈rs->r<H.C)
  (h2:∀H2:nnl,(∀r,r∈rs->H2.get r=H.get r)->aC P G fv args H2 fun r H3=>r=.ret v/\H3=H2):Ev.jg P G fv args H v (fun _=>none) 0 ⟨[],rs⟩ :=
 ⟨h1,fun r (hr:false=true)=>absurd hr aax,fun c hc=>absurd hc (Xo _),fun H2 ha _ _=>h2 H2 ha⟩
def qG (E:EP)(fv:nnn)(args:List nnn)(h:EH)(k:nnn->FP->EH->R)(r:RR):Prop :=
 ∃v e n fp h2,k v fp h2=some r/\VH h2/\au h2=⟨Ev.bK e (au h).get,(au h).C+n⟩/\Ev.jg E.P E.G fv args (au h) v e n fp
def qG.pure {fv:nnn}{args:List nnn}{h:EH}{k:nnn->FP->EH->R}{r:RR}{v:nnn}{rs:List Nat}(hv:VH h)(hk:k v ⟨[],rs⟩ h=some r)(h1:∀r,r∈rs->r<(au h).C)
  (h2:∀H2:nnl,(∀r,r∈rs->H2.get r=(au h).get r)->aC E.P E.G fv args H2 fun r H3=>r=.ret v/\H3=H2):qG E fv args h k r :=
 ⟨v,_,0,_,h,hk,hv,rfl,jg.PA h1 h2⟩
def Dw {l:List Nat}{n:Nat}(h:(l.all fun r=>Nat.blt r n)=true):∀r,r∈l->r<n:=fun r hr=>by
 have:=XK.1 h r hr;rw[ZE]at this;exact this
def zZ (hE:EOk E)(hI:gT E ih){f:FuncId}{first cap args:List nnn}{h:EH}{k:nnn->FP->EH->R}{r:RR}(hv:VH h)(hr:vj E ih f (first++args++cap) h k=some r):qG E (.nb f first cap) args h k r:=by
 obtain⟨kp,hr1,hinv⟩:=mR (fun v acc k r=>PK 40 v acc k r) hr;have hgood:∀id,id∈kp->qH h 0 [] kp id:=fun id hid=>(hinv.2 id hid).resolve_left (List.not_mem_nil);have hkn:∀id,id∈kp->id<h.nx:=fun id hid=>let ⟨_,g,e,c,hg,_⟩:=hgood id hid;hv id _ hg
 unfold CY at hr1;split at hr1
 ·rename_i p hp;obtain⟨hfz,hr2⟩:=gD hr1;obtain⟨hp1,hr3,hget⟩:=PM hr2;have hvs:VH ⟨hp1,h.nx⟩:=by
   intro id b hb;have hb':ba hp1 id=some b:=hb;rw[hget]at hb';split at hb'
   ·exact hv id b hb'
   ·cases hb'
  unfold CX at hr3;split at hr3
  ·rename_i v h' hc;obtain⟨x,h2,hcr,hv2,hK⟩:=mM hI hvs hc;obtain⟨rfl,rfl⟩:=hcr;unfold CW at hr3;split at hr3
   ·rename_i lv hle hsame hlv;obtain⟨hi2,hcl⟩:=DA 40 v [] lv hlv;have hgl:∀id,id∈lv->qH h2 h.nx kp lv id:=fun id hid=>(hi2.2 id hid).resolve_left (List.not_mem_nil);have hln:∀id,id∈lv->id<h2.nx:=fun id hid=>let ⟨_,g,e,c,hg,_⟩:=hgl id hid;hv2 id _ hg
    have hle':h.nx<=h2.nx:=Yw hle;obtain⟨t',hr4,hnew⟩:=PQ hr3;rw[im]at hr4;have hKin:∀id,iL h.nx kp lv id->(id∈kp\/(h.nx<=id/\id<h2.nx/\eU lv id=true)):=by
     rintro id (⟨h1,h3⟩|⟨h1,h3⟩)
     ·exact .inl h3
     ·exact .inr ⟨U,hln id h3,kS.2 h3⟩
    obtain⟨hm1,hm2⟩:=ow hp;have hE1:=Ev.jg.mk (P:=E.P) (G:=E.G) (f:=f) (first:=first) (cap:=cap) (args:=args) (args':=p.1) (v:=v) (H:=au h) (au ⟨hp1,h.nx⟩) (au h2) (fun id=>id∈kp) (eU lv) (kp++p.2) hE.gok
     (fun r hr=>by
      rcases Xt.1 hr with hr|hr
      ·exact hkn r hr
      ·exact Dw hfz r hr)
     rfl hle'
     (fun id hid=>by
      obtain⟨_,g,e,c,hg,hcc⟩:=hgood id hid;refine⟨YU _ hid,?_,?_,g,e,c,mL hg,fun i hi=>(hcc i hi).mono fun j hj=>hj.elim (fun h=>absurd h.1 (Xo _)) fun h=>h.2⟩
      ·show Option.map _ (ba hp1 id)=Option.map _ (ba h.hp id);rw[hget,W8 hid]
      ·show Option.map _ (ba h2.hp id)=Option.map _ (ba h.hp id);rw[<- PP (PJ hsame id hid)])
     (fun id hid=>by
      show Option.map _ (ba hp1 id)=none;rw[hget,W7 hid];rfl)
     hm1
     (fun H2 ha i hi hi'=>by
      obtain⟨ri,h3,h4⟩:=hm2 i hi hi';exact PL hkn 40 h3 H2 fun r hr=>ha r (YD _ (h4 r hr)))
     (hK _ ⟨rfl,rfl⟩)
     (hcl.mono hKin)
     (fun id h1 h3 h4=>by
      obtain⟨_,g,e,c,hg,hcc⟩:=hgl id (kS.1 h4);exact⟨g,e,c,mL hg,fun i hi=>(hcc i hi).mono hKin⟩)
    refine⟨v,_,_,_,⟨t',h2.nx⟩,hr4,?_,?_,hE1⟩
    ·intro id b hb;have hb':ba t' id=some b:=hb;rw[hnew]at hb';show id<h2.nx;split at hb'
     ·rename_i hc;have:Nat.sub h2.nx h.nx=h2.nx-h.nx:=rfl;rw[this]at hc;omega
     ·have:=hv id b hb';omega
    ·have hget2:(au ⟨t',h2.nx⟩).get=Ev.bK (Ev.dG (au h).C (au h2).C (eU lv) (au h2).get) (au h).get:=by
      funext m
      show Option.map nnk.kL (ba t' m)=_;rw[hnew];have hsub:h.nx+Nat.sub h2.nx h.nx=h2.nx:=by
       have:Nat.sub h2.nx h.nx=h2.nx-h.nx:=rfl;omega
      rw[hsub];unfold Ev.bK Ev.dG;by_cases hc:h.nx<=m/\m<h2.nx
      ·rw[W8 hc,W8 (show (au h).C<=m/\m<(au h2).C from hc)];by_cases hm:eU lv m=true
       ·obtain⟨_,g,e,c,hg,hcc⟩:=hgl m (kS.1 hm);rw[W8 hm,W8 hm,mL hg,hg];rfl
       ·rw[W7 hm,W7 hm];rfl
      ·rw[W7 hc,W7 (show ¬((au h).C<=m/\m<(au h2).C) from hc)];rfl
     have hnx:(au ⟨t',h2.nx⟩).C=(au h).C+((au h2).C-(au h).C):=by
      show h2.nx=h.nx+(h2.nx-h.nx)
      omega
     calc au ⟨t',h2.nx⟩=⟨(au ⟨t',h2.nx⟩).get,(au ⟨t',h2.nx⟩).C⟩:=rfl
      _=_:=by rw[hget2,hnx]
   ·cases hr3
  ·cases hr3
 ·cases hr1
def PB (hE:EOk E)(hI:gT E ih){fv:nnn}{args:List nnn}{h:EH}{k:nnn->FP->EH->R}{r:RR}(hv:VH h)(hr:zI E ih fv args h k=some r):qG E fv args h k r:=by
 unfold zI at hr;split at hr
 ·rename_i f first cap
  split at hr
  ·unfold C2 at hr;split at hr
   ·cases hr
   ·rw[iJ]at hr;split at hr
    ·exact zZ hE hI hv hr
    ·rename_i l hl;unfold CZ at hr;split at hr
     ·exact zZ hE hI hv hr
     ·rename_i p hm;split at hr
      ·rename_i v hf;obtain⟨hlt,hr2⟩:=gD hr;exact qG.pure hv hr2 (Dw hlt) fun H2 ha=>aC.nb (Dq hE hm (hE.known f l hl p.1 v (Do hf)) H2 ha)
      ·exact zZ hE hI hv hr
  ·rename_i e he;unfold CV at hr;split at hr
   ·rename_i hfc;obtain⟨rfl,rfl⟩:=aak.1 hfc;rw[iJ]at hr;split at hr
    ·rename_i v hv2;exact qG.pure hv hr (fun r hr=>by cases hr) fun H2 _=>hE.ext f e he _ _ hv2 _ _ ⟨rfl,rfl⟩
    ·cases hr
   ·cases hr
 ·cases hr
def PC (hE:EOk E)(hI:gT E ih){o:Oper}{b i:Nat}{acc:List (Nat × FP)}{k:qy}{env:BT nnn}{h:EH}{r:RR}{KQ:(AX->St->Prop)->List (Nat × FP)->St->Prop}(hv:VH h)
  (hk:∀acc env' h',VH h'->k acc env' h'=some r->Rest r (fun Q=>KQ Q acc) env' h') (hr:vl E ih o b i acc k env h=some r):
  Rest r (fun Q s=>Ev.bA E.P E.G o (fun f s'=>fP b f acc/\KQ Q (dH i f acc) s') s) env h:=by
 have gen:∀ {op:Op},o.op=op->vk o.dst b i acc k env (bz E.P E.G (aK env) h.nx op) (om E env h op) h=some r->(∀fv args ats,op≠.call ⟨.value fv,args,ats⟩) ->
   Rest r (fun Q s=>Ev.bA E.P E.G o (fun f s'=>fP b f acc/\KQ Q (dH i f acc) s') s) env h:=by
  intro op hop hd hne;unfold vk at hd;obtain⟨hap,hd2⟩:=gD hd;obtain⟨v,h',h1,h2,h3⟩:=De hv (vv hv).1 hd2;obtain⟨env',h4,h5⟩:=lT h3;obtain⟨x,e2,h6,h7,h8,h9⟩:=hk _ _ _ h2 h4;refine⟨x,e2,h6,h7,h8,fun Q hq=>?_⟩;have hopA:=(vv hv).2 _ _ h1;have hq2:=h9 Q hq;rw[h5]at hq2;unfold Ev.bA;split
  ·rename_i hop2;exact absurd (hop.symm.trans hop2) (hne _ _ _)
  ·refine⟨(v,au h'),by rw[hop];exact hopA,?_⟩;rw[hop];exact⟨Dv hap,hq2⟩
 unfold vl at hr;split at hr
 ·rename_i c hop;split at hr
  ·rename_i fv hc;rw[qC,cW]at hr;obtain⟨v,e,n,fp,h2,hr2,hv2,hH,hec⟩:=PB hE hI hv hr;unfold C3 at hr2;obtain⟨hap,hd2⟩:=gD hr2;rw[qB]at hd2;obtain⟨env',h4,h5⟩:=lT hd2;obtain⟨x,e2,h6,h7,h8,h9⟩:=hk _ _ _ hv2 h4;refine⟨x,e2,h6,h7,h8,fun Q hq=>?_⟩;have hq2:=h9 Q hq;rw[h5,hH]at hq2;obtain⟨callee,args,ats⟩:=c;simp only at hc;subst hc;unfold Ev.bA;rw[hop];exact⟨v,e,n,fp,hec,Dv hap,hq2⟩
  ·rename_i hne;refine gen hop hr fun fv args ats he=>?_;have he2:c=⟨.value fv,args,ats⟩:=Op.call.inj he;exact hne fv (by rw[he2])
 ·cases hr
 ·rename_i op hne1 hne2;exact gen rfl hr fun fv args ats he=>hne1 _ he
def PD (hE:EOk E)(hI:gT E ih){all:Array Oper}{tail:BT nnn->EH->R}{r:RR}{TQ:(AX->St->Prop)->St->Prop}(ht:∀env h,VH h->tail env h=some r->Rest r TQ env h):
  ∀(l:List Oper) (bs:List Nat) (i:Nat) (acc:List (Nat × FP)) (env:BT nnn) (h:EH),VH h->vm E ih all tail l bs i acc env h=some r->Rest r (fun Q=>Ev.cZ E.P E.G all (TQ Q) bs i acc l) env h:=by
 intro l
 induction l with
 |nil =>
  intro bs i acc env h hv hr;obtain⟨x,e2,h2,h3,h4,h5⟩:=ht env h hv hr;exact⟨x,e2,h2,h3,h4,fun Q hq=>by cases bs<;>exact h5 Q hq⟩
 |cons o l ihl =>
  intro bs i acc env h hv hr;cases bs with
  |nil=>cases hr
  |cons b bs =>
   have hr1:qw all (aK env) o.guard (vl E ih o b i acc (vm E ih all tail l bs (i+1)) env h) (fH env o.dst (.lit undef) fun env=>vm E ih all tail l bs (i+1) acc env h)=some r:=hr;rcases Dr hr1 with ⟨hw,hr2⟩|⟨hw,hr2⟩
   ·obtain⟨x,e2,h2,h3,h4,h5⟩:=PC hE hI (KQ:=fun Q acc=>Ev.cZ E.P E.G all (TQ Q) bs (i+1) acc l) hv (fun acc env' h' hv' hk=>ihl bs (i+1) acc env' h' hv' hk) hr2;exact⟨x,e2,h2,h3,h4,fun Q hq=>⟨true,hw,h5 Q hq⟩⟩
   ·obtain⟨env',h1,h2⟩:=lT hr2;obtain⟨x,e2,h2',h3,h4,h5⟩:=ihl bs (i+1) acc env' h hv h1;refine⟨x,e2,h2',h3,h4,fun Q hq=>⟨false,hw,?_⟩⟩;have:=h5 Q hq;rw[h2]at this;exact this
def Dx {r0:R}{r:RR}(h:qA r0=some r):r0=some r/\∀l e h,r≠.ev (.goto l) e h:=by
 unfold qA at h;split at h
 ·cases h
 ·rename_i hne;subst h;exact⟨rfl,fun l e h he=>hne l e h (by rw[he])⟩
def PE (hE:EOk E)(hI:gT E ih):gT E (C6 E ih):=by
 intro rd n c env h r hr hv hf;have seqK:∀(a:Code) (b:Code),fits n a=true->fits n b=true->sG ih rd n b (ih rd n a env h)=some r ->
   ∃x env' h',r=.ev x env' h'/\VH h'/\∀Q:AX->St->Prop,Q x ⟨aK env',au h'⟩->W E.P E.G n rd a (iE (W E.P E.G n rd b Q) Q) ⟨aK env,au h⟩:=by
  intro a b hfa hfb hs;unfold sG at hs;split at hs
  ·rename_i e1 h1 hi;obtain⟨x,e2,h2,h3,h4,h5⟩:=hI _ _ _ _ _ _ hi hv hfa;cases h3;obtain⟨x',e',h',h6,h7,h8⟩:=hI _ _ _ _ _ _ hs h4 hfb;exact⟨x',e',h',h6,h7,fun Q hq=>h5 _ (h8 Q hq)⟩
  ·rename_i r0 hne;obtain⟨x,e2,h2,h3,h4,h5⟩:=hI _ _ _ _ _ _ hs hv hfa;subst h3;refine⟨x,e2,h2,rfl,h4,fun Q hq=>h5 _ ?_⟩;cases x with
   |normal=>exact absurd hs (hne _ _)
   |_=>exact hq
 cases c with
 |skip=>exact⟨.normal,env,h,(Option.some.inj hr).symm,hv,fun Q hq=>.skip hq⟩
 |label l=>exact⟨.normal,env,h,(Option.some.inj hr).symm,hv,fun Q hq=>.label hq⟩
 |exit i=>exact⟨.exit i,env,h,(Option.some.inj hr).symm,hv,fun Q hq=>.exit hq⟩
 |ret=>exact⟨.ret,env,h,(Option.some.inj hr).symm,hv,fun Q hq=>.ret hq⟩
 |goto l=>cases hr
 |refuse w=>cases hr
 |region id ops dr =>
  have hr1:Bool.rec (motive:=fun _=>R) (qx E ih rd ops ops.toList env h) (vn E ih rd ops (mH ops.toList []) (sF (mH ops.toList []) ops.toList.length) env h) dr=some r:=hr;cases dr with
  |false =>
   obtain⟨x,e2,h2,h3,h4,h5⟩:=Ds hE hI ops.toList env h hv hr1;exact⟨x,e2,h2,h3,h4,fun Q hq=>.region hf (h5 Q hq)⟩
  |true =>
   have hr2:vn E ih rd ops (mH ops.toList []) (sF (mH ops.toList []) ops.toList.length) env h=some r:=hr1;unfold vn at hr2;obtain⟨hok,hr3⟩:=gD hr2;obtain⟨x,e2,h2,h3,h4,h5⟩:=PD hE hI (TQ:=fun Q=>opsV E.P E.G rd Q ops (ops.toList.drop (sF (mH ops.toList []) ops.toList.length))) (fun env h hv hr=>Ds hE hI _ env h hv hr) _ _ _ _ env h hv hr3;exact⟨x,e2,h2,h3,h4,fun Q hq=>Ev.W.xM _ _ hE.mixed hf hok (h5 Q hq)⟩
 |seq a b =>
  simp only[fits,Xv]at hf;obtain⟨x,e2,h2,h3,h4,h5⟩:=seqK a b hf.1 hf.2 hr;exact⟨x,e2,h2,h3,h4,fun Q hq=>.seq (h5 Q hq)⟩
 |cond x a b =>
  simp only[fits,Xv]at hf;have hr1:zK (ak E.G (aK env) x) (ih rd n a env h) (ih rd n b env h)=some r:=hr;unfold zK at hr1;split at hr1
  ·rename_i t ht;cases t with
   |true =>
    obtain⟨y,e2,h2,h3,h4,h5⟩:=hI _ _ _ _ _ _ hr1 hv hf.1;exact⟨y,e2,h2,h3,h4,fun Q hq=>.cond ht (h5 Q hq)⟩
   |false =>
    obtain⟨y,e2,h2,h3,h4,h5⟩:=hI _ _ _ _ _ _ hr1 hv hf.2;exact⟨y,e2,h2,h3,h4,fun Q hq=>.cond ht (h5 Q hq)⟩
  ·cases hr1
 |block id b =>
  have hr1:zJ id (ih rd n b env h)=some r:=hr;unfold zJ at hr1;split at hr1
  ·rename_i i e1 h1 hi;obtain⟨x,e2,h2,h3,h4,h5⟩:=hI _ _ _ _ _ _ hi hv hf;cases h3;cases hb:Nat.beq i id with
   |true =>
    rw[hb]at hr1;have:=Xr hb;refine⟨.normal,e1,h1,(Option.some.inj hr1).symm,h4,fun Q hq=>.block (h5 _ ?_)⟩;show (if i=id then Q .normal _ else Q (.exit i) _);rw[W8 this];exact hq
   |false =>
    rw[hb]at hr1;have:¬i=id:=fun h=>by rw[h]at hb;rw[show Nat.beq id id=true from Y8 _]at hb;cases hb
    refine⟨.exit i,e1,h1,(Option.some.inj hr1).symm,h4,fun Q hq=>.block (h5 _ ?_)⟩;show (if i=id then Q .normal _ else Q (.exit i) _);rw[W7 this];exact hq
  ·rename_i r0 hne;obtain⟨x,e2,h2,h3,h4,h5⟩:=hI _ _ _ _ _ _ hr1 hv hf;subst h3;refine⟨x,e2,h2,rfl,h4,fun Q hq=>.block (h5 _ ?_)⟩;cases x with
   |exit i=>exact absurd hr1 (hne _ _ _)
   |_=>exact hq
 |loop b =>
  have hr1:qA (sG ih rd n (.loop b) (ih rd n b env h))=some r:=hr;obtain⟨hr2,hng⟩:=Dx hr1;obtain⟨x,e2,h2,h3,h4,h5⟩:=seqK b (.loop b) hf hf hr2;refine⟨x,e2,h2,h3,h4,fun Q hq=>(W.Pz (Q:=fun y t=>y=x/\t=⟨aK e2,au h2⟩) (fun l s hx=>?_) (h5 _ ⟨rfl,rfl⟩)).mono fun y t ht=>by rw[ht.1,ht.2];exact hq⟩;subst h3;rw[<- hx.1]at hng;exact hng _ _ _ rfl
 |scope b =>
  have hr1:qA (ih rd n b env h)=some r:=hr;obtain⟨hr2,hng⟩:=Dx hr1;obtain⟨x,e2,h2,h3,h4,h5⟩:=hI _ _ _ _ _ _ hr2 hv hf;subst h3;refine⟨x,e2,h2,rfl,h4,fun Q hq=>.scope (h5 _ ?_)⟩;cases x with
  |goto i=>exact absurd rfl (hng _ _ _)
  |_=>exact hq
 |rangeFunc f ps asg body =>
  have hr1:zL E ih rd n env h ps asg body (ak E.G (aK env) f)=some r:=hr;unfold zL at hr1;split at hr1
  ·rename_i g first cap hg
   obtain⟨hp1,hr2,hs1⟩:=mJ _ _ _ _ _ hr1;rw[iJ]at hr2;have hv1:VH ⟨hp1,h.nx+1⟩:=by
    intro j b hj;rw[hs1]at hj;show j<h.nx+1;split at hj
    ·omega
    ·have:=hv _ _ hj;omega
   have hlay:(au h).lay (au h).C (.loop .ready none n (aK env) ps asg body)=some (au ⟨hp1,h.nx+1⟩):=by
    rw[vr (nx:=h.nx+1) hs1];unfold nnl.lay;rw[W8 rfl];rfl
   have rule:∀Q:AX->St->Prop,af E.P E.G g (first++[.nk h.nx]++cap) (au ⟨hp1,h.nx+1⟩) (yK rd Q (aK env) h.nx)->W E.P E.G n rd (.rangeFunc f ps asg body) Q ⟨aK env,au h⟩ :=
    fun Q hq=>W.rangeFunc hg ⟨_,hlay,hq⟩
   unfold C4 at hr2;split at hr2
   ·rename_i v h2 hc;obtain⟨x,h3,hcr,hv3,hK⟩:=mM hI hv1 hc;obtain⟨rfl,rfl⟩:=hcr;obtain⟨hrd,hr3⟩:=gD hr2;split at hr3
    ·cases hr3
    ·rename_i st pend n2 env2 ps2 asg2 body2 hne hg3;obtain⟨hp3,hr4,hs3⟩:=mJ _ _ _ _ _ hr3;have hup:=zY (h:=h3) hs3;have hv4:=hv3.set hs3 (hv3 _ _ hg3);have hend:rY ((au h3).get h.nx)=some (pend,.loop .exhausted pend n2 (aK env2) ps2 asg2 body2):=by
      rw[sI hg3];unfold rY;cases st with
      |busy=>exact(hne rfl).elim
      |_=>rfl
     have fin:∀x:AX,(∀Q:AX->St->Prop,Q x ⟨aK env,au ⟨hp3,h3.nx⟩⟩->Cy Q ⟨aK env,au ⟨hp3,h3.nx⟩⟩ pend)->r=.ev x env ⟨hp3,h3.nx⟩ ->
       ∃x env' h',r=.ev x env' h'/\VH h'/\∀Q:AX->St->Prop,Q x ⟨aK env',au h'⟩->W E.P E.G n rd (.rangeFunc f ps asg body) Q ⟨aK env,au h⟩:=by
      intro x hx he;refine⟨x,env,_,he,hv4,fun Q hq=>rule Q (hK _ ⟨vy hrd,_,hend,?_⟩)⟩;have:=hx Q hq;rw[hup]at this;exact this
     unfold endLoop at hr4;split at hr4
     ·exact fin .normal (fun Q hq=>hq) (Option.some.inj hr4).symm
     ·exact fin .ret (fun Q hq=>hq) (Option.some.inj hr4).symm
     ·rename_i i;exact fin (.exit i) (fun Q hq=>hq) (Option.some.inj hr4).symm
     ·cases hr4
    ·cases hr3
   ·rename_i h2 hc;obtain⟨x,h3,hcr,hv3,hK⟩:=mM hI hv1 hc;obtain⟨rfl,rfl⟩:=hcr;obtain⟨hrd,hr3⟩:=gD hr2;exact⟨.panic,env,h3,(Option.some.inj hr3).symm,hv3,fun Q hq=>rule Q (hK _ ⟨vy hrd,hq⟩)⟩
   ·cases hr2
  ·cases hr1
def PF (hE:EOk E):∀fuel,gT E (C7 E fuel):=by
 intro fuel
 induction fuel with
 |zero=>intro rd n c env h r hr;cases hr
 |succ f ih=>exact PE hE ih
def PG (hE:EOk E){fuel:Nat}{f:FuncId}{args:List nnn}{v:nnn}(h:C8 E fuel f args=some v):af E.P E.G f args cw fun r H'=>∃u,r=.ret u/\nns H' u v :=
 Pr (PF hE fuel) h
end
end Go.Hx
namespace Go.Hx
open Go.ChangeShapes Go.WideShapes Go.RowKit
variable {P:Program} {G:Nat->Option (List nnn)}
variable {sp:Nat->Bool}{H:Type}{enc:TypeId × Value->H}
def iB:aA:=fun _=>none
def xw (P:Program)(G:Nat->Option (List nnn))(W:World):Prop:=∀g cells,G g=some cells->nnc P iB cw W (.ni cells 0) (.pointer (some ⟨g,0,none⟩))/\∃c e f,W.heap[g]?=some (.cells c e f)/\c.size=cells.length
def IX {W:World}(hg:xw P G W):nng P G iB cw W where
 O _ _ _ _ h:=by cases h
 loop _ _ _ _ _ _ _ _ h:=by cases h
 mp _ _ h:=by cases h
 nj _ h:=by cases h
 inj _ _ _ _ _ _ _ h:=by cases h
 nB _ _ h:=by cases h
 lt _ _ _ _ h:=by cases h
 C _ _ h:=by cases h
 nz g cells h:=(hg g cells h).1
 nN g cells h:=(hg g cells h).2
def Bn (b:Nat):¬iB.dD b:=fun ⟨_,_,_,h⟩=>by cases h
def IY {f:FuncId}{args:List nnn}{cargs:Array Value}{W:World}(hA:af P G f args cw fun r H'=>∃u,r=.ret u/\nns H' u (.lit (.bool true)))(hg:xw P G W)(hr:cU P iB cw W args cargs):
  Calls P f cargs W fun e W'=>e=.returned (.bool true)/\RowKit.Below W.heap.size W W'/\∀a,a.block<W.heap.size->W'.frozen? a=W.frozen? a:=by
 refine callsIn_wide.1 ((hA.2 iB W cargs (IX hg) hr).mono ?_);rintro e W' ⟨r,H',Γ',hend,⟨u,rfl,hf⟩,_,E,_⟩;cases e with
 |returned cv =>
  have hu:u=.lit (.bool true):=by cases hf;rfl
  subst hu;cases hend;exact⟨rfl,⟨E.os,E.tape,E.output,E.size,fun k hk=>(E.nf k hk (Bn k)).1⟩,E.nq⟩
 |panicked=>exact hend.elim
 |outgrown=>exact hend.elim
def IZ {W W':World}(hb:RowKit.Below W.heap.size W W')(may:MemPlace->Prop):W.keptBut W' may:=by
 refine⟨hb.os,hb.output,fun i hi=>?_⟩;rw[hb.block i hi];cases h:W.heap[i]? with
 |none=>rfl
 |some o=>cases o<;>first|exact rfl|exact⟨rfl,rfl,rfl,fun _ _=>rfl⟩|exact .inr ⟨rfl,rfl⟩
def I0 (hl:laidOutB P=true){W W':World}(hb:RowKit.Below W.heap.size W W'):∀ {ts:List TypeId} {vs:List Value} {ds:List (DataW H)} {ps:List MemPlace},
  ts.all (fun t=>P.readableRec t && decide (t<P.types.size))=true->DataW.TrodAll enc P W 0 (fun _=>true) true ts vs ds ps->(∀x∈ps,x.block<W.heap.size)->(∀x∈ps,sp x.block=true)->DataW.TrodAll enc P W' 0 sp true ts vs ds ps:=by
 intro ts
 induction ts with
 |nil =>
  intro vs ds ps _ h _ _;cases vs<;>cases ds<;>first|exact h|exact h.elim
 |cons t ts ih =>
  intro vs ds ps hok h hlt hsp;simp only[List.all_cons,Xv,decide_eq_true_eq]at hok;cases vs with
  |nil=>cases ds<;>exact h.elim
  |cons v vs=>cases ds with
   |nil=>exact h.elim
   |cons d ds =>
    obtain⟨p,q,h1,h2,rfl⟩:=h;refine⟨p,q,?_,ih hok.2 h2 (fun x hx=>hlt x (by simp[hx])) (fun x hx=>hsp x (by simp[hx])),rfl⟩;exact WideElems.Trod_stays hl hok.1.1 hok.1.2 h1 (fun x hx=>hb.same (hlt x (by simp[hx]))) (fun x hx=>hsp x (by simp[hx]))
def I1 {W:World}{base:Nat}{held:Bool}:∀ {ts:List TypeId} {vs:List Value} {ds:List (DataW H)} {ps:List MemPlace},
  DataW.TrodAll enc P W base sp held ts vs ds ps->vs.length=ts.length/\ds.length=ts.length:=by
 intro ts
 induction ts with
 |nil =>
  intro vs ds ps h;cases vs<;>cases ds<;>first|exact⟨rfl,rfl⟩|exact h.elim
 |cons t ts ih =>
  intro vs ds ps h;cases vs with
  |nil=>cases ds<;>exact h.elim
  |cons v vs=>cases ds with
   |nil=>exact h.elim
   |cons d ds =>
    obtain⟨p,q,_,h2,_⟩:=h;obtain⟨h3,h4⟩:=ih h2;exact⟨by simp[h3],by simp[h4]⟩
def I2 {f:Func}{s:ChangeSpec}{apart fresh handsOn again:Bool}{W W':World}{args:Array Value}{ds gs:List (DataW H)}{before:List MemPlace}{t:TypeId}
  (hl:laidOutB P=true) (hok:f.params.toList.all (fun t=>P.readableRec t && decide (t<P.types.size))=true) (hvars:s.vars=[]) (hrt:f.resultTypes=#[t]) (ht:P.underlying t=some .bool)
  (hs:∀ds:List (DataW H),ds.length=f.params.toList.length->s.fn H (ds++[])={ results:=[.lit (.bool true)],args:=ds })
  (hW:DataW.Whole enc P f.params.toList s.vars apart W args.toList ds gs before) (hb:RowKit.Below W.heap.size W W') (hfz:∀a,a.block<W.heap.size->W'.frozen? a=W.frozen? a):s.post enc P f apart fresh handsOn again W args (.bool true) W':=by
 have hW':=hW;obtain⟨p,q,hA,hV,rfl,hz,hn⟩:=hW;have hgs:gs=[]/\q=[]:=by
  rw[hvars]at hV;cases gs with
  |nil=>exact⟨rfl,hV⟩
  |cons=>exact hV.elim
 obtain⟨rfl,rfl⟩:=hgs;have hfn:=hs ds (I1 hA).2;have hlt:∀x∈p,x.block<W.heap.size:=fun x hx=>by simpa using hW'.lt x (by simp[hx])
 have hres:∀(b:Nat) (sp:Nat->Bool) (hd:Bool),DataW.TrodAll enc P W' b sp hd f.resultTypes.toList ((Value.bool true).resultList f.resultTypes.size) (s.fn H (ds++[])).results []:=fun b sp hd=>by
  rw[hfn,hrt];exact trodAll_mk1 (shut_bool ht true)
 have hargs:∀sp:Nat->Bool,(∀x∈p,sp x.block=true)->DataW.TrodAll enc P W' 0 sp true f.params.toList args.toList (s.fn H (ds++[])).args p:=fun sp hsp=>by
  rw[hfn];exact I0 hl hb hok hA hlt hsp
 have hva:∀sp:Nat->Bool,DataW.TrodVars enc P W' sp s.vars (s.fn H (ds++[])).vars []:=fun sp=>by
  rw[hfn,hvars];exact rfl
 have hpp:p++[]=p:=List.append_nil p;have hold:∀x∈p,(fun b=>decide (b<W.heap.size)) x.block=true:=fun x hx=>by simpa using hlt x hx
 rw[hpp]at hW' hz hn;refine⟨ds,[],p,[],p,[],hW',hres _ _ _,hargs _ hold,hva _,World.keptBut_mono (fun x hx=>⟨hx,.inr (.inl hx)⟩) (IZ hb _),fun _=>⟨ok_one hrt rfl (okWide_bool_mk ht true),(s.fn H (ds++[])).results++(s.fn H (ds++[])).args,(s.fn H (ds++[])).vars,p,?_,fun x hx _=>hx⟩⟩;have hall:=trodAll_append (hargs (fun _=>true) fun _ _=>rfl) (hres 0 (fun _=>true) true);refine⟨p,[],by simpa using hall,hva _,aaw,fun b off hx=>?_,fun ha=>by simpa using hn ha⟩;rw[hfz _ (hlt _ hx)];exact hz b off hx
end Go.Hx
namespace Go.Hx
variable {P:Program} {G:Nat->Option (List nnn)}
variable {E:EP}{f:FuncId}
abbrev fS:=List (List nnn × nnn)
def ir (P:Program)(G:Nat->Option (List nnn))(f:FuncId)(l:fS):Prop:=∀p,p∈l->af P G f p.1 cw fun r H'=>∃u,r=.ret u/\nns H' u p.2
def ir.nil :ir P G f []:=fun _ h=>by cases h
def ir.cons {p:List nnn × nnn}{l:fS}(h:af P G f p.1 cw fun r H'=>∃u,r=.ret u/\nns H' u p.2)(hl:ir P G f l):ir P G f (p :: l):=fun q hq=>by
 rcases List.mem_cons.1 hq with rfl|hq
 ·exact h
 ·exact hl q hq
noncomputable def jS (l:List (FuncId × fS))(f:FuncId):Option fS :=
 List.rec (motive:=fun _=>Option fS) none (fun p _ ih=>Bool.rec (motive:=fun _=>Option fS) ih (some p.2) (Nat.beq p.1 f)) l
def z6 (P:Program)(G:Nat->Option (List nnn)):List (FuncId × fS)->Prop
 | []=>True
 |p :: l=>ir P G p.1 p.2/\z6 P G l
def PH:∀ {l:List (FuncId × fS)},z6 P G l->∀f t,jS l f=some t->ir P G f t:=by
 intro l
 induction l with
 |nil=>intro _ f t h;cases h
 |cons p l ih =>
  intro ha f t h;have h':Bool.rec (motive:=fun _=>Option fS) (jS l f) (some p.2) (Nat.beq p.1 f)=some t:=h;cases hb:Nat.beq p.1 f with
  |true =>
   rw[hb]at h';have:=Xr hb;have h2:p.2=t:=Option.some.inj h';rw[<- this,<- h2];exact ha.1
  |false =>
   rw[hb]at h';exact ih ha.2 f t h'
def EOk.mO {l:List (FuncId × fS)}(hk:E.known=jS l)(gok:dS E.G)(mixed:E.P.follows .mixedOrders=true)
  (gd:∀f z,E.gd f=some z->qE E.P E.G f z) (ha:z6 E.P E.G l) (hx:vw E:=by exact vw.none rfl):EOk E :=
 ⟨gok,mixed,fun f t h a v hm=>PH ha f t (by rw[<- hk];exact h) (a,v) hm,gd,hx⟩
noncomputable def bj (E:EP)(fuel:Nat)(f:FuncId)(args:List nnn)(v:nnn):Bool:=match C8 E fuel f args with
 |some u=>qo 40 u v
 |none=>false
def bt {fuel:Nat}{args:List nnn}{v:nnn}(hE:EOk E)(h:bj E fuel f args v=true):af E.P E.G f args cw fun r H'=>∃u,r=.ret u/\nns H' u v:=by
 unfold bj at h;split at h
 ·rename_i u hu;rw[<- Dn 40 _ _ h];exact PG hE hu
 ·cases h
def mQ:Nat->Option (List nnn):=fun _=>none
def vA:dS mQ:=fun _ _ h=>by cases h
def PI (W:World):xw P mQ W:=fun _ _ h=>by cases h
end Go.Hx
namespace Go.Hx
variable {P:Program} {G:Nat->Option (List nnn)} {Γ Γ':aA} {H H':nnl} {w w':World}
def put_defers (a:Act)(d:Option Tmp)(v:Value):(a.put d v).defers=a.defers:=by cases d<;>rfl
section
variable {n:Nat} {wb:nnA} {rd rb:Option Nat} {Q:AX->St->Prop}
def Jn {id:Nat}{dr:Bool}{all:Array Oper}{ds:List Deferred}(hfit:∀o,o∈all.toList->dM n o=true):∀(is:List Nat) (s:St) (Γ:aA) (a:Act) (w:World),(∀i,i∈is->i<all.size) ->
  opsV P G rd Q all (is.filterMap fun i=>all[i]?) s->nnr P G n wb Γ s a w->dp Γ s.H rd rb->a.defers=ds ->
  ∀(Q':Exit->Act->World->Prop),(∀e a' w',fN P G n wb rd rb (wr (.region id all dr)) Γ s.H a w Q e a' w'->a'.defers=ds->Q' e a' w')->wpOpsIn (da rb) 0 P all Q' is a w:=by
 intro is
 induction is with
 |nil =>
  intro s Γ a w _ h hs hr hd Q' hq;exact hq _ _ _ (.here (x:=.normal) trivial h hs hr) hd
 |cons i is ih =>
  intro s Γ a w hi h hs hr had Q' hq;have hlt:=hi i aaw;have ho:all[i]?=some all[i]:=Xk hlt;simp only[ZP,ho]at h;unfold wpOpsIn;rw[ho];simp only;obtain⟨t,ht,h⟩:=h;rw[nW hs ht];have hd:=hfit all[i] aaw;cases t with
  |true =>
   simp only[if_true]at h ⊢;refine ye hd hs hr h ?_ ?_
   ·rintro Γ' s' a' w' hk hs' E hn hr' ⟨cv,rfl⟩;exact ih s' Γ' _ w' (fun j hj=>hi j (by simp[hj])) hk hs' hr' (by rw[put_defers];exact had) Q' fun e a'' w'' hp hdd=>hq _ _ _ (hp.step E hn (mw hlt cv) fun _ h=>h) hdd
   ·rintro Γ' s' a' w' chain hp hc hs' E hn hr' rfl;exact hq _ _ _ ⟨.panic,s',Γ',hc,hp,hs',E,hn,hr',.refl _ _⟩ had
  |false =>
   simp only[Bool.false_eq_true,if_false]at h ⊢;refine⟨fun _ _=>trivial,?_⟩;have hdst:∀d,all[i].dst=some d->d<n:=by
    intro d hd';unfold dM at hd;rw[hd']at hd;simpa using hd
   have hs':=gM (v:=.lit undef) (cv:=undef) hs hdst (Evo.refl Γ s.H w) aaz hs.heap (.lit _);exact ih ⟨aF s.ρ all[i].dst (.lit undef),s.H⟩ Γ _ w (fun j hj=>hi j (by simp[hj])) h hs' hr (by rw[put_defers];exact had) Q' fun e a'' w'' hp hdd=>hq _ _ _ (hp.step (Evo.refl _ _ _) aaz (mw hlt _) fun _ h=>h) hdd
def xV {id:Nat}{ops:Array Oper}{s s':St}{a:Act}(hfit:ops.toList.all (dM n)=true)(h:opsV P G rd (fun x t=>x=.normal/\t=s') ops ops.toList s)(hs:nnr P G n wb Γ s a w)(hr:dp Γ s.H rd rb):
  (Code.region id ops false).wpIn (da rb) 0 P (fun e a' w'=>e=.normal/\a'.defers=a.defers/\∃ Γ',nnr P G n wb Γ' s' a' w'/\Evo Γ s.H w Γ' s'.H w'/\s.H.C<=s'.H.C/\dp Γ' s'.H rd rb) a w:=by
 refine wpIn_region (Jn (id:=id) (dr:=false) (Q:=fun x t=>x=.normal/\t=s') (fun o ho=>XK.1 hfit o ho) _ s Γ a w (fun i hi=>XJ.1 hi) ?_ hs hr rfl _ ?_)
 ·have:(List.range ops.size).filterMap (fun i=>ops[i]?)=ops.toList:=by
   have:=B0 ops.toList;simpa using this
  rw[this];exact h
 ·rintro e a' w' ⟨x,s2,Γ',hx,⟨rfl,rfl⟩,hs',E,hn,hr',_⟩ hd;cases e with
  |normal=>exact⟨rfl,hd,Γ',hs',E,hn,hr'⟩
  |_=>exact hx.elim
end
def Jo {fn:Func}{tmps:Array Value}{R:Ending->World->Prop}{u:FrameMode}{ρ:Env}{Γ₀:aA}{H₀:nnl}{w₀:World}{lo:Nat}{tail:List Deferred}(hu:u≠.run)(hlo:w₀.heap.size<=lo):∀(ds:List Deferred) (w:World),
  Marks lo Γ w ds->nng P G Γ H w->(∀t,nnc P Γ H w (ρ t) (tmps.getD t undef))->Evo Γ₀ H₀ w₀ Γ H w->∀(X:World->Prop),X w->(∀(w:World) (r:Nat),X w->pD Γ w r->X (bx w r (.deferred none))) ->
  (∀w',nng P G Γ H w'->(∀t,nnc P Γ H w' (ρ t) (tmps.getD t undef))->Evo Γ₀ H₀ w₀ Γ H w'->X w'->LeavesInM Fence.wide 0 P fn tmps R tail u w') ->
  LeavesInM Fence.wide 0 P fn tmps R (ds++tail) u w:=by
 intro ds
 induction ds with
 |nil=>intro w _ R0 he E X hX _ h;exact h w R0 he E hX
 |cons d ds ih =>
  intro w hm R0 he E X hX hXs h;obtain⟨r,rfl,hle,hown,hblk⟩:=hm.1 d aaw;have ho:∀c e f,Obj.deferred none≠.cells c e f:=fun _ _ _ h=>by cases h
  refine⟨hu,.inl ⟨r,bx w r (.deferred none),rfl,?_,?_⟩⟩
  ·unfold Instr.takeDeferred;have hg:(getObj r).run P w=.ok (.deferred (some [])) w:=(by simp[getObj,Sem.run,hblk]);rw[ao hg];simp only;have hset:(setObj r (.deferred none)).run P w=.ok () (bx w r (.deferred none)):=(by simp[setObj,Sem.run,hblk,bx]);rw[ao hset];rfl
  ·refine ih _ ⟨fun e he'=>?_,(Y5.1 hm.2).2⟩ (R0.closed hblk hown ho) (fun t=>(he t).closed hblk ho) (E.closed hblk (XN hlo hle) _ ho) X (hXs w r hX ⟨hown,hblk⟩) hXs h;obtain⟨r',rfl,hle',hown',hblk'⟩:=hm.1 e (by simp[he']);refine⟨r',rfl,hle',hown',?_⟩;rw[dL,W7]
   ·exact hblk'
   ·rintro⟨rfl,_⟩;exact(Y5.1 hm.2).1 _ he' rfl
def xW (P:Program)(G:Nat->Option (List nnn))(rs:List ResultVar)(m:Nat)(ca cb:nnn)(r3 r4:Tmp)(o1 o2:Array Oper)(H₀:nnl)(K:nnf->nnl->Prop):AX->St->Prop
 |.normal,s|.ret,s=>bd (dR P s.H s.ρ rs) fun vs=>ar P G H₀ K (fO vs) s.H
 |.panic,s=>∀t v,∃s1 s2,opsV P G none (fun x t=>x=.normal/\t=s1) o1 o1.toList ⟨aF (aF (cR [ca,cb]) (some r3) (.lit (.iface t v))) (some r4) (.lit (.bool true)),s.H⟩ /\
   opsV P G none (fun x t=>x=.normal/\t=s2) o2 o2.toList s1/\bd (dR P s2.H s.ρ rs) fun vs=>ar P G H₀ K (fO vs) s2.H
 |_,_=>False
def Jp {ρ:Operand->Value}{o:Oper}{ats:Array TypeId}(h:o.op=.call ⟨.builtin .recover,#[],ats⟩):(execOp ρ o).run P w=.ok .recover w:=by
 unfold execOp;rw[h];rfl
def Bz {args:List nnn}{cargs:Array Value}{k:Nat}(hr:cU P Γ H w args cargs)(t:Nat):nnc P Γ H w (cR args t) ((cargs++Array.replicate k undef).getD t undef):=by
 have hsz:=hr.1;by_cases ht:t<args.length
 ·have h1:(cargs++Array.replicate k undef).getD t undef=cargs[t]' U:=by
   simp only[XM];rw[Zy U,Xk U];rfl
  have h2:cR args t=args[t]:=by
   unfold cR;rw[W5 ht];rfl
  rw[h1,h2];exact hr.2 t ht (U)
 ·have h1:(cargs++Array.replicate k undef).getD t undef=undef:=by
   simp only[XM];rw[aad U,Y0];split<;>rfl
  have h2:cR args t=.lit undef:=by
   unfold cR;rw[Xf U];rfl
  rw[h1,h2];exact .lit _
def af.guard {f g:FuncId}{fn gn:Func}{i0 i1 j0 j1 j2:Nat}{o0 o1 o2:Array Oper}{dF p q r3 r4:Tmp}{c2:Code}{T T':TypeId}{ty1 ty2 ty3 ty4:TypeId}{ps1 ps2 ps3 ps4:String}{af1 af2 af3 af4:Array Edge}{ats at3:Array TypeId}
  {args:List nnn} {K:nnf->nnl->Prop} {rs:List ResultVar} {n m:Nat} {s1:St}
  (hf:P.funcs[f]?=some fn) (hb:fn.body=some (.seq (.region i0 o0 false) (.seq (.region i1 #[⟨some dF,.makeFunc (.func g) #[] #[.tmp p,.tmp q],ty1,ps1,af1,none⟩,⟨none,.defer ⟨.value (.tmp dF),#[],ats⟩,ty2,ps2,af2,none⟩] false) c2)))
    (hres : fn.results.toList = rs) (hnt : fn.ntmps = n) (hname : (fn.name == "runtime.NumGoroutine") = false) (hargs : args.length ≤ n) (hdF : dF < n)
  (hg : P.funcs[g]?=some gn) (hgb : gn.body=some (.seq (.region j0 #[⟨some r3,.call ⟨.builtin .recover,#[],at3⟩,ty3,ps3,af3,none⟩,⟨some r4,.binOp .neq T (.tmp r3) (.const .nilIface) T',ty4,ps4,af4,none⟩] false)
      (.cond (.tmp r4) (.seq (.region j1 o1 false) (.region j2 o2 false)) .skip))) (hgres : gn.results.toList = []) (hgnt : gn.ntmps = m) (hm : 2 ≤ m) (hgname : (gn.name == "runtime.NumGoroutine") = false) (hr3 : r3 < m) (hr4 : r4 < m) (h34 : r3 ≠ r4) (h42 : 2 ≤ r4) (h32 : 2 ≤ r3)
  (hneq0:∀w,(do eqGuard .neq T (.tmp r3) (.const .nilIface) .nilIface .nilIface;binOp .neq T .nilIface .nilIface:Sem Value).run P w=.ok (.bool false) w)
  (hneq1:∀t v w,(do eqGuard .neq T (.tmp r3) (.const .nilIface) (.iface t v) .nilIface;binOp .neq T (.iface t v) .nilIface:Sem Value).run P w=.ok (.bool true) w)
  (hf0:o0.toList.all (dM n)=true) (hf1:o1.toList.all (dM m)=true) (hf2:o2.toList.all (dM m)=true)
  (h0:opsV P G none (fun x t=>x=.normal/\t=s1) o0 o0.toList ⟨cR args,H⟩)
  (h2:W P G n none c2 (xW P G rs m (s1.ρ p) (s1.ρ q) r3 r4 o1 o2 H K) ⟨aF s1.ρ (some dF) (.nb g [] [s1.ρ p,s1.ρ q]),s1.H⟩):af P G f args H K:=by
 subst hres;subst hnt;subst hgnt;refine⟨⟨fn,hf,by rw[hb];rfl,hname⟩,fun Γ w cargs R hr=>?_⟩;refine callsIn_of_wp_marks hf hb trivial ?_;have hs:nnr P G fn.ntmps ⟨w.heap.size,[]⟩ Γ ⟨cR args,H⟩ { tmps:=cargs++Array.replicate (fn.ntmps-cargs.size) undef,defers:=[] } w :=
  ⟨by have:=hr.1;simp;omega,fun t=>Bz hr t,R,⟨[],rfl,Marks.nil⟩,aaz⟩
 refine wpIn_seq (wpIn_mono (xV (rb:=none) hf0 h0 hs rfl) ?_);rintro e a₁ w₁ ⟨rfl,hd1,Γ₁,hs₁,E₁,hn₁,hr₁⟩;have hd1':a₁.defers=[]:=hd1
  -- the closure is made,and deferred
 let d:Deferred:={ target:=.fn (.func g) #[a₁.eval (.tmp p),a₁.eval (.tmp q)],args:=#[] }
 let a₂:Act:={ a₁.put (some dF) (.func (.func g) #[] #[a₁.eval (.tmp p),a₁.eval (.tmp q)]) with defers:=[d] }
 have hp:=hs₁.env p;have hq:=hs₁.env q;have hclo:nnc P Γ₁ s1.H w₁ (.nb g [] [s1.ρ p,s1.ρ q]) (.func (.func g) #[] #[a₁.eval (.tmp p),a₁.eval (.tmp q)]) :=
  nnc.nb (fs:=[]) (cs:=[a₁.eval (.tmp p),a₁.eval (.tmp q)]) rfl rfl (fun i h _=>absurd h (Xo _)) fun i h h'=>by
   match i with
   |0=>exact hp
   |1=>exact hq
 have hs₂':=gM (dst:=some dF) hs₁ (fun x hx=>by cases hx;exact hdF) (Evo.refl Γ₁ s1.H w₁) aaz hs₁.heap hclo;have hs₂:nnr P G fn.ntmps ⟨w₁.heap.size,[d]⟩ Γ₁ ⟨aF s1.ρ (some dF) (.nb g [] [s1.ρ p,s1.ρ q]),s1.H⟩ a₂ w₁ :=
  ⟨hs₂'.size,hs₂'.env,hs₂'.heap,⟨[],rfl,Marks.nil⟩,aaz⟩
 refine wpIn_seq (wpIn_region ?_);have hdefer:(execOp a₂.eval ⟨none,.defer ⟨.value (.tmp dF),#[],ats⟩,ty2,ps2,af2,none⟩).run P w₁=.ok (.defer d) w₁:=by
  have hev:a₂.eval (.tmp dF)=.func (.func g) #[] #[a₁.eval (.tmp p),a₁.eval (.tmp q)]:=by
   show ((a₁.tmps.setIfInBounds dF _)).getD dF undef=_;have:=hs₁.size;simp[this,hdF]
  unfold execOp;simp only[resolve,hev];rw[ao (show (Deferred.ofValue (.func (.func g) #[] #[a₁.eval (.tmp p),a₁.eval (.tmp q)]) (Array.map a₂.eval #[])).run P w₁=.ok { target:=.fn (.func g) #[a₁.eval (.tmp p),a₁.eval (.tmp q)],args:=#[]++Array.map a₂.eval #[] } w₁ from rfl)];have e:(#[]++Array.map a₂.eval #[]:Array Value)=#[]:=aaw
  rw[e];rfl
 have hmk:(execOp a₁.eval ⟨some dF,.makeFunc (.func g) #[] #[.tmp p,.tmp q],ty1,ps1,af1,none⟩).run P w₁=.ok (.value (.func (.func g) #[] #[a₁.eval (.tmp p),a₁.eval (.tmp q)])) w₁:=by
  unfold execOp;simp only[List.map_toArray,List.map_cons,List.map_nil];rfl
 have ha2:{ (a₁.put (some dF) (.func (.func g) #[] #[a₁.eval (.tmp p),a₁.eval (.tmp q)])) with defers:=d :: (a₁.put (some dF) (.func (.func g) #[] #[a₁.eval (.tmp p),a₁.eval (.tmp q)])).defers }=a₂:=by
  show _=a₂;rw[put_defers,hd1']
 show wpOpsIn (da none) 0 P _ _ [0,1] a₁ w₁;unfold wpOpsIn;simp only[List.getElem?_toArray,List.getElem?_cons_zero,Region.wanted,if_true];refine⟨fun _ _=>trivial,?_⟩;rw[Oper.semAt_eq _ _ _ (fun c hc=>by cases hc),hmk,Oper.uponIn_value];unfold wpOpsIn;simp only[List.getElem?_toArray,List.getElem?_cons_succ,List.getElem?_cons_zero,Region.wanted,if_true];refine⟨fun _ _=>trivial,?_⟩;have hdefer':(execOp (a₁.put (some dF) (.func (.func g) #[] #[a₁.eval (.tmp p),a₁.eval (.tmp q)])).eval ⟨none,.defer ⟨.value (.tmp dF),#[],ats⟩,ty2,ps2,af2,none⟩).run P w₁=.ok (.defer d) w₁:=hdefer;rw[show (da none).round=none from rfl,Oper.semAt_none,hdefer',Oper.uponIn_defer,ha2];unfold wpOpsIn;show c2.wpIn (da none) 0 P _ a₂ w₁;refine wpIn_mono (h2 ⟨w₁.heap.size,[d]⟩ Γ₁ a₂ w₁ none hs₂ rfl) ?_;rintro e a₃ w₃ ⟨x,s₃,Γ₃,hx,hq₃,hs₃,E₃,hn₃,_,_⟩;have E03:Evo Γ H w Γ₃ s₃.H w₃:=E₁.trans hn₁ E₃;have hn03:H.C<=s₃.H.C:=XN hn₁ hn₃;have hca:nnc P Γ₃ s₃.H w₃ (s1.ρ p) (a₁.eval (.tmp p)):=nnc.aU hp E₃ hn₃;have hcb:nnc P Γ₃ s₃.H w₃ (s1.ρ q) (a₁.eval (.tmp q)):=nnc.aU hq E₃ hn₃;obtain⟨mk,hmks,hmkk⟩:=hs₃.defers;have hmks':a₃.defers=mk++[d]:=hmks;have hinv:∀w,(invoke d.target d.args).run P w=.ok (.enter g #[a₁.eval (.tmp p),a₁.eval (.tmp q)]) w:=fun w=>by
  show (callFunc g (#[]++#[a₁.eval (.tmp p),a₁.eval (.tmp q)])).run P w=_;unfold callFunc;rw[ao (run_program P w)];simp only[hg];rw[hgname,hgb];simp
  -- on the way out: marks,then the deferred call
 have leave:∀(u:FrameMode),u≠.run->(∀w'',nng P G Γ₃ s₃.H w''->(∀t,nnc P Γ₃ s₃.H w'' (s₃.ρ t) (a₃.tmps.getD t undef))->Evo Γ H w Γ₃ s₃.H w''->nnc P Γ₃ s₃.H w'' (s1.ρ p) (a₁.eval (.tmp p))->nnc P Γ₃ s₃.H w'' (s1.ρ q) (a₁.eval (.tmp q)) ->
   CallsDIn Fence.wide 0 P g #[a₁.eval (.tmp p),a₁.eval (.tmp q)] u w'' fun
    |.returned _,u',w'=>LeavesInM Fence.wide 0 P fn a₃.tmps (eG P G Γ H w K) [] (settle u') w'
    |.panicked chain,u',w'=>LeavesInM Fence.wide 0 P fn a₃.tmps (eG P G Γ H w K) [] (raised u' chain) w'
    |.outgrown,_,w'=>eG P G Γ H w K .outgrown w')->LeavesInM Fence.wide 0 P fn a₃.tmps (eG P G Γ H w K) a₃.defers u w₃:=by
  intro u hu hcall;rw[hmks'];refine Jo hu E₁.size mk w₃ hmkk hs₃.heap hs₃.env E03 (fun w=>nnc P Γ₃ s₃.H w (s1.ρ p) (a₁.eval (.tmp p))/\nnc P Γ₃ s₃.H w (s1.ρ q) (a₁.eval (.tmp q))) ⟨hca,hcb⟩ (fun w r hX hr=>?_) fun w'' R'' he'' E'' hX=>?_
  ·have ho:∀c e f,Obj.deferred none≠.cells c e f:=fun _ _ _ h=>by cases h
   exact⟨hX.1.closed hr.2 ho,hX.2.closed hr.2 ho⟩
  ·exact⟨hu,.inr ⟨fun h=>by simp[Fence.wide]at h,.func g,_,g,_,rfl,hinv w'',fun _ _=>trivial,hcall w'' R'' he'' E'' hX.1 hX.2⟩⟩
  -- the deferred call's first region
 have first:∀(c₀:Frame) (cs cs':List Frame) (v:Value) (b:Bool) (w'':World) (Q:Exit->Act->List Frame->World->Prop),
   (recoverD (c₀ :: cs)=some (v,cs')\/(recoverD (c₀ :: cs)=none/\v=.nilIface/\cs'=c₀ :: cs)) ->
   (do eqGuard .neq T (.tmp r3) (.const .nilIface) v .nilIface;binOp .neq T v .nilIface:Sem Value).run P w''=.ok (.bool b) w'' ->
   (Code.cond (.tmp r4) (.seq (.region j1 o1 false) (.region j2 o2 false)) .skip).wpSIn Fence.wide 0 P Q ((({ tmps:=#[a₁.eval (.tmp p),a₁.eval (.tmp q)]++Array.replicate (gn.ntmps-2) undef,defers:=[] }:Act).put (some r3) v).put (some r4) (.bool b)) cs' w'' ->
   (Code.seq (.region j0 #[⟨some r3,.call ⟨.builtin .recover,#[],at3⟩,ty3,ps3,af3,none⟩,⟨some r4,.binOp .neq T (.tmp r3) (.const .nilIface) T',ty4,ps4,af4,none⟩] false)
    (.cond (.tmp r4) (.seq (.region j1 o1 false) (.region j2 o2 false)) .skip)).wpSIn Fence.wide 0 P Q { tmps:=#[a₁.eval (.tmp p),a₁.eval (.tmp q)]++Array.replicate (gn.ntmps-2) undef,defers:=[] } (c₀ :: cs) w'':=by
  intro c₀ cs cs' v b w'' Q hrec hneq hcond;refine wpSIn_seq (wpSIn_region ?_);show wpOpsSIn Fence.wide 0 P _ _ [0,1] _ _ _;have hneq':∀a:Act,a.eval (.tmp r3)=v->(execOp a.eval ⟨some r4,.binOp .neq T (.tmp r3) (.const .nilIface) T',ty4,ps4,af4,none⟩).run P w''=.ok (.value (.bool b)) w'':=fun a ha=>by
   unfold execOp;simp only[ha];have h1:a.eval (.const .nilIface)=.nilIface:=rfl;rw[h1,ao hneq];rfl
  have hev:∀a:Act,a.tmps.size=gn.ntmps->(a.put (some r3) v).eval (.tmp r3)=v:=fun a ha=>by
   show (a.tmps.setIfInBounds r3 v).getD r3 undef=v;simp[ha,hr3]
  have hsz:({ tmps:=#[a₁.eval (.tmp p),a₁.eval (.tmp q)]++Array.replicate (gn.ntmps-2) undef,defers:=[] }:Act).tmps.size=gn.ntmps:=by
   simp;omega
  unfold wpOpsSIn;simp only[List.getElem?_toArray,List.getElem?_cons_zero,Region.wanted,if_true];refine⟨fun _ _=>trivial,?_⟩;rw[Jp rfl];simp only;rcases hrec with hrec|⟨hrec,rfl,rfl⟩
  ·rw[hrec];simp only;unfold wpOpsSIn;simp only[List.getElem?_toArray,List.getElem?_cons_succ,List.getElem?_cons_zero,Region.wanted,if_true];refine⟨fun _ _=>trivial,?_⟩;rw[hneq' _ (hev _ hsz)];exact hcond
  ·rw[hrec];simp only;unfold wpOpsSIn;simp only[List.getElem?_toArray,List.getElem?_cons_succ,List.getElem?_cons_zero,Region.wanted,if_true];refine⟨fun _ _=>trivial,?_⟩;rw[hneq' _ (hev _ hsz)];exact hcond
 have hresg:∀(tmps:Array Value) (w:World),(results gn tmps).run P w=.ok (.tuple #[]) w:=fun tmps w=>by
  have h1:gn.results=#[]:=by
   have:=hgres;cases h:gn.results with
   |mk l=>rw[h]at this;simp at this;rw[this]
  unfold results;rw[h1];simp only[ZD,List.mapM_nil];rfl
  -- it ends in no panic: nothing is recovered
 have calm:bd (dR P s₃.H s₃.ρ fn.results.toList) (fun vs=>ar P G H K (fO vs) s₃.H)->LeavesInM Fence.wide 0 P fn a₃.tmps (eG P G Γ H w K) a₃.defers .returning w₃:=by
  rintro⟨vs,hvs,v',H',hw,hn',hk⟩;refine leave .returning aaw fun w'' R'' he'' E'' _ _=>?_;refine callsDIn_of_wpSIn hg hgb trivial fun c₀ cs hc₀=>?_;have hsame:({ c₀ with mode:=FrameMode.returning }:Frame)=c₀:=by rw[<- hc₀]
  refine first c₀ cs (c₀ :: cs) .nilIface false w'' _ (.inr ⟨by simp[recoverD,hc₀],rfl,rfl⟩) (hneq0 w'') (wpSIn_cond (t:=false) ?_ ?_)
  ·show (((_:Array Value).setIfInBounds r3 Value.nilIface).setIfInBounds r4 (.bool false)).getD r4 undef=.bool false;have h2:2+(gn.ntmps-2)=gn.ntmps:=U;simp[h2,hr4]
  ·refine wpSIn_of_wpIn rfl (wpIn_skip ?_);refine⟨rfl,.returning,by rw[hsame],.tuple #[],hresg _ _,?_⟩;show LeavesInM Fence.wide 0 P fn a₃.tmps (eG P G Γ H w K) [] (settle .returning) w'';obtain⟨cv,h1,h2⟩:=yj R'' he'' hvs;obtain⟨Γ'',R3,E3,hv3⟩:=hw Γ₃ w'' R'';exact⟨cv,h1,.ret v',H',Γ'',hv3 cv h2,hk,R3,E''.trans hn03 E3,hn'⟩
 cases e with
 |normal=>cases x with
  |normal=>exact calm hq₃
  |_=>exact hx.elim
 |ret=>cases x with
  |ret=>exact calm hq₃
  |_=>exact hx.elim
 |panic chain=>cases x with
  |panic =>
   obtain⟨it,iv,rfl⟩:=hx;obtain⟨t1,t2,hop1,hop2,vs,hvs,v',H',hw,hn',hk⟩:=hq₃ it iv;refine leave _ aaw fun w'' R'' he'' E'' ha'' hb''=>?_;refine callsDIn_of_wpSIn hg hgb trivial fun c₀ cs hc₀=>?_;refine first c₀ cs ({ c₀ with mode:=.panicking [{ v:=.iface it iv,recovered:=true }] } :: cs) (.iface it iv) true w'' _ (.inl (by simp[recoverD,hc₀])) (hneq1 it iv w'') (wpSIn_cond (t:=true) ?_ ?_)
   ·show (((_:Array Value).setIfInBounds r3 (Value.iface it iv)).setIfInBounds r4 (.bool true)).getD r4 undef=.bool true;have h2:2+(gn.ntmps-2)=gn.ntmps:=U;simp[h2,hr4]
   ·simp only[if_true];refine wpSIn_of_wpIn rfl ?_;have hL:cU P Γ₃ s₃.H w'' [s1.ρ p,s1.ρ q] #[a₁.eval (.tmp p),a₁.eval (.tmp q)]:=⟨rfl,fun i h h'=>by
     match i with
     |0=>exact ha''
     |1=>exact hb''⟩
    have hsA:nnr P G gn.ntmps ⟨w''.heap.size,[]⟩ Γ₃ ⟨cR [s1.ρ p,s1.ρ q],s₃.H⟩ { tmps:=#[a₁.eval (.tmp p),a₁.eval (.tmp q)]++Array.replicate (gn.ntmps-2) undef,defers:=[] } w'' :=
     ⟨by simp;omega,fun t=>Bz hL t,R'',⟨[],rfl,Marks.nil⟩,aaz⟩
    have hsB:=gM (dst:=some r3) hsA (fun x hx=>by cases hx;exact hr3) (Evo.refl Γ₃ s₃.H w'') aaz R'' (nnc.lit (.iface it iv));have hsC:=gM (dst:=some r4) hsB (fun x hx=>by cases hx;exact hr4) (Evo.refl Γ₃ s₃.H w'') aaz R'' (nnc.lit (.bool true));refine wpIn_seq (wpIn_mono (xV (rb:=none) hf1 hop1 hsC rfl) ?_);rintro e a₅ w₅ ⟨rfl,hd5,Γ₅,hs₅,E₅,hn₅,_⟩;refine wpIn_mono (xV (rb:=none) hf2 hop2 hs₅ rfl) ?_;rintro e a₆ w₆ ⟨rfl,hd6,Γ₆,hs₆,E₆,hn₆,_⟩;have E56:Evo Γ₃ s₃.H w'' Γ₆ t2.H w₆:=E₅.trans hn₅ E₆;have hn56:s₃.H.C<=t2.H.C:=XN hn₅ hn₆;refine⟨by rw[hd6,hd5];rfl,.panicking [{ v:=.iface it iv,recovered:=true }],rfl,.tuple #[],hresg _ _,?_⟩;show LeavesInM Fence.wide 0 P fn a₃.tmps (eG P G Γ H w K) [] .returning w₆;obtain⟨cv,h1,h2⟩:=yj hs₆.heap (fun t=>(he'' t).aU E56 hn56) hvs;obtain⟨Γ'',R3,E3,hv3⟩:=hw Γ₆ w₆ hs₆.heap;exact⟨cv,h1,.ret v',H',Γ'',hv3 cv h2,hk,R3,(E''.trans hn03 E56).trans (XN hn03 hn56) E3,hn'⟩
  |_=>exact hx.elim
 |exit i=>cases x with
  |exit j=>exact hq₃.elim
  |_=>exact hx.elim
 |goto i=>cases x with
  |goto j=>exact hq₃.elim
  |_=>exact hx.elim
 |outgrown=>cases x<;>exact hx.elim
end Go.Hx
namespace Go.Hx
open Go.ChangeShapes Go.WideShapes Go.RowKit
variable {P:Program} {W:World} {H:Type} {enc:TypeId × Value->H} {spare:Nat->Bool} {held:Bool}
variable {φ:DataW H->List nnn->Prop}{z:Nat}{α:Type}{e t:TypeId}
def gQ (P:Program)(W:World)(as:List nnn)(cs:List Value):Prop:=cs.length=as.length/\∀i (h:i<as.length) (h':i<cs.length),nnc P iB cw W as[i] cs[i]
def ee (enc:TypeId × Value->H)(P:Program)(W:World)(spare:Nat->Bool)(held:Bool)(t:TypeId)(φ:DataW H->List nnn->Prop):Prop :=
 ∀fuel cs x,DataW.trod enc P W 0 spare held fuel t cs=some x->∃as,gQ P W as cs/\φ x.1 as
def gQ.nil:gQ P W [] []:=⟨rfl,fun i h _=>absurd h (Xo _)⟩
def gQ.one {a:nnn}{c:Value}(h:nnc P iB cw W a c):gQ P W [a] [c]:=⟨rfl,fun i hi _=>by
 match i,hi with
 |0,_=>exact h⟩
def gQ.append {as bs:List nnn}{cs ds:List Value}(h1:gQ P W as cs)(h2:gQ P W bs ds):gQ P W (as++bs) (cs++ds):=by
 refine⟨by simp[h1.1,h2.1],fun i h h'=>?_⟩;by_cases hi:i<as.length
 ·rw[X3 hi,X3 (by rw[h1.1];exact hi)];exact h1.2 i hi _
 ·have e:=h1.1;rw[Ye U,Ye U];have:=h2.2 (i-as.length) (by simp at h;omega) (by rw[h2.1];simp at h;omega);simpa[e] using this
def JX (ht:P.underlying t=some .bool):ee enc P W spare held t fun d as=>∃b,d=.lit (.bool b)/\as=[.lit (.bool b)]:=by
 intro fuel cs x h;cases fuel with
 |zero=>simp[DataW.trod]at h
 |succ n =>
  unfold DataW.trod at h;rw[ht]at h;split at h
  ·cases h;exact⟨_,.one (.lit _),_,rfl,rfl⟩
  all_goals simp_all
def iG {k:IntKind}(ht:P.underlying t=some (.int k)):ee enc P W spare held t fun d as=>∃n,d=.lit (.int k n)/\as=[.lit (.int k n)]/\(Lit.int k n).wf=true:=by
 intro fuel cs x h;cases fuel with
 |zero=>simp[DataW.trod]at h
 |succ n =>
  unfold DataW.trod at h;rw[ht]at h;split at h<;>simp_all
  rename_i k' n' _ _;obtain⟨⟨rfl,hw⟩,rfl⟩:=h;exact⟨_,.one (.lit _),_,rfl,rfl,hw⟩
def ym:∀ {X:List (List nnn)} {css:List (List Value)},css.length=X.length->(∀i (h:i<X.length) (h':i<css.length),gQ P W X[i] css[i])->gQ P W X.flatten css.flatten:=by
 intro X
 induction X with
 |nil=>intro css h _;obtain rfl:=Xc h;exact .nil
 |cons r X ih =>
  intro css h h'
  match css,h with
  |c :: css,h =>
   simp only[List.flatten_cons];exact(h' 0 aaw aaw).append (ih (by simpa using h) fun i hi hi'=>h' (i+1) (by simpa using hi) (by simpa using hi'))
def yp {Q:Nat->α->Prop}:∀n,(∀i,i<n->∃a,Q i a)->∃l:List α,l.length=n/\∀i (h:i<l.length),Q i l[i]:=by
 intro n
 induction n with
 |zero=>intro _;exact⟨[],rfl,fun i h=>absurd h (Xo _)⟩
 |succ n ih =>
  intro h;obtain⟨l,hl,hq⟩:=ih fun i hi=>h i U;obtain⟨a,ha⟩:=h n U;refine⟨l++[a],by simp[hl],fun i hi=>?_⟩;by_cases hi':i<l.length
  ·rw[X3 hi'];exact hq i hi'
  ·have:i=l.length:=(by simp at hi;omega);subst this;simp only[List.getElem_concat_length];rw[hl];exact ha
def JY :∀ {X:List (List α)},(∀i (h:i<X.length),X[i].length=z)->X.flatten.length=X.length*z:=by
 intro X
 induction X with
 |nil=>intro _;simp
 |cons r X ih =>
  intro h;have h0:=h 0 aaw;have:=ih fun i hi=>h (i+1) (by simpa using hi);simp only[XD]at h0;simp only[List.flatten_cons,List.length_append,List.length_cons,this,h0,Zg];omega
def JZ :∀ {X:List (List α)},(∀i (h:i<X.length),X[i].length=z)->∀i j (hi:i<X.length) (hj:j<z),X.flatten[i*z+j]?=(X[i])[j]?:=by
 intro X
 induction X with
 |nil=>intro _ i j hi;exact absurd hi (Xo _)
 |cons r X ih =>
  intro h i j hi hj;have h0:=h 0 aaw;simp only[XD]at h0;cases i with
  |zero=>simp only[List.flatten_cons,XD,Y1,Nat.zero_add];rw[Xe U]
  |succ i =>
   simp only[List.flatten_cons,X8];rw[Xp (by rw[h0,Zg];omega),<- ih (fun i hi=>h (i+1) (by simpa using hi)) i j (by simpa using hi) hj];congr 1;rw[h0,Zg];omega
def yt (φ:DataW H->List nnn->Prop)(ds:List (DataW H))(X:List (List nnn)):Prop:=ds.length=X.length/\∀i (h:i<X.length) (h':i<ds.length),φ ds[i] X[i]
def B2 (ht:P.underlying t=some (.slice e))(hz:0<P.cellsOf e)(he:ee enc P W spare held e φ):
  ee enc P W spare held t fun d as=>(d=.nil/\as=[.L 0 []])\/∃ds rest X,d=.slice ds rest/\as=[.L X.length X.flatten]/\yt φ ds X/\(∀i (h:i<X.length),X[i].length=P.cellsOf e)/\X.length<=maxLen:=by
 intro fuel cs x h;rcases DataW.trod_slice ht h with ⟨rfl,rfl⟩|⟨a,len,cap,elems,rest,n,rfl,rfl,rfl,_,hl,hm,hlen,hel,_,_⟩
 ·exact⟨_,.one (.nu _ _),.inl ⟨rfl,rfl⟩⟩
 have hrow:∀i,i<len->∃p:List Value × List nnn,W.cells? 0 (a.add (i*P.cellsOf e)) (P.cellsOf e)=some p.1/\gQ P W p.2 p.1/\∃x,elems[i]?=some x/\φ x.1 p.2:=by
  intro i hi;have:=hel i hi;rw[W5 U,Xa]at this;obtain⟨cs,hc,hx⟩:=this;obtain⟨as,ha,hφ⟩:=he _ _ _ hx;exact⟨(cs,as),hc,ha,_,W5 U,hφ⟩
 obtain⟨l,hll,hQ⟩:=yp len hrow;have hzr:∀i (h:i<(l.map Prod.snd).length),(l.map Prod.snd)[i].length=P.cellsOf e:=by
  intro i h;simp only[Xl]at h;simp only[Xi];obtain⟨hc,hr,_⟩:=hQ i h;rw[<- hr.1];exact(World.cells?_some hc).2.1
 have hzc:∀i (h:i<(l.map Prod.fst).length),(l.map Prod.fst)[i].length=P.cellsOf e:=by
  intro i h;simp only[Xl]at h;simp only[Xi];exact(World.cells?_some (hQ i h).1).2.1
 refine⟨[.L (l.map Prod.snd).length (l.map Prod.snd).flatten],.one ?_,.inr ⟨_,_,l.map Prod.snd,rfl,rfl,⟨by simp[hll,hlen],fun i h h'=>?_⟩,hzr,by simp only[Xl];omega⟩⟩
 ·rcases Yp len with h0|h0
  ·subst h0;obtain rfl:=Xc hll;exact .nu _ _
  have hrc:gQ P W (l.map Prod.snd).flatten (l.map Prod.fst).flatten:=ym aaw fun i h h'=>by
   simp only[Xl]at h;simp only[Xi];exact(hQ i h).2.1
  have hla:(l.map Prod.snd).length=len:=by simp[hll]
  have hsp:∀i,i<len->∀j,j<P.cellsOf e->∃v,W.cell? ((a.add (i*P.cellsOf e)).add j)=some v/\(l.map Prod.fst).flatten[i*P.cellsOf e+j]?=some v:=by
   intro i hi j hj;obtain⟨hc,_⟩:=hQ i U;obtain⟨_,hcl,hcell⟩:=World.cells?_some hc;refine⟨(l[i]' U).1[j]' U,?_,?_⟩
   ·rw[hcell j hj,W5]
   ·rw[JZ hzc i j (by simp;omega) hj];simp only[Xi];rw[W5]
  have hspot:a.spot=none:=by
   obtain⟨v,hv,_⟩:=hsp 0 h0 0 hz;unfold World.cell? at hv;split at hv
   ·split at hv
    ·cases hv
    ·rename_i hs;simpa[Addr.add] using hs
   ·cases hv
  obtain⟨b,off,spot⟩:=a;simp only at hspot;subst hspot;have hadd:∀(b off n:Nat),(⟨b,off,none⟩:Addr).add n=⟨b,off+n,none⟩:=by
   intro b off n;unfold Addr.add;by_cases hn:n=0
   ·subst hn;simp
   ·simp[hn]
  have hlt:b<W.heap.size:=by
   obtain⟨v,hv,_⟩:=hsp 0 h0 0 hz;rw[hadd,hadd]at hv;unfold World.cell? at hv;rcases Xu b W.heap.size with h|h
   ·exact h
   ·rw[Yq h]at hv;cases hv
  rw[hla];refine .L (Bn b) hlt hl hrc.1 (fun i hi=>?_) fun i h h'=>hrc.2 i h h';have hlc:=JY hzc;simp only[Xl,hll]at hlc;have hi':i<len*P.cellsOf e:=U
  obtain⟨v,hv,hg⟩:=hsp (i / P.cellsOf e) (Nat.div_lt_of_lt_mul (by rw[Z4];exact hi')) (i % P.cellsOf e) (ZY _ hz);have hdm:i / P.cellsOf e*P.cellsOf e+i % P.cellsOf e=i:=by rw[Z4];exact Nat.div_add_mod _ _
  rw[hdm]at hg;rw[W5 hi]at hg;rw[Option.some.inj hg,<- hv,hadd,hadd];congr 2;omega
 ·simp only[Xl]at h h';obtain⟨_,_,y,hy,hφ⟩:=hQ i h;simp only[Xi];rw[W5 h']at hy;rw[Option.some.inj hy];exact hφ
def J0 :∀ {n:Nat} {cs:List α},cs.length=n*z->((List.range n).map fun i=>(cs.drop (i*z)).take z).flatten=cs:=by
 intro n
 induction n with
 |zero=>intro cs h;simp at h;subst h;rfl
 |succ n ih =>
  intro cs h;have h1:(cs.take (n*z)).length=n*z:=by rw[Xm,h,Zg];omega
  have:=ih h1;rw[Yj,X2,Zx];have e:((List.range n).map fun i=>(cs.drop (i*z)).take z)=(List.range n).map fun i=>((cs.take (n*z)).drop (i*z)).take z:=by
   refine Yk fun i hi=>?_;have hi':=XJ.1 hi;rw[List.drop_take,List.take_take];congr 1;have:i*z+z<=n*z:=(by rw[<- Zg];exact X9 _ hi');omega
  rw[e,this];simp only[List.map_cons,List.map_nil,List.flatten_cons,List.flatten_nil,List.append_nil];rw[W9 (l:=cs.drop (n*z)) (by simp[h,Zg])];exact XO _ _
def J1 {n:Nat}(ht:P.underlying t=some (.array n e))(hz:P.cellsOf t=n*P.cellsOf e)(he:ee enc P W spare held e φ):
  ee enc P W spare held t fun d as=>∃ds X,d=.agg ds/\as=X.flatten/\yt φ ds X/\X.length=n/\∀i (h:i<X.length),X[i].length=P.cellsOf e:=by
 intro fuel cs x h;obtain⟨xs,m,rfl,rfl,hcl,hxl,hel⟩:=DataW.trod_array ht h;have hrow:∀i,i<n->∃as:List nnn,gQ P W as ((cs.drop (i*P.cellsOf e)).take (P.cellsOf e))/\∃x,xs[i]?=some x/\φ x.1 as:=by
  intro i hi;have:=hel i hi;rw[W5 U]at this;obtain⟨as,ha,hφ⟩:=he _ _ _ this;exact⟨as,ha,_,W5 U,hφ⟩
 obtain⟨l,hll,hQ⟩:=yp n hrow;refine⟨l.flatten,?_,_,l,rfl,rfl,⟨by simp[hxl,hll],fun i h h'=>?_⟩,hll,fun i h=>?_⟩
 ·rw[<- J0 (n:=n) (hcl.trans hz)];refine ym (by simp[hll]) fun i h h'=>?_;simp only[Xi,List.getElem_range];exact(hQ i h).1
 ·obtain⟨_,y,hy,hφ⟩:=hQ i h;simp only[Xl]at h';simp only[Xi];rw[W5 h']at hy;rw[Option.some.inj hy];exact hφ
 ·obtain⟨hr,_⟩:=hQ i h;rw[<- hr.1,Xm,X1,hcl,hz];have:i*P.cellsOf e+P.cellsOf e<=n*P.cellsOf e:=by rw[<- Zg];exact X9 _ (U)
  omega
def pW {fs:Array Field}{φ:Nat->DataW H->List nnn->Prop}(ht:P.underlying t=some (.struct fs))
  (hlay:∀cs:List Value,cs.length=P.cellsOf t->(fs.toList.map fun f=>(cs.drop f.offset).take (P.cellsOf f.type)).flatten=cs)
  (he:∀i (h:i<fs.size),ee enc P W spare held fs[i].type (φ i)):
  ee enc P W spare held t fun d as=>∃(ds:List (DataW H)) (X:List (List nnn)),d=.agg ds/\as=X.flatten/\ds.length=fs.size/\X.length=fs.size/\∀i (h:i<X.length) (h':i<ds.length),φ i ds[i] X[i]:=by
 intro fuel cs x h;obtain⟨xs,m,rfl,rfl,hcl,hxl,hel⟩:=DataW.trod_struct ht h;have hrow:∀i,i<fs.size->∃as:List nnn,(∀h:i<fs.size,gQ P W as ((cs.drop fs[i].offset).take (P.cellsOf fs[i].type)))/\∃x,xs[i]?=some x/\φ i x.1 as:=by
  intro i hi;have:=hel i fs[i] (Xk hi);rw[W5 U]at this;obtain⟨as,ha,hφ⟩:=he i hi _ _ _ this;exact⟨as,fun _=>ha,_,W5 U,hφ⟩
 obtain⟨l,hll,hQ⟩:=yp fs.size hrow;refine⟨l.flatten,?_,_,l,rfl,rfl,by simp[hxl],hll,fun i h h'=>?_⟩
 ·rw[<- hlay cs hcl];refine ym (by simp[hll]) fun i h h'=>?_;simp only[Xi,Ya];exact(hQ i h).1 (U)
 ·obtain⟨_,y,hy,hφ⟩:=hQ i h;simp only[Xl]at h';simp only[Xi];rw[W5 h']at hy;rw[Option.some.inj hy];exact hφ
end Go.Hx
namespace Go.Hx
variable {P:Program} {G:Nat->Option (List nnn)} {H:nnl}
variable {L:List Blk}{cs:List nnn}{hi:Nat}{e:TypeId}{v:nnn}
def NV:(1=0)=False:=aaw
def NW (l:List nnn)(i:Nat):lF (.nc l) i=l[i]?:=rfl
def NX (cells:List nnn)(off:Nat):jI H (.ni cells off)=some (.ni cells off):=rfl
def NY (id gen off:Nat):jI H (.Y id gen off)=(H.na id gen).map fun _=>.Y id gen off:=by
 simp only[jI]
def NZ (t:TypeId)(f:Nat)(id gen off:Nat):qf P H t f (.Y id gen off)=(bD P t f).bind fun of=>(H.na id gen).map fun _=>.Y id gen (off+of.1):=rfl
def N0 (t:TypeId)(f:Nat)(cells:List nnn)(off:Nat):qf P H t f (.ni cells off)=(bD P t f).bind fun of=>some (.ni cells (off+of.1)):=rfl
def cS (H:nnl)(L:List Blk)(e:TypeId)(lo hi:Nat)(v:nnn)(cs:List nnn):Prop :=
 (v=.lit (.slice none 0 0)/\cs=[])\/∃i g,lo<=i/\i<hi/\v=.Z (H.C+i) g 0 cs.length 1/\L[i]?=some (.O g e cs)
def cS.nil {lo:Nat}:cS H L e lo hi (.lit (.slice none 0 0)) []:=.inl ⟨rfl,rfl⟩
def cS.nf {L':List Blk}{lo lo' hi':Nat}(h:cS H L e lo hi v cs)(hl:lo'<=lo)(hh:hi<=hi')(hk:∀i g,lo<=i->i<hi->L[i]?=some (.O g e cs)->L'[i]?=L[i]?):
  cS H L' e lo' hi' v cs:=by
 rcases h with h|⟨i,g,h1,h2,h3,h4⟩
 ·exact .inl h
 ·exact .inr ⟨i,g,U,U,h3,by rw[hk i g h1 h2 h4];exact h4⟩
def CE {i g:Nat}(h:L[i]?=some (.O g e cs)):(ext H L).na (H.C+i) g=some (e,cs):=by
 have hi:i<L.length:=by
  rcases Xu i L.length with h'|h'
  ·exact h'
  ·rw[Xf h']at h;cases h
 rw[yE H L i g hi,h];simp[rU]
def N1 {t:TypeId}{lo:Nat}{x:nnn}{z:List nnn}(ht:P.underlying t=some (.slice e))(hz:P.cellsOf e=1)(hzero:bC P e=some z)(hx:x.one=true)
  (hb:(cs.length+1)*P.bytesOf e<=2 ^ 47/\cs.length+1<=2 ^ 47) (ho:cS H L e lo hi v cs) (hlo:lo<=L.length) (hhi:hi<=L.length):
  ∃v' L',bh P (ext H (L++[.O 0 e [x]])) (H.C+(L.length+1)) t t v (.Z (H.C+L.length) 0 0 1 1)=some (v',ext H L')/\cS H L' e lo L'.length v' (cs++[x])/\L.length<=L'.length /\
   (∀k,k<L.length->(∀g n,v≠.Z (H.C+k) g 0 n 1)->L'[k]?=L[k]?):=by
 have hsrc:bU (ext H (L++[.O 0 e [x]])) 1 (.Z (H.C+L.length) 0 0 1 1)=some (1,[x]):=by
  unfold bU;have:=CE (H:=H) (L:=L++[Blk.O 0 e [x]]) (i:=L.length) (g:=0) (e:=e) (cs:=[x]) aaw;simp[this]
 rcases ho with ⟨rfl,rfl⟩|⟨i,g,h1,h2,rfl,h4⟩
 ·refine⟨.Z (H.C+(L.length+1)) 0 0 1 1,L++[.O 0 e [x]]++[.O 0 e [x]],?_,.inr ⟨L.length+1,0,U,aaw,aaw,aaw⟩,aaw,fun k hk _=>?_⟩
  ·unfold bh;rw[ht];simp only[hzero,hz,Option.bind_some,hsrc,NV,if_false];have h1:1*P.bytesOf e<=2 ^ 47/\1<=2 ^ 47:=(by simpa using hb);rw[W8 h1,Cm H _ (L.length+1) _ aaw];rfl
  ·rw[List.append_assoc,Xe hk]
 ·have hi':i<L.length:=U
  refine⟨.Z (H.C+i) (g+1) 0 (cs.length+1) 1,(L++[Blk.O 0 e [x]]).set i (Blk.O (g+1) e (cs++[x])),?_,.inr ⟨i,g+1,h1,by simp;omega,aaw,?_⟩,aaw,fun k hk hne=>?_⟩
  ·unfold bh;rw[ht];simp only[hzero,hz,Option.bind_some,hsrc];have hl:=CE (H:=H) (L:=L++[Blk.O 0 e [x]]) (i:=i) (g:=g) (e:=e) (cs:=cs) (by rw[Xe hi'];exact h4);simp only[hl,Option.bind_some];rw[W8 ⟨trivial,trivial,U,hb.1,hb.2,by simp[hx]⟩];rw[yD H _ i _ (by simp;omega)];simp
  ·rw[Xj (by simp;omega)]
  ·have:i≠k:=(by rintro rfl;exact hne _ _ rfl);rw[Xs this,Xe hk]
def cS.fz {S:Nat->Prop}{lo:Nat}{cs':List nnn}{nx:Nat}(h:cS H L e lo hi v cs)(hS:∀i,S (H.C+i))(hl:cs'.length=cs.length)
  (hc:∀i (h:i<cs.length) (h':i<cs'.length),Fz S (ext H L) nx cs[i] cs'[i]):Fz S (ext H L) nx v (.L cs'.length cs'):=by
 rcases h with ⟨rfl,rfl⟩|⟨i,g,_,_,rfl,h4⟩
 ·obtain rfl:=Xc hl;exact .nil
 ·rw[hl];have hi:i<L.length:=by
   rcases Xu i L.length with h'|h'
   ·exact h'
   ·rw[Xf h']at h4;cases h4
  refine .nq (hS i) (by rw[cO H L i hi];exact h4) U fun j hj h2 h'=>?_;simp only[Nat.zero_add]at h2 ⊢;exact hc j h2 h'
end Go.Hx
namespace Go.Hx
variable {P:Program} {G:Nat->Option (List nnn)} {H:nnl}
variable {X:List (List nnn)}{L L':List Blk}{cs cs':List nnn}{g hi id nx:Nat}{S:Nat->Prop}{e e' e0 e1:TypeId}{H2:nnl}{u v v':nnn}
def yU (P:Program)(s d:TypeId)(x:Bool)(y:Option TypeDesc)(v:nnn):Option nnn :=
 if x=true then (match y,v with
  |some (.int k'),.lit (.int _ a)=>some (.lit (.int k' (k'.wrap a)))
  |_,_=>kF P s d v) else kF P s d v
def N2 (s d:TypeId)(v:nnn):kF P s d v=yU P s d (P.underlying s).isSome (P.underlying d) v:=by
 unfold yU;split
 ·rename_i hs;split
  ·rename_i k' k a hd;exact LF hs hd
  ·rfl
 ·rfl
def N3 (s d:TypeId)(k k':IntKind)(a:Int):yU P s d true (some (.int k')) (.lit (.int k a))=some (.lit (.int k' (k'.wrap a))):=rfl
def CG (P:Program)(d:Option TypeDesc)(cells:List nnn)(i:Int):Option nnn:=match d with
 |some (.array n e)=>if 0<=i/\i<(n:Int) then eP P e cells (i.toNat*P.cellsOf e) else none
 |_=>none
def N4 (t:TypeId)(cells:List nnn)(k:IntKind)(i:Int):mr P t (.agg cells) (.lit (.int k i))=CG P (P.underlying t) cells i:=rfl
def N5 (n:Nat)(e:TypeId)(cells:List nnn)(i:Int):CG P (some (.array n e)) cells i=if 0<=i/\i<(n:Int) then eP P e cells (i.toNat*P.cellsOf e) else none:=rfl
def ag {c:List nnn}(h:H.get id=some (.O g e c)):H.na id g=some (e,c):=by
 unfold nnl.na;rw[h];simp
def aw (a:Nat)(x:Blk):(H.upd a x).C=H.C:=rfl
def cB (h:id<H.C):(ext H L).na id g=H.na id g:=by
 unfold nnl.na;rw[cV H L id h]
def kJ (H:nnl)(L:List Blk)(e1 e0:TypeId)(v:nnn)(X:List (List nnn)):Prop :=
 ∃cs:List nnn,cS H L e1 0 L.length v cs/\cs.length=X.length/\∀(j:Nat) (r:List nnn) (c:nnn),X[j]?=some r->cs[j]?=some c->cS H L e0 0 L.length c r
theorem kJ.nil :kJ H L e1 e0 (.lit (.slice none 0 0)) []:=⟨[],.nil,rfl,fun j r c h=>by simp at h⟩
def cS.lt {lo i n z:Nat}(h:cS H L e lo hi (.Z (H.C+i) g 0 n z) cs):i<L.length/\L[i]?=some (.O g e cs)/\n=cs.length/\z=1:=by
 rcases h with ⟨h,_⟩|⟨j,g2,_,_,h3,h4⟩
 ·cases h
 ·have:=nnn.Z.inj h3;obtain rfl:i=j:=U
  obtain⟨_,rfl,_,rfl,rfl⟩:=this;refine⟨?_,h4,rfl,rfl⟩;rcases Xu i L.length with h|h
  ·exact h
  ·rw[Xf h]at h4;cases h4
def cS.sg {lo lo' hi':Nat}(hv:cS H L e lo hi v cs)(hu:cS H L e' lo' hi' u cs')(hne:e≠e')(hh:hi'<=L.length)
  (hp:∀k,k<L.length->(∀g n,v≠.Z (H.C+k) g 0 n 1)->L'[k]?=L[k]?):cS H L' e' lo' hi' u cs':=by
 refine hu.nf aaz aaz fun i g h1 h2 h3=>hp i U fun g' n he=>?_;rcases hv with ⟨rfl,_⟩|⟨j,g2,_,_,rfl,h4⟩
 ·cases he
 ·have hj:j=i:=by
   have:=nnn.Z.inj he;omega
  subst hj;rw[h3]at h4;cases h4;exact hne rfl
def cS.mu {lo:Nat}(hv:cS H L e lo hi v cs):v.one=true:=by
 rcases hv with ⟨rfl,_⟩|⟨_,_,_,_,rfl,_⟩<;>rfl
def cS.fo {lo:Nat}(hv:cS H L e lo hi v cs):v.cells=[v]:=by
 rcases hv with ⟨rfl,_⟩|⟨_,_,_,_,rfl,_⟩<;>rfl
def cS.other {lo lo' hi':Nat}(hv:cS H L e lo hi v cs)(hu:cS H L e' lo' hi' u cs')(hne:e≠e')(hh:hi'<=L.length)
  (hp:∀k,k<L.length->(∀g n,v≠.Z (H.C+k) g 0 n 1)->L'[k]?=L[k]?):cS H L' e' lo' hi' u cs':=hv.sg hu hne hh hp
theorem cS.one {lo:Nat}(hv:cS H L e lo hi v cs):v.one=true:=hv.mu
theorem cS.cells {lo:Nat}(hv:cS H L e lo hi v cs):v.cells=[v]:=hv.fo
theorem kJ.nf (h:kJ H L e1 e0 v X)(hl:L.length<=L'.length)(hk:∀i,i<L.length->L'[i]?=L[i]?):kJ H L' e1 e0 v X:=by
 obtain⟨cs,c1,c2,c3⟩:=h;exact⟨cs,c1.nf aaz hl fun i _ _ hi _=>hk i hi,c2,fun j r c hr hc=>(c3 j r c hr hc).nf aaz hl fun i _ _ hi _=>hk i hi⟩
theorem kJ.fz {rows':List (List nnn)}(h:kJ H L e1 e0 v X)(hS:∀i,S (H.C+i))(hl:rows'.length=X.length)
  (hr:∀(j:Nat) (r r':List nnn),X[j]?=some r->rows'[j]?=some r'->r'.length=r.length/\∀i (h:i<r.length) (h':i<r'.length),Fz S (ext H L) nx r[i] r'[i]):
  Fz S (ext H L) nx v (.L rows'.length (rows'.map fun r=>.L r.length r)):=by
 obtain⟨cs,h1,h2,h3⟩:=h;have:=h1.fz (S:=S) (nx:=nx) (cs':=rows'.map fun r=>.L r.length r) hS (by simp[h2,hl]) fun i hi hi'=>by
  simp only[Xi];have hi2:i<X.length:=U
  have hi3:i<rows'.length:=U
  obtain⟨a1,a2⟩:=hr i X[i] rows'[i] (W5 hi2) (W5 hi3);exact(h3 i X[i] cs[i] (W5 hi2) (W5 hi)).fz (S:=S) (nx:=nx) (cs':=rows'[i]) hS a1 a2
 rw[Xl]at this;exact this
def kJ.app {x:nnn}{r:List nnn}{t:TypeId}{z:List nnn}(ht:P.underlying t=some (.slice e1))(hz:P.cellsOf e1=1)(hzero:bC P e1=some z)(hby:P.bytesOf e1=24)(hne:e1≠e0)
  (hb:X.length<2 ^ 40) (h:kJ H L e1 e0 v X) (hx:cS H L e0 0 L.length x r):
  ∃v' L',bh P (ext H (L++[.O 0 e1 [x]])) (H.C+(L.length+1)) t t v (.Z (H.C+L.length) 0 0 1 1)=some (v',ext H L')/\kJ H L' e1 e0 v' (X++[r])/\L.length<=L'.length:=by
 obtain⟨cs,h1,h2,h3⟩:=h;obtain⟨v',L',hA,hO,hL,hp⟩:=N1 (t:=t) ht hz hzero hx.mu (by rw[hby,h2];omega) h1 (Zu _) aaz;refine⟨v',L',hA,⟨cs++[x],hO,by simp[h2],fun j r' c hr hc=>?_⟩,hL⟩;have key:∀u l,cS H L e0 0 L.length u l->cS H L' e0 0 L'.length u l:=fun u l hu=>(h1.sg hu hne aaz hp).nf aaz hL fun _ _ _ _ _=>rfl;rcases Xu j X.length with hj|hj
 ·rw[Xe hj]at hr;rw[Xe U]at hc;exact key _ _ (h3 j r' c hr hc)
 ·rw[Xp hj]at hr;rw[Xp U]at hc;have hj0:j-X.length=0:=by
   rcases Yp (j-X.length) with h|h
   ·exact h
   ·rw[Xf (by simp;omega)]at hr;cases hr
  have hj1:j-cs.length=0:=U
  rw[hj0]at hr;rw[hj1]at hc;cases hr;cases hc;exact key _ _ hx
def eT (H:nnl)(L L':List Blk):ext (ext H L) L'=ext H (L++L'):=by
 unfold ext;simp only[List.length_append];congr 1
 ·funext j
  by_cases h1:H.C+L.length<=j/\j<H.C+L.length+L'.length
  ·rw[W8 h1,W8 U,Xp U];congr 1;omega
  ·rw[W7 h1];by_cases h2:H.C<=j/\j<H.C+L.length
   ·rw[W8 h2,W8 U,Xe U]
   ·rw[W7 h2,W7 U]
 ·omega
def N6 (t:TypeId)(id g o l z:Nat):jL P t (.Z id g o l z)=if lM (P.underlying t)=true then [id] else []:=by
 unfold jL;cases h:P.underlying t with
 |none=>rfl
 |some d=>cases d<;>rfl
structure nnd (H H2:nnl):Prop where
 C:H.C<=H2.C
 ng:∀id,id<H.C->H2.get id=H.get id
def nnd.refl (H:nnl):nnd H H:=⟨aaz,fun _ _=>rfl⟩
theorem nnd.trans {H H3:nnl}(a:nnd H H2)(b:nnd H2 H3):nnd H H3 :=
 ⟨XN a.C b.C,fun id h=>(b.ng id (Xd h a.C)).trans (a.ng id h)⟩
theorem nnd.ext (H:nnl)(L:List Blk):nnd H (ext H L):=⟨by simp[bu],fun id h=>cV H L id h⟩
def N7 {H:nnl}(hc:Clo H)(ho:nnd H H2):FzH (fun id=>H.C<=id) H2 H where
 gone id hs:=by
  cases h:H.get id with
  |none=>rfl
  |some b=>have:=hc.lt id b h;omega
 kept id b hs hb:=by
  have hlt:id<H.C:=Yu hs;rw[ho.ng id hlt]at hb;have hbb:=hc.below id b hb;refine⟨hlt,b,hb,?_⟩;have hno:∀i,i<H.C->¬H.C<=i:=fun i h=>Nat.not_le_of_lt h;cases b with
  |nj=>trivial
  |mp=>rfl
  |O g e cells=>exact⟨rfl,rfl,rfl,fun i h _=>.refl (hbb i h) hno⟩
  |loop st pend n env ps asg body=>exact⟨rfl,rfl,rfl,rfl,rfl,rfl,rfl,fun t ht=>.refl (hbb t ht) hno⟩
 none id hs hb:=by
  rw[ho.ng id (Yu hs)]at hb;exact hb
def ar.bw (hG:dS G)(hc:Clo H)(ho:nnd H H2){K:nnf->nnl->Prop}(hv:Fz (fun id=>H.C<=id) H2 H.C v v')(hk:K (.ret v') H):ar P G H K v H2 :=
 ⟨v',H,.freeze hG (N7 hc ho) hv,aaz,hk⟩
def Fz.ng {H:nnl}(h:Below H.C v)(hn:H.C<=nx):Fz (fun id=>H.C<=id) H2 nx v v:=by
 induction h with
 |lit v=>exact .lit v
 |L _ ih=>exact .L rfl fun i h _=>ih i h
 |ni _ ih=>exact .ni rfl fun i h _=>ih i h
 |agg _ ih=>exact .agg rfl fun i h _=>ih i h
 |nc _ ih=>exact .nc rfl fun i h _=>ih i h
 |nb _ _ ih1 ih2=>exact .nb rfl rfl (fun i h _=>ih1 i h) fun i h _=>ih2 i h
 |Z h=>exact .Z U (U)
 |Y h=>exact .Y U (U)
 |nk h=>exact .nk U (U)
def Fz.put {H:nnl}{d:Nat}{ρ ρ':Env}(h:∀t,Fz S H nx (ρ t) (ρ' t))(hv:Fz S H nx v v'):∀t,Fz S H nx (aF ρ (some d) v t) (aF ρ' (some d) v' t):=by
 intro t;simp only[aF];split
 ·exact hv
 ·exact h t
def Fz.aD {H:nnl}(X:List (List Int)):Fz S H nx (.L X.length (X.map ah)) (.L X.length (X.map ah)) :=
 .L rfl fun i h _=>by simp only[Xi];exact .df _
def Fz.env {H:nnl}{args args':List nnn}(hl:args'.length=args.length)(h:∀i (h:i<args.length) (h':i<args'.length),Fz S H nx args[i] args'[i]):∀t,Fz S H nx (cR args t) (cR args' t):=by
 intro t;rw[yA,yA];by_cases ht:t<args.length
 ·rw[W5 ht,W5 U];exact h t ht (U)
 ·rw[Xf U,Xf U];exact .lit _
end Go.Hx
namespace Go.Hx
open Go.ChangeShapes Go.WideShapes Go.RowKit
variable {P:Program} {W:World} {H:Type} {enc:TypeId × Value->H} {spare:Nat->Bool} {held:Bool}
variable {d:DataW H}{φ:DataW H->List nnn->Prop}{k:IntKind}{ps:List MemPlace}{b:Nat}{r:Reach}{α:Type}{t:TypeId}{v:Value}
def ee.mono {ψ:DataW H->List nnn->Prop}(h:ee enc P W spare held t φ)(hm:∀d as,φ d as->ψ d as):ee enc P W spare held t ψ:=fun fuel cs x hx =>
 let ⟨as,h1,h2⟩:=h fuel cs x hx;⟨as,h1,hm _ _ h2⟩
def tY (k:IntKind)(l:List Int):List nnn:=l.map fun n=>.lit (.int k n)
def B3 {f:α->List nnn}{q:α->Prop}(hφ:∀d as,φ d as->∃a,as=f a/\q a):∀ {X:List (List nnn)} {ds:List (DataW H)},yt φ ds X ->
  ∃l:List α,X=l.map f/\∀a,a∈l->q a:=by
 intro X
 induction X with
 |nil=>intro ds _;exact⟨[],rfl,fun a h=>by cases h⟩
 |cons r X ih =>
  intro ds h;obtain⟨h1,h2⟩:=h;cases ds with
  |nil=>simp at h1
  |cons d ds =>
   obtain⟨a,ha,hq⟩:=hφ _ _ (h2 0 aaw aaw);obtain⟨l,hl,hq2⟩:=ih (ds:=ds) ⟨by simpa using h1,fun i hi hi'=>h2 (i+1) (by simpa using hi) (by simpa using hi')⟩;refine⟨a :: l,by simp only[List.map_cons,<- hl];simp only[XD]at ha;rw[ha],fun b hb=>?_⟩;rcases List.mem_cons.1 hb with rfl|hb
   ·exact hq
   ·exact hq2 b hb
def J2 {β:Type}(f:α->β)(l:List α):(l.map fun a=>[f a]).flatten=l.map f:=by
 induction l with
 |nil=>rfl
 |cons a l ih=>simp only[List.map_cons,List.flatten_cons,ih];rfl
def yu {e:TypeId}(ht:P.underlying t=some (.slice e))(he:P.underlying e=some (.int k))(hc:P.cellsOf e=1):
  ee enc P W spare held t fun _ as=>∃l:List Int,as=[.L l.length (tY k l)]/\l.length<=maxLen/\∀c,c∈l->(Lit.int k c).wf=true :=
 (B2 ht U (iG he)).mono fun d as h=>by
  rcases h with ⟨_,rfl⟩|⟨ds,rest,X,_,rfl,hr,_,hl⟩
  ·exact⟨[],rfl,aax,fun c h=>by cases h⟩
  ·obtain⟨l,rfl,hq⟩:=B3 (f:=fun n=>[nnn.lit (.int k n)]) (q:=fun n=>(Lit.int k n).wf=true) (fun d as ⟨n,_,h2,h3⟩=>⟨n,h2,h3⟩) hr;refine⟨l,?_,by simpa using hl,hq⟩;rw[Xl];congr 2;exact J2 _ l
def B4 (hop:ee enc P W spare held t φ)
  (ht:(∃fs,P.underlying t=some (.struct fs))\/∃n e,P.underlying t=some (.array n e)) (hval:Value.okWide P W r b t v) (hd:DataW.Trod enc P W 0 spare held t v d ps):
  ∃as,nnc P iB cw W (.agg as) v/\φ d as:=by
 obtain⟨cs,rfl⟩:∃cs,v=.agg cs:=by
  unfold Value.okWide at hval;rcases ht with ⟨fs,ht⟩|⟨n,e,ht⟩
  ·rw[ht]at hval;obtain⟨cs,h,_⟩:=hval;exact⟨cs,h⟩
  ·rw[ht]at hval;obtain⟨cs,h,_⟩:=hval;exact⟨cs,h⟩
 obtain⟨fuel,hf⟩:=hd;obtain⟨as,hr,hφ⟩:=hop _ _ _ hf;refine⟨as,?_,hφ⟩;have:=nnc.agg (P:=P) (Γ:=iB) (H:=cw) (w:=W) (cells:=as) (cs:=cs.toList) hr.1 hr.2;simpa using this
def J3 {ψ:nnn->Prop}(hop:ee enc P W spare held t φ)(h1:∀d as,φ d as->∃a,as=[a]/\ψ a)
  (hno:∀cs,¬Value.okWide P W r b t (.agg cs)) (hval:Value.okWide P W r b t v) (hd:DataW.Trod enc P W 0 spare held t v d ps):∃a,nnc P iB cw W a v/\ψ a:=by
 have hc:v.cells.toList=[v]:=by
  cases v with
  |agg cs=>exact absurd hval (hno cs)
  |_=>rfl
 obtain⟨fuel,hf⟩:=hd;rw[hc]at hf;obtain⟨as,hr,hφ⟩:=hop _ _ _ hf;obtain⟨a,rfl,hψ⟩:=h1 _ _ hφ;exact⟨a,hr.2 0 aaw aaw,hψ⟩
def J4 (ht:P.underlying t=some (.int k))(cs:Array Value):¬Value.okWide P W r b t (.agg cs):=fun h=>by
 obtain⟨n,hn⟩:=okWide_int ht h;cases hn
def yv (ht:P.underlying t=some (.int k))(hval:Value.okWide P W r b t v)(hd:DataW.Trod enc P W 0 spare held t v d ps):
  ∃n,nnc P iB cw W (.lit (.int k n)) v/\(Lit.int k n).wf=true:=by
 obtain⟨a,h1,n,rfl,h2⟩:=J3 (ψ:=fun a=>∃n,a=.lit (.int k n)/\(Lit.int k n).wf=true) (iG ht) (fun d as ⟨n,_,h2,h3⟩=>⟨_,h2,n,rfl,h3⟩) (J4 ht) hval hd;exact⟨n,h1,h2⟩
def wf_u8 {n:Int}(h:(Lit.int .u8 n).wf=true):0<=n/\n<=255:=by
 simpa[Lit.wf,IntKind.min,IntKind.max,IntKind.signed,IntKind.bits] using h
end Go.Hx
namespace Go.Hx
attribute [go_sem] List.replicate_one List.flatten_cons List.flatten_nil List.length_append List.append_nil Nat.sub_zero Bool.not_true Bool.not_false
attribute [go_sem] Bool.true_eq_false List.map_eq_nil_iff yG Int.le_refl decide_true decide_false eq_self List.getElem?_map
attribute [go_sem] Kv Kw Kx Ky Kz KA KB KC
attribute [go_sem] KD KE KG KH KJ KI KK KL
attribute [go_sem] KM KN KO KP Kl Km Kn Ko
attribute [go_sem] Kp Kq Kr Ks Kt Ku noGoto_normal noGoto_exit
attribute [go_sem] noGoto_ret noGoto_panic mz uf yz ga B9 Kh
attribute [go_sem] Ki KZ K0 LN LJ LK LL LM
attribute [go_sem] List.getElem?_toArray Option.bind_some LO LP LQ LR LS LU
attribute [go_sem] LV LW LX LY LZ L3 L4 L5
attribute [go_sem] L6 L7 L8 L9 Ma Mb Mc Md
attribute [go_sem] Me Mf Mg Mh Mi MM qk MN
attribute [go_sem] MO MP Cz MQ MR MS MT MU
attribute [go_sem] MV MW MX MY MZ M0 M4 List.set_cons_zero
attribute [go_sem] List.set_cons_succ M5 M6 M7 M8 M9 Na Nb
attribute [go_sem] Nc Nd Nf Ng Nh Ni Nj Nk
attribute [go_sem] Nl Nm Nn No Np Nq Nr
attribute [go_sem] sf yR Ns Nt Nu Nv Nw
attribute [go_sem] Nx CB CC Ny Nz NA NB NC
attribute [go_sem] ND NF NG NH NI NJ NK NL
attribute [go_sem] NM NN NO NP NQ NR NS NT
attribute [go_sem] NU gR aZ aa Int.toNat_natCast Int.natCast_nonneg ah List.all_cons
attribute [go_sem] List.all_nil Bool.and_true Nat.mul_one Mj Mk Ml Mm Mn
attribute [go_sem] Mo Mp Mq Mr Ms Mt
attribute [go_sem] Mv Mw My Mx
attribute [go_sem] Mz MA MB MC List.take_succ_cons List.take_zero
attribute [go_sem] List.take_nil List.drop_succ_cons List.drop_zero List.drop_nil List.forall_mem_cons List.not_mem_nil List.mem_cons List.mem_singleton
attribute [go_sem] or_false false_or or_true true_or not_or false_implies implies_true forall_const
attribute [go_sem] K4 K5 K6 K7 K8 K9 La Lb
attribute [go_sem] Lc Ld Le Lf Lg Lh Li Lj
attribute [go_sem] Lk Ll Lm Ln Lo Bool.false_eq_true Lp Lq
attribute [go_sem] Lr Ls Lt Lu Lv Lw
attribute [go_sem] Lx Ly builtin_len builtin_append builtin_copy builtin_min builtin_max Cc
attribute [go_sem] Cd Ce Lz LA Cf Cg Ci Cj
attribute [go_sem] Ck Cl LB bu yB yC Cm yE
attribute [go_sem] LH yD LI LG List.map_cons List.map_nil if_true if_false
attribute [go_sem] ne_eq not_false_eq_true not_true_eq_false true_and and_true false_and and_false List.length_cons
attribute [go_sem] List.length_nil Nat.zero_add Nat.add_zero Option.isSome_some List.append_assoc List.cons_append List.nil_append Option.map_some
attribute [go_sem] Option.map_none eS yA List.getElem?_cons_zero List.getElem?_cons_succ List.getElem?_nil Option.getD_some Option.getD_none
attribute [go_sem] KR KS KT KU KV KW KX KY
attribute [go_sem] NW NX NY Int.natCast_zero Int.cast_ofNat_Int N4 N5 N6
attribute [go_sem] LC LD N2 N3 NZ N0 aI Nat.le_refl
end Go.Hx
namespace Go.Hx
variable {P:Program} {G:Nat->Option (List nnn)} {H H':nnl}
variable {b:Blk}{X:List (List nnn)}{cs cs' z:List nnn}{id n nx:Nat}{S:Nat->Prop}{e e0 e1 t:TypeId}{v x:nnn}
def nnl.cut (H:nnl)(n:Nat):nnl:=⟨fun j=>if j<n then H.get j else none,H.C⟩
def N8 (h:id<n):(H.cut n).get id=H.get id:=by simp[nnl.cut,h]
theorem nnd.cut {B:nnl}(h:nnd B H):nnd B (H.cut B.C):=⟨h.C,fun id hi=>(N8 hi).trans (h.ng id hi)⟩
open Classical in
def Fz.dead {H:nnl}(h:Below nx v):Fz S H nx v v:=by
 induction h with
 |lit v=>exact .lit v
 |L _ ih=>exact .L rfl fun i h _=>ih i h
 |ni _ ih=>exact .ni rfl fun i h _=>ih i h
 |agg _ ih=>exact .agg rfl fun i h _=>ih i h
 |nc _ ih=>exact .nc rfl fun i h _=>ih i h
 |nb _ _ ih1 ih2=>exact .nb rfl rfl (fun i h _=>ih1 i h) fun i h _=>ih2 i h
 | @Z id _ _ _ _ h=>by_cases hs:S id;exact .deadOwn h hs;exact .Z h hs
 | @Y id _ _ h=>by_cases hs:S id;exact .deadPtr h hs;exact .Y h hs
 | @nk id h=>by_cases hs:S id;exact .deadYld h hs;exact .nk h hs
def aB (lo:Nat)(H:nnl)(e:TypeId)(v:nnn)(cs:List nnn):Prop :=
 (v=.lit (.slice none 0 0)/\cs=[])\/∃id g,lo<=id/\id<H.C/\v=.Z id g 0 cs.length 1/\H.get id=some (.O g e cs)
def aB.nil {lo:Nat}:aB lo H e (.lit (.slice none 0 0)) []:=.inl ⟨rfl,rfl⟩
def aB.nf {lo lo':Nat}(h:aB lo H e v cs)(hl:lo'<=lo)(hn:H.C<=H'.C)(hk:∀id g,lo<=id->id<H.C->H.get id=some (.O g e cs)->v=.Z id g 0 cs.length 1->H'.get id=H.get id):aB lo' H' e v cs:=by
 rcases h with h|⟨id,g,h1,h2,h3,h4⟩
 ·exact .inl h
 ·exact .inr ⟨id,g,U,U,h3,by rw[hk id g h1 h2 h4 h3];exact h4⟩
def aB.over {lo:Nat}(h:aB lo H e v cs)(ho:nnd H H'):aB lo H' e v cs:=h.nf aaz ho.C fun id _ _ h2 _ _=>ho.ng id h2
theorem aB.one {lo:Nat}(h:aB lo H e v cs):v.one=true:=by
 rcases h with ⟨rfl,_⟩|⟨_,_,_,_,rfl,_⟩<;>rfl
theorem aB.cells {lo:Nat}(h:aB lo H e v cs):v.cells=[v]:=by
 rcases h with ⟨rfl,_⟩|⟨_,_,_,_,rfl,_⟩<;>rfl
def aB.fz {lo:Nat}(h:aB lo H e v cs)(hS:∀i,lo<=i->S i)(hl:cs'.length=cs.length)
  (hc:∀i (h:i<cs.length) (h':i<cs'.length),Fz S H nx cs[i] cs'[i]):Fz S H nx v (.L cs'.length cs'):=by
 rcases h with ⟨rfl,rfl⟩|⟨id,g,h1,_,rfl,h4⟩
 ·obtain rfl:=Xc hl;exact .nil
 ·rw[hl];refine .nq (hS id h1) h4 U fun j hj h2 h'=>?_;simp only[Nat.zero_add]at h2 ⊢;exact hc j h2 h'
def aB.ep {lo:Nat}{l:List Int}(h:aB lo H e v (ints l))(hS:∀i,lo<=i->S i):Fz S H nx v (ah l):=by
 have:=h.fz (S:=S) (nx:=nx) (cs':=ints l) hS rfl fun i hi _=>by simp only[ints,Xi];exact .lit _
 rw[aZ]at this;exact this
def aB.new :aB H.C (ext H [.O 0 e cs]) e (.Z H.C 0 0 cs.length 1) cs :=
 .inr ⟨H.C,0,aaz,by simp[bu],rfl,by simpa using cO H [.O 0 e cs] 0 aaw⟩
def cH (h:id<H.C):(ext H [b]).get id=H.get id:=cV H [b] id h
def bV :(ext H [b]).get H.C=some b:=by simpa using cO H [b] 0 (aaw)
def sh (h:n=H.C):H.lay n b=some (ext H [b]):=by subst h;exact yB H b
def ux {lo:Nat}{src:List nnn}(ht:P.underlying t=some (.slice e))(hz:P.cellsOf e=1)(hzero:bC P e=some z)(hx:src.all nnn.one=true)
  (hb:(cs.length+src.length)*P.bytesOf e<=2 ^ 47/\cs.length+src.length<=2 ^ 47) (ho:aB lo H e v cs) (hlo:lo<=H.C) (hn:n=H.C):
  ∃v' H',bh P H n t t v (.L src.length src)=some (v',H')/\aB lo H' e v' (cs++src)/\H.C<=H'.C/\(∀k,k<H.C->(∀g n,v≠.Z k g 0 n 1)->H'.get k=H.get k):=by
 have hsrc:bU H 1 (.L src.length src)=some (src.length,src):=by
  unfold bU;simp
 by_cases h0:src.length=0
 ·have e0:src=[]:=Xc h0;subst e0;refine⟨v,H,?_,?_,aaz,fun _ _ _=>rfl⟩
  ·rcases ho with ⟨rfl,rfl⟩|⟨i,g,h1,h2,rfl,h4⟩
   ·unfold bh;rw[ht];simp only[hzero,hz,Option.bind_some];rw[hsrc];rfl
   ·unfold bh;rw[ht];have hl:=ag h4;simp only[hzero,hz,Option.bind_some,hsrc,hl];rw[W8 ⟨trivial,trivial,U,hb.1,hb.2,rfl⟩];simp
  ·rw[List.append_nil];exact ho
 rcases ho with ⟨rfl,rfl⟩|⟨i,g,h1,h2,rfl,h4⟩
 ·refine⟨.Z H.C 0 0 src.length 1,ext H [.O 0 e src],?_,.inr ⟨H.C,0,hlo,by simp[bu],aaw,by simpa using bV⟩,by simp[bu],fun k hk _=>cH hk⟩;unfold bh;rw[ht];simp only[hzero,hz,Option.bind_some,hsrc];rw[W7 h0,W8 (by simpa using hb),sh hn,hn];rfl
 ·refine⟨.Z i (g+1) 0 (cs.length+src.length) 1,H.upd i (.O (g+1) e (cs++src)),?_,.inr ⟨i,g+1,h1,h2,aaw,by rw[ae,W8 rfl]⟩,aaz,fun k hk hne=>?_⟩
  ·unfold bh;rw[ht];have hl:=ag h4;simp only[hzero,hz,Option.bind_some,hsrc,hl];rw[W8 ⟨trivial,trivial,U,hb.1,hb.2,hx⟩,W7 h0];simp
  ·rw[ae,W7];rintro rfl;exact hne _ _ rfl
def gf {lo:Nat}(ht:P.underlying t=some (.slice e))(hz:P.cellsOf e=1)(hzero:bC P e=some z)(hx:x.one=true)
  (hb:(cs.length+1)*P.bytesOf e<=2 ^ 47/\cs.length+1<=2 ^ 47) (ho:aB lo H e v cs) (hlo:lo<=H.C) (hn:n=H.C+1):
  ∃v' H',bh P (ext H [.O 0 e [x]]) n t t v (.Z H.C 0 0 1 1)=some (v',H')/\aB lo H' e v' (cs++[x])/\H.C<=H'.C/\(∀k,k<H.C->(∀g n,v≠.Z k g 0 n 1)->H'.get k=H.get k):=by
 have hsrc:bU (ext H [.O 0 e [x]]) 1 (.Z H.C 0 0 1 1)=some (1,[x]):=by
  unfold bU;have:=ag (H:=ext H [.O 0 e [x]]) (g:=0) (bV (b:=.O 0 e [x]));simp[this]
 have hne:(ext H [Blk.O 0 e [x]]).C=H.C+1:=rfl;rcases ho with ⟨rfl,rfl⟩|⟨i,g,h1,h2,rfl,h4⟩
 ·refine⟨.Z (H.C+1) 0 0 1 1,ext (ext H [.O 0 e [x]]) [.O 0 e [x]],?_,.inr ⟨H.C+1,0,U,by simp[bu],aaw,?_⟩,by simp[bu];omega,fun k hk _=>?_⟩
  ·unfold bh;rw[ht];simp only[hzero,hz,Option.bind_some,hsrc];rw[W7 aax,W8 (by simpa using hb),sh (by rw[hn,hne]),hn];rfl
  ·rw[<- hne];exact bV
  ·rw[cH (by rw[hne];omega),cH hk]
 ·have h4':(ext H [.O 0 e [x]]).get i=some (.O g e cs):=by rw[cH h2];exact h4
  refine⟨.Z i (g+1) 0 (cs.length+1) 1,(ext H [.O 0 e [x]]).upd i (.O (g+1) e (cs++[x])),?_,.inr ⟨i,g+1,h1,by rw[aw,hne];omega,aaw,by rw[ae,W8 rfl]⟩,by rw[aw,hne];omega,fun k hk hne=>?_⟩
  ·unfold bh;rw[ht];have hl:=ag h4';simp only[hzero,hz,Option.bind_some,hsrc,hl];rw[W8 ⟨trivial,trivial,U,hb.1,hb.2,by simp[hx]⟩];simp
  ·rw[ae,W7,cH hk];rintro rfl;exact hne _ _ rfl
def eJ (lo:Nat)(H:nnl)(e1 e0:TypeId)(v:nnn)(X:List (List nnn)):Prop :=
 ∃cs:List nnn,aB lo H e1 v cs/\cs.length=X.length/\∀(j:Nat) (r:List nnn) (c:nnn),X[j]?=some r->cs[j]?=some c->aB lo H e0 c r
theorem eJ.nil {lo:Nat}:eJ lo H e1 e0 (.lit (.slice none 0 0)) []:=⟨[],.nil,rfl,fun j r c h=>by simp at h⟩
theorem eJ.over {lo:Nat}(h:eJ lo H e1 e0 v X)(ho:nnd H H'):eJ lo H' e1 e0 v X:=by
 obtain⟨cs,c1,c2,c3⟩:=h;exact⟨cs,c1.over ho,c2,fun j r c hr hc=>(c3 j r c hr hc).over ho⟩
theorem eJ.fz {lo:Nat}{rows':List (List nnn)}(h:eJ lo H e1 e0 v X)(hS:∀i,lo<=i->S i)(hl:rows'.length=X.length)
  (hr:∀(j:Nat) (r r':List nnn),X[j]?=some r->rows'[j]?=some r'->r'.length=r.length/\∀i (h:i<r.length) (h':i<r'.length),Fz S H nx r[i] r'[i]):
  Fz S H nx v (.L rows'.length (rows'.map fun r=>.L r.length r)):=by
 obtain⟨cs,h1,h2,h3⟩:=h;have:=h1.fz (S:=S) (nx:=nx) (cs':=rows'.map fun r=>.L r.length r) hS (by simp[h2,hl]) fun i hi hi'=>by
  simp only[Xi];have hi2:i<X.length:=U
  have hi3:i<rows'.length:=U
  obtain⟨a1,a2⟩:=hr i X[i] rows'[i] (W5 hi2) (W5 hi3);exact(h3 i X[i] cs[i] (W5 hi2) (W5 hi)).fz (S:=S) (nx:=nx) (cs':=rows'[i]) hS a1 a2
 rw[Xl]at this;exact this
def aB.sg {lo lo':Nat}{e':TypeId}{u:nnn}(hv:aB lo H e v cs)(hu:aB lo' H e' u cs')(hne:e≠e')(hn:H.C<=H'.C)
  (hp:∀k,k<H.C->(∀g n,v≠.Z k g 0 n 1)->H'.get k=H.get k):aB lo' H' e' u cs':=by
 refine hu.nf aaz hn fun i g h1 h2 h3 _=>hp i h2 fun g' n he=>?_;rcases hv with ⟨rfl,_⟩|⟨j,g2,_,_,rfl,h4⟩
 ·cases he
 ·have:=nnn.Z.inj he;obtain rfl:j=i:=this.1;rw[h3]at h4;cases h4;exact hne rfl
def eJ.app {lo:Nat}{r:List nnn}(ht:P.underlying t=some (.slice e1))(hz:P.cellsOf e1=1)(hzero:bC P e1=some z)(hby:P.bytesOf e1=24)(hne:e1≠e0)
  (hb:X.length<2 ^ 40) (h:eJ lo H e1 e0 v X) (hlo:lo<=H.C) (hx:aB lo H e0 x r) (hn:n=H.C+1):
  ∃v' H',bh P (ext H [.O 0 e1 [x]]) n t t v (.Z H.C 0 0 1 1)=some (v',H')/\eJ lo H' e1 e0 v' (X++[r])/\H.C<=H'.C/\(∀k,k<H.C->k<lo->H'.get k=H.get k):=by
 obtain⟨cs,h1,h2,h3⟩:=h;obtain⟨v',H',hA,hO,hL,hp⟩:=gf (t:=t) ht hz hzero hx.one (by rw[hby,h2];omega) h1 hlo hn;refine⟨v',H',hA,⟨cs++[x],hO,by simp[h2],fun j r' c hr hc=>?_⟩,hL,fun k hk hkl=>hp k hk fun g n he=>?_⟩
 ·have key:∀u l,aB lo H e0 u l->aB lo H' e0 u l:=fun u l hu=>h1.sg hu hne hL hp;rcases Xu j X.length with hj|hj
  ·rw[Xe hj]at hr;rw[Xe U]at hc;exact key _ _ (h3 j r' c hr hc)
  ·rw[Xp hj]at hr;rw[Xp U]at hc;have hj0:j-X.length=0:=by
    rcases Yp (j-X.length) with h|h
    ·exact h
    ·rw[Xf (by simp;omega)]at hr;cases hr
   have hj1:j-cs.length=0:=U;rw[hj0]at hr;rw[hj1]at hc;cases hr;cases hc;exact key _ _ hx
 ·rcases h1 with ⟨rfl,_⟩|⟨i,g2,a1,_,rfl,_⟩
  ·cases he
  ·have:=nnn.Z.inj he;omega
attribute [go_sem] Int.reduceToNat Int.reduceLE Int.reduceLT Int.reduceAdd Int.reduceSub Int.reduceMul Int.reduceEq Int.reduceNe Nat.reduceEqDiff Nat.reducePow Nat.reduceDiv Nat.reduceMod Nat.reduceAdd Nat.reduceMul Nat.reduceSub Nat.reduceLT Nat.reduceLeDiff reduceIte reduceCtorEq
end Go.Hx
namespace Go.Hx
variable {P:Program} {G:Nat->Option (List nnn)} {Γ Γ':aA} {H H' H1 H2:nnl} {w w':World}
variable {g id:Nat}{e:TypeId}{K:nnf->nnl->Prop}{v v':nnn}
inductive nnO (id g:Nat):nnn->nnn->Prop
  |same (v:nnn):nnO id g v v
  |hole:nnO id g (.Z id g 0 0 1) (.Z id (g+1) 0 0 1)
  |L {len:Nat} {c c':List nnn} (hl:c'.length=c.length) (h:∀i (h:i<c.length) (h':i<c'.length),nnO id g c[i] c'[i]):nnO id g (.L len c) (.L len c')
  |agg {c c':List nnn} (hl:c'.length=c.length) (h:∀i (h:i<c.length) (h':i<c'.length),nnO id g c[i] c'[i]):nnO id g (.agg c) (.agg c')
def nnO.sound {cells:List nnn}(E:Evo Γ H1 w Γ H2 w)(hn:H1.C<=H2.C)(hg1:H1.get id=some (.O g e cells))(hg2:H2.get id=some (.O (g+1) e []))
     (hb:nnO id g v v'):∀ {cv:Value},nnc P Γ H1 w v cv->nnc P Γ H2 w v' cv:=by
  induction hb with
  |same v=>exact fun h=>h.aU E hn
  |hole =>
    intro cv h;cases h with
    |Z h =>
      obtain⟨h0,h1,h2,h3⟩:=h;have h4:=(h3 _ _ _ hg1).2 rfl;refine .Z ⟨Xd h0 hn,h1,by rw[hg2];simp,fun g' e' c' h=>?_⟩;rw[hg2]at h;cases h;refine⟨aaz,fun _=>?_⟩;cases hΓ:Γ id with
      |none=>rw[hΓ]at h4;exact h4
      |some y =>
        obtain⟨b,base,n⟩:=y;rw[hΓ]at h4;obtain⟨a,cap,a1,a2,a3,a4⟩:=h4;exact⟨a,cap,a1,a2,aaw,a4⟩
  |L hl hc ih =>
    intro cv h;cases h with
    |nu a cap =>
      rename_i c';obtain rfl:=Xc (l:=c') (by simpa using hl);exact .nu a cap
    |L hb hlt hlen hcs hcell hrel=>exact .L hb hlt hlen U hcell fun i a b=>ih i U a (hrel i U b)
  |agg hl hc ih =>
    intro cv h;cases h with
    |agg hcs hrel=>exact .agg U fun i a b=>ih i U a (hrel i U b)
def Bt {cells:List nnn}(hg:H.get id=some (.O g e cells)):Evo Γ H w Γ (H.upd id (.O (g+1) e [])) w :=
  ⟨rfl,rfl,rfl,aaz,fun b _ ho=>⟨rfl,ho⟩,fun j _ _ x' hx=>by
    rw[ae]at hx;by_cases hj:j=id
    · rw[W8 hj]at hx;cases hx;exact⟨_,by rw[hj];exact hg,by simp[Blk.le]⟩
    · rw[W7 hj]at hx;exact⟨x',hx,Blk.le_refl _ _ _⟩,fun _ _=>rfl,.refl _,.refl _ _⟩
def Ji {cells:List nnn}(R:nng P G Γ H w)(hg:H.get id=some (.O g e cells)):nng P G Γ (H.upd id (.O (g+1) e [])) w:=by
  have E:Evo Γ H w Γ (H.upd id (.O (g+1) e [])) w:=Bt hg;have hne:∀j b,(H.upd id (.O (g+1) e [])).get j=some b->(∀g e c,b≠.O g e c)->H.get j=some b:=fun j b h hb=>by
    rw[ae]at h;by_cases hj:j=id
    · rw[W8 hj]at h;cases h;exact absurd rfl (hb _ _ _)
    · rw[W7 hj]at h;exact h
  refine
    { O:=fun j g1 e1 c1 h1=>?_
      loop:=fun j st pend n env ps asg body h1=>?_
      mp:=fun j es h1=>R.mp j es (hne j _ h1 fun _ _ _ h=>by cases h)
      nj:=fun j h1=>R.nj j (hne j _ h1 fun _ _ _ h=>by cases h)
      inj:=R.inj
      nB:=fun j x hx=>?_
      lt:=R.lt
      C:=fun j y hy=>?_
      nz:=fun g cells h=>(R.nz g cells h).aU E (Nat.le_refl _)
      nN:=R.nN }
  · rw[ae]at h1;by_cases hj:j=id
    · rw[W8 hj]at h1;cases h1;have h2:=R.O id g e cells hg;rw[hj];cases hΓ:Γ id with
      |none=>rfl
      |some y =>
        obtain⟨b,base,n⟩:=y;rw[hΓ]at h2;obtain⟨c,a1,a2,a3,_⟩:=h2;exact⟨c,a1,a2,by simp only[List.length_nil];omega,fun i h=>absurd h (Xo _)⟩
    · rw[W7 hj]at h1;have h2:=R.O j g1 e1 c1 h1;cases hΓ:Γ j with
      |none=>rw[hΓ]at h2;exact h2
      |some y =>
        obtain⟨b,base,n⟩:=y;rw[hΓ]at h2;obtain⟨c,a1,a2,a3,a4⟩:=h2;exact⟨c,a1,a2,a3,fun i h=>let ⟨cv,b1,b2⟩:=a4 i h;⟨cv,b1,b2.aU E aaz⟩⟩
  · obtain⟨b,rr,a1,a2,a3,a4,a5,a6,a7,a8,a9⟩:=R.loop j st pend n env ps asg body (hne j _ h1 fun _ _ _ h=>by cases h);exact⟨b,rr,a1,a2,a3,a4,a5,a6,a7,a8,fun t ht=>(a9 t ht).aU E aaz⟩
  · rw[ae];split
    · exact⟨_,rfl⟩
    · exact R.nB j x hx
  · rw[ae]at hy;rw[aw];by_cases hj:j=id
    · rw[hj];exact R.C id _ hg
    · rw[W7 hj]at hy;exact R.C j y hy
def ar.hole (hG:dS G)(ho:nnd H H2){cells:List nnn}(hid:H.C<=id)(hg:H2.get id=some (.O g e cells)){v2:nnn}
    (hv:Fz (fun j=>H.C<=j/\j≠id) H2 H2.C v v') (hb:nnO id g v' v2)
    (hk:∀H',H'.C=H2.C->(∀j,j<H.C->H'.get j=H.get j)->H'.get id=some (.O (g+1) e [])->K (.ret v2) H'):ar P G H K v H2:=by
  obtain⟨H1,hH1⟩:∃H1:nnl,H1=⟨fun j=>if j=id\/j<H.C then H2.get j else none,H2.C⟩:=⟨_,rfl⟩
  have g1:H1.get id=some (.O g e cells):=by rw[hH1];exact(W8 (.inl rfl)).trans hg
  refine⟨v2,H1.upd id (.O (g+1) e []),fun Γ w R=>?_,by rw[aw,hH1];exact ho.C,hk _ (by rw[aw,hH1]) (fun j hj=>?_) (by rw[ae,W8 rfl])⟩
  · have hc:=R.nb;have F : FzH (fun j=>H.C≤j∧j≠id) H2 H1:=by
      refine⟨fun j hj=>?_,fun j b hj hb=>?_,fun j hj hn=>?_⟩
      · rw[hH1];exact W7 fun h=>h.elim hj.2 fun h=>by have:=hj.1;omega
      · have hjj : j=id∨j<H.C:=by
          by_cases h:j=id
          · exact .inl h
          · exact .inr (Yu fun h2=>hj ⟨h2,h⟩)
        have h1:H1.get j=some b:=(by rw[hH1];exact(W8 hjj).trans hb);have hnx:H1.C=H2.C:=(by rw[hH1]);have hbb:=hc.below j b hb;refine⟨by rw[hnx];exact hc.lt j b hb,b,h1,?_⟩;rw[hnx];cases b with
        |nj=>trivial
        |mp=>rfl
        |O g e cells=>exact⟨rfl,rfl,rfl,fun i h _=>.dead (hbb i h)⟩
        |loop st pend n env ps asg body=>exact⟨rfl,rfl,rfl,rfl,rfl,rfl,rfl,fun t ht=>.dead (hbb t ht)⟩
      · rw[hH1];show (if j=id\/j<H.C then H2.get j else none)=none;split
        · exact hn
        · rfl
    have R1:nng P G (dP (fun j=>H.C<=j/\j≠id) Γ) H1 w:=F.rel hG R;have E1:Evo Γ H2 w (dP (fun j=>H.C<=j/\j≠id) Γ) H1 w:=F.aU;have E2:Evo (dP (fun j=>H.C<=j/\j≠id) Γ) H1 w (dP (fun j=>H.C<=j/\j≠id) Γ) (H1.upd id (.O (g+1) e [])) w:=Bt g1;refine⟨_,Ji R1 g1,E1.trans (by rw[hH1];exact Nat.le_refl _) E2,fun cv h=>?_⟩;have hv':Fz (fun j=>H.C<=j/\j≠id) H2 H1.C v v':=(by rw[hH1];exact hv);exact hb.sound E2 aaz g1 (by rw[ae,W8 rfl]) (hv'.sound R F h)
  · rw[ae,W7 U,hH1];exact(W8 (.inr hj)).trans (ho.ng j hj)
inductive Emp (H:nnl):nnn->nnn->Prop
  |same (v:nnn):Emp H v v
  |Z {id g o z:Nat} {e:TypeId} {cells:List nnn} (hg:H.get id=some (.O g e cells)):Emp H (.Z id g o 0 z) (.L 0 [])
  |L {len:Nat} {c c':List nnn} (hl:c'.length=c.length) (h:∀i (h:i<c.length) (h':i<c'.length),Emp H c[i] c'[i]):Emp H (.L len c) (.L len c')
  |agg {c c':List nnn} (hl:c'.length=c.length) (h:∀i (h:i<c.length) (h':i<c'.length),Emp H c[i] c'[i]):Emp H (.agg c) (.agg c')
def Emp.sound (hb:Emp H v v'):∀ {cv:Value},nnc P Γ H w v cv->nnc P Γ H w v' cv:=by
  induction hb with
  |same v=>exact fun h=>h
  | @Z id g o z e cells hg =>
    intro cv h;cases h with
    |Z h =>
      obtain⟨_,_,_,h3⟩:=h;have h4:=(h3 _ _ _ hg).2 rfl;cases hΓ:Γ id with
      |none =>
        rw[hΓ]at h4;obtain⟨_,_,rfl⟩:=h4;exact .nu none 0
      |some y =>
        obtain⟨b,base,n⟩:=y;rw[hΓ]at h4;obtain⟨a,cap,rfl,_⟩:=h4;exact .nu _ _
  |L hl hc ih =>
    intro cv h;cases h with
    |nu a cap =>
      rename_i c';obtain rfl:=Xc (l:=c') (by simpa using hl);exact .nu a cap
    |L hb hlt hlen hcs hcell hrel=>exact .L hb hlt hlen U hcell fun i a b=>ih i U a (hrel i U b)
  |agg hl hc ih =>
    intro cv h;cases h with
    |agg hcs hrel=>exact .agg U fun i a b=>ih i U a (hrel i U b)
def af.emp {f:FuncId}{args args':List nnn}(hl:args'.length=args.length)(hv:∀i (h:i<args.length) (h':i<args'.length),Emp H args[i] args'[i])
    (h:af P G f args' H K):af P G f args H K :=
  ⟨h.1,fun Γ w cargs R hr=>h.2 Γ w cargs R ⟨by have:=hr.1;omega,fun i a b=>(hv i U a).sound (hr.2 i U b)⟩⟩
end Go.Hx
