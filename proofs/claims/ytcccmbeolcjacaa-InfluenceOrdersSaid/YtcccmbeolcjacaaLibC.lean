/-
  An evaluator of code on abstract states, made for the kernel. Own work: no program stands in this text.
-/
import Derived.Test.YtcccmbeolcjacaaLibB
import Derived.ProofKit
import Derived.SevenTiedAt
import Derived.RecoverIn
import Derived.MakeChecks
import Derived.OpenShut
set_option linter.all false
namespace Go.Hx
inductive BT (α:Type) where
 |nil
 |node (v:Option α) (l r:BT α)
inductive Tb where
 |L (gen:Nat) (elem:TypeId) (cells:List S1)
 |loop (st:LoopState) (pend:Option Code) (n:Nat) (env:BT S1) (ps:Array Tmp) (asg body:Code)
 |mp (es:List (Int × Int))
structure EH where
 hp:BT Tb
 nx:Nat
inductive RR where
 |ev (x:AX) (env:BT S1) (h:EH)
 |ret (v:S1) (h:EH)
 |panic (h:EH)
abbrev R:=Option RR
noncomputable def dK:BT S1->Nat->Option S1 :=
 BT.rec (motive:=fun _=>Nat->Option S1) (fun _=>none) (fun v _ _ gl gr n =>
  Nat.rec (motive:=fun _=>Option S1) v (fun m _=>Nat.rec (motive:=fun _=>Option S1) (gl (Nat.div m 2)) (fun _ _=>gr (Nat.div m 2)) (Nat.mod m 2)) n)
noncomputable def aW:BT Tb->Nat->Option Tb :=
 BT.rec (motive:=fun _=>Nat->Option Tb) (fun _=>none) (fun v _ _ gl gr n =>
  Nat.rec (motive:=fun _=>Option Tb) v (fun m _=>Nat.rec (motive:=fun _=>Option Tb) (gl (Nat.div m 2)) (fun _ _=>gr (Nat.div m 2)) (Nat.mod m 2)) n)
noncomputable def qZ:Nat->Nat->S1->(BT S1->R)->R :=
 Nat.rec (motive:=fun _=>Nat->S1->(BT S1->R)->R) (fun _ _ _=>none) (fun _ ih n x k =>
  Nat.rec (motive:=fun _=>R) (k (.node (some x) .nil .nil)) (fun m _=>Nat.rec (motive:=fun _=>R) (ih (Nat.div m 2) x fun l=>k (.node none l .nil)) (fun _ _=>ih (Nat.div m 2) x fun r=>k (.node none .nil r)) (Nat.mod m 2)) n)
noncomputable def kj:BT S1->Nat->S1->(BT S1->R)->R :=
 BT.rec (motive:=fun _=>Nat->S1->(BT S1->R)->R) (qZ 20) (fun v l r sl sr n x k =>
  Nat.rec (motive:=fun _=>R) (k (.node (some x) l r)) (fun m _=>Nat.rec (motive:=fun _=>R) (sl (Nat.div m 2) x fun l=>k (.node v l r)) (fun _ _=>sr (Nat.div m 2) x fun r=>k (.node v l r)) (Nat.mod m 2)) n)
noncomputable def ra:Nat->Nat->Tb->(BT Tb->R)->R :=
 Nat.rec (motive:=fun _=>Nat->Tb->(BT Tb->R)->R) (fun _ _ _=>none) (fun _ ih n x k =>
  Nat.rec (motive:=fun _=>R) (k (.node (some x) .nil .nil)) (fun m _=>Nat.rec (motive:=fun _=>R) (ih (Nat.div m 2) x fun l=>k (.node none l .nil)) (fun _ _=>ih (Nat.div m 2) x fun r=>k (.node none .nil r)) (Nat.mod m 2)) n)
noncomputable def fk:BT Tb->Nat->Tb->(BT Tb->R)->R :=
 BT.rec (motive:=fun _=>Nat->Tb->(BT Tb->R)->R) (ra 20) (fun v l r sl sr n x k =>
  Nat.rec (motive:=fun _=>R) (k (.node (some x) l r)) (fun m _=>Nat.rec (motive:=fun _=>R) (sl (Nat.div m 2) x fun l=>k (.node v l r)) (fun _ _=>sr (Nat.div m 2) x fun r=>k (.node v l r)) (Nat.mod m 2)) n)
noncomputable def cK (n:Nat)(k:Nat->R):R:=Nat.rec (motive:=fun _=>R) (k 0) (fun m _=>k (Nat.succ m)) n
noncomputable def lx (i:Int)(k:Int->R):R:=Int.rec (motive:=fun _=>R) (fun n=>cK n fun n=>k (.ofNat n)) (fun n=>cK n fun n=>k (.negSucc n)) i
noncomputable def vd (b:Bool)(k:Bool->R):R:=Bool.rec (motive:=fun _=>R) (k false) (k true) b
noncomputable def fm:List S1->(List S1->R)->R :=
 List.rec (motive:=fun _=>(List S1->R)->R) (fun k=>k []) (fun x _ ih k=>ih fun l=>k (x :: l))
noncomputable def rf:List (Int × Int)->(List (Int × Int)->R)->R :=
 List.rec (motive:=fun _=>(List (Int × Int)->R)->R) (fun k=>k []) (fun p _ ih k=>Prod.casesOn (motive:=fun _=>R) p fun a b=>lx a fun a=>lx b fun b=>ih fun l=>k ((a,b) :: l))
noncomputable def ve (v:Value)(k:Value->R):R:=match v with
 |.int i n=>lx n fun n=>k (.int i n)
 |.bool b=>vd b fun b=>k (.bool b)
 |v=>k v
noncomputable def vf (v:Value)(k:S1->R):R:=ve v fun v=>k (.lit v)
noncomputable def vg (n:Nat)(cs:List S1)(k:S1->R):R:=cK n fun n=>fm cs fun cs=>k (.M n cs)
noncomputable def vh (a b c d e:Nat)(k:S1->R):R:=cK a fun a=>cK b fun b=>cK c fun c=>cK d fun d=>cK e fun e=>k (.V a b c d e)
noncomputable def vj (a b c:Nat)(k:S1->R):R:=cK a fun a=>cK b fun b=>cK c fun c=>k (.Y a b c)
noncomputable def vk (cs:List S1)(n:Nat)(k:S1->R):R:=cK n fun n=>fm cs fun cs=>k (.nb cs n)
noncomputable def vl (cs:List S1)(k:S1->R):R:=fm cs fun cs=>k (.agg cs)
noncomputable def vm (cs:List S1)(k:S1->R):R:=fm cs fun cs=>k (.nc cs)
noncomputable def vn (f:FuncId)(a b:List S1)(k:S1->R):R:=cK f fun f=>fm a fun a=>fm b fun b=>k (.nl f a b)
noncomputable def vo (n:Nat)(k:S1->R):R:=cK n fun n=>k (.ng n)
noncomputable def iY:S1->(S1->R)->R:=fun v=>S1.casesOn (motive_1:=fun _=>(S1->R)->R) v vf vg vh vj vk vl vm vn vo
noncomputable def aB (env:BT S1):Env:=fun t=>Option.casesOn (motive:=fun _=>S1) (dK env t) (.lit undef) fun v=>v
noncomputable def Tb.iZ:Tb->S7
 |.L g e c=>.L g e c
 |.loop st p n env ps a b=>.loop st p n (aB env) ps a b
 |.mp es=>.mp es
noncomputable def ao (h:EH):S2:=⟨fun j=>(aW h.hp j).map Tb.iZ,h.nx⟩
noncomputable def eH (env:BT S1)(d:Option Tmp)(v:S1)(k:BT S1->R):R :=
 Option.casesOn (motive:=fun _=>R) d (k env) fun d=>kj env d v k
noncomputable def vp (G:Nat->Option (List S1))(g:Nat)(k:S1->R):R :=
 Option.casesOn (motive:=fun _=>R) (G g) (k (.lit (.pointer (some ⟨g,0,none⟩)))) fun cells=>fm cells fun cells=>k (.nb cells 0)
noncomputable def vq (env:BT S1)(t:Tmp)(k:S1->R):R:=Option.casesOn (motive:=fun _=>R) (dK env t) (k (.lit undef)) k
noncomputable def bV (G:Nat->Option (List S1))(env:BT S1)(x:Operand)(k:S1->R):R :=
 Operand.casesOn (motive:=fun _=>R) x (fun t=>vq env t k) (fun v=>k (.lit v)) (fun g=>vp G g k) (fun f=>k (.nl f [] []))
noncomputable def km (G:Nat->Option (List S1))(env:BT S1)(l:List Operand):(List S1->R)->R :=
 List.rec (motive:=fun _=>(List S1->R)->R) (fun k=>k []) (fun x _ ih k=>bV G env x fun x=>ih fun l=>k (x :: l)) l
inductive OR where
 |fail
 |val (v:S1)
 |nk (v:S1) (r g:Nat) (e:TypeId) (cells:List S1) (fresh:Bool)
 |effM (v:S1) (r:Nat) (es:List (Int × Int)) (fresh:Bool)
noncomputable def OR.opt (o:Option S1):OR:=Option.casesOn (motive:=fun _=>OR) o .fail .val
noncomputable def oT (k:IntKind)(i:Int):Int :=
 match k with
 |.i64=>Int.casesOn (motive:=fun _=>Int) i
   (fun n=>Bool.casesOn (motive:=fun _=>Int) (Nat.ble n 9223372036854775807) (IntKind.i64.wrap (.ofNat n)) (.ofNat n))
   (fun n=>Bool.casesOn (motive:=fun _=>Int) (Nat.ble n 9223372036854775807) (IntKind.i64.wrap (.negSucc n)) (.negSucc n))
 |k=>k.wrap i
noncomputable def oU (a b:Int):Bool :=
 Int.casesOn (motive:=fun _=>Bool) a
  (fun m=>Int.casesOn (motive:=fun _=>Bool) b (fun n=>Nat.ble (Nat.succ m) n) fun _=>false)
  (fun m=>Int.casesOn (motive:=fun _=>Bool) b (fun _=>true) fun n=>Nat.ble (Nat.succ n) m)
noncomputable def oV (a b:Int):Bool :=
 Int.casesOn (motive:=fun _=>Bool) a
  (fun m=>Int.casesOn (motive:=fun _=>Bool) b (fun n=>Nat.beq m n) fun _=>false)
  (fun m=>Int.casesOn (motive:=fun _=>Bool) b (fun _=>false) fun n=>Nat.beq m n)
noncomputable def vr (P:Program)(h:EH)(t:TypeId)(a:S1):Option S1 :=
 match a with
 |.Y id gen off=>match aW h.hp id with
  |some (.L g _ cells)=>Bool.casesOn (motive:=fun _=>Option S1) (Nat.beq g gen) none (dO P t cells off)
  |_=>none
 |.nb cells off=>dO P t cells off
 |_=>none
noncomputable def mM (P:Program)(h:EH)(t:TypeId)(a v:S1):OR :=
 match a with
 |.Y id gen off=>match aW h.hp id with
  |some (.L g e cells)=>Bool.casesOn (motive:=fun _=>OR) (Nat.beq g gen) .fail
    (if v.cells.length=P.cellsOf t/\v.cells.all S1.one=true/\off+v.cells.length<=cells.length then .nk (.lit undef) id g e (setAt cells off v.cells) false else .fail)
  |_=>.fail
 |_=>.fail
noncomputable def oX (h:EH)(f:FP)(r:Option (S1 × S2)):OR :=
 match r with
 |none=>.fail
 |some (v,H')=>match f.nk with
  | []=>.val v
  |r :: _=>match H'.get r with
   |some (.L g e c)=>.nk v r g e c (Nat.beq r h.nx)
   |some (.mp es)=>.effM v r es (Nat.beq r h.nx)
   |_=>.fail
noncomputable def vt (h:EH)(k:S1->EH->R)(o:OR):R :=
 OR.casesOn (motive:=fun _=>R) o none (fun v=>iY v fun v=>k v h)
  (fun v r g e c fresh=>cK r fun r=>cK g fun g=>fm c fun c=>fk h.hp r (Tb.L g e c) fun hp=>iY v fun v=>k v ⟨hp,Bool.casesOn (motive:=fun _=>Nat) fresh h.nx (Nat.succ h.nx)⟩)
  (fun v r es fresh=>cK r fun r=>rf es fun es=>fk h.hp r (Tb.mp es) fun hp=>iY v fun v=>k v ⟨hp,Bool.casesOn (motive:=fun _=>Nat) fresh h.nx (Nat.succ h.nx)⟩)
structure GD where
 z:S1
 ok:S1->Bool
structure EP where
 P:Program
 G:Nat->Option (List S1)
 gd:FuncId->Option GD
  /-- What is known already of a function's calls. -/
 known:FuncId->Option (List (List S1 × S1))
  /-- What a call of a function without a body comes to. -/
 ext:FuncId->Option (List S1->Option S1):=fun _=>none
noncomputable def bF (f:S1->Option (S1 × List Nat))(l:List S1):Option (List S1 × List Nat) :=
 List.rec (motive:=fun _=>Option (List S1 × List Nat)) (some ([],[])) (fun x _ r=>match f x,r with
  |some (y,a),some (l,b)=>some (y :: l,a++b)
  |_,_=>none) l
noncomputable def fU (h:EH)(fuel:Nat):S1->Option (S1 × List Nat) :=
 Nat.rec (motive:=fun _=>S1->Option (S1 × List Nat)) (fun _=>none) (fun _ ih v=>match v with
  |.lit v=>some (.lit v,[])
  |.M n c=>(bF ih c).map fun p=>(.M n p.1,p.2)
  |.nb c o=>(bF ih c).map fun p=>(.nb p.1 o,p.2)
  |.agg c=>(bF ih c).map fun p=>(.agg p.1,p.2)
  |.nc c=>(bF ih c).map fun p=>(.nc p.1,p.2)
  |.nl f a b=>match bF ih a,bF ih b with
   |some p,some q=>some (.nl f p.1 q.1,p.2++q.2)
   |_,_=>none
  |.V id g o l z=>match aW h.hp id with
   |some (.L g' _ cells)=>if g'=g/\o+l*z<=cells.length then (bF ih ((cells.drop o).take (l*z))).map fun p=>(.M l p.1,id :: p.2) else none
   |_=>none
  |.Y id g o=>match aW h.hp id with
   |some (.L g' _ (x :: cells))=>if g'=g then (bF ih (x :: cells)).map fun p=>(.nb p.1 o,id :: p.2) else none
   |_=>none
  |.ng _=>none) fuel
noncomputable def ja (f:S1->Option S1)(l:List S1):Option (List S1) :=
 List.rec (motive:=fun _=>Option (List S1)) (some []) (fun x _ r=>match f x,r with
  |some y,some l=>some (y :: l)
  |_,_=>none) l
noncomputable def ly (h:EH)(fuel:Nat):S1->Option S1 :=
 Nat.rec (motive:=fun _=>S1->Option S1) (fun _=>none) (fun _ ih v=>match v with
  |.lit v=>some (.lit v)
  |.agg c=>(ja ih c).map .agg
  |.nc c=>(ja ih c).map .nc
  |.V id g o l z=>match aW h.hp id with
   |some (.L g' _ cells)=>if g'=g/\o+l*z<=cells.length then (ja ih ((cells.drop o).take (l*z))).map (.M l) else none
   |_=>none
  |_=>none) fuel
noncomputable def eT (f:S1->S1->Bool)(a:List S1):List S1->Bool :=
 List.rec (motive:=fun _=>List S1->Bool) (fun b=>match b with|[]=>true|_=>false) (fun x _ ih b=>match b with
  | []=>false
  |y :: b=>match f x y with|true=>ih b|false=>false) a
noncomputable def vu (ih:S1->S1->Bool)(a b:S1):Bool:=match a,b with
 |.lit (.int k x),.lit (.int k' y)=>decide (k=k') && oV x y
 |.lit (.bool x),.lit (.bool y)=>x == y
 |.lit (.slice none 0 0),.lit (.slice none 0 0)=>true
 |.M n c,.M m d=>Nat.beq n m && eT ih c d
 |.nb c n,.nb d m=>Nat.beq n m && eT ih c d
 |.agg c,.agg d=>eT ih c d
 |.nc c,.nc d=>eT ih c d
 |.nl f a b,.nl g c d=>Nat.beq f g && (eT ih a c && eT ih b d)
 |_,_=>false
noncomputable def mO (fuel:Nat):S1->S1->Bool:=Nat.rec (motive:=fun _=>S1->S1->Bool) (fun _ _=>false) (fun _ ih=>vu ih) fuel
noncomputable def dV (l:List Nat)(n:Nat):Bool:=List.rec (motive:=fun _=>Bool) false (fun x _ ih=>Bool.rec (motive:=fun _=>Bool) ih true (Nat.beq x n)) l
noncomputable def vv (f:Nat->Bool)(l:List Nat):Bool:=List.rec (motive:=fun _=>Bool) true (fun x _ ih=>Bool.rec (motive:=fun _=>Bool) false ih (f x)) l
abbrev KF:=S1->List Nat->Option (List Nat)
noncomputable def iA (f:KF)(l:List S1):List Nat->Option (List Nat) :=
 List.rec (motive:=fun _=>List Nat->Option (List Nat)) (fun acc=>some acc) (fun x _ ih acc=>match f x acc with
  |some acc=>ih acc
  |none=>none) l
noncomputable def mQ (h:EH)(lo:Nat)(kp:List Nat)(rc:KF)(id:Nat)(acc:List Nat):Option (List Nat) :=
 match Nat.blt id lo with
 |true=>match dV kp id with
  |true=>some acc
  |false=>none
 |false=>match dV acc id with
  |true=>some acc
  |false=>match aW h.hp id with
   |some (.L _ _ cells)=>iA rc cells (id :: acc)
   |_=>none
noncomputable def jb (h:EH)(lo:Nat)(kp:List Nat)(fuel:Nat):KF :=
 Nat.rec (motive:=fun _=>KF) (fun _ _=>none) (fun _ ih v acc=>match v with
  |.lit _=>some acc
  |.M 0 []=>some acc
  |.agg c=>iA ih c acc
  |.nc c=>iA ih c acc
  |.nl _ a b=>match iA ih a acc with
   |some acc=>iA ih b acc
   |none=>none
  |.V id _ _ _ _=>mQ h lo kp ih id acc
  |.Y id _ _=>mQ h lo kp ih id acc
  |_=>none) fuel
abbrev CF:=S1->List Nat->(List Nat->R)->R
noncomputable def jc (f:CF)(l:List S1):List Nat->(List Nat->R)->R :=
 List.rec (motive:=fun _=>List Nat->(List Nat->R)->R) (fun acc k=>k acc) (fun x _ ih acc k=>f x acc fun acc=>ih acc k) l
noncomputable def rj (f:CF)(acc:List Nat)(k:List Nat->R)(b:Option Tb):R:=match b with
 |some (.L _ _ cells)=>jc f cells acc k
 |_=>k acc
noncomputable def vw (h:EH)(f:CF)(v:S1)(acc:List Nat)(k:List Nat->R):R:=match v with
 |.M _ c=>jc f c acc k
 |.nb c _=>jc f c acc k
 |.agg c=>jc f c acc k
 |.nc c=>jc f c acc k
 |.nl _ a b=>jc f a acc fun acc=>jc f b acc k
 |.V id _ _ _ _=>rj f acc k (aW h.hp id)
 |.Y id _ _=>rj f acc k (aW h.hp id)
 |_=>k acc
noncomputable def rm (h:EH)(fuel:Nat):CF:=Nat.rec (motive:=fun _=>CF) (fun _ acc k=>k acc) (fun _ ih v acc k=>match jb h 0 [] 40 v acc with
 |some acc=>k acc
 |none=>vw h ih v acc k) fuel
noncomputable def iB (h:EH)(kp:List Nat)(fuel:Nat):S1->Option (S1 × List Nat) :=
 Nat.rec (motive:=fun _=>S1->Option (S1 × List Nat)) (fun _=>none) (fun _ ih v=>match v with
  |.lit v=>some (.lit v,[])
  |.M n c=>(bF ih c).map fun p=>(.M n p.1,p.2)
  |.nb c o=>(bF ih c).map fun p=>(.nb p.1 o,p.2)
  |.agg c=>(bF ih c).map fun p=>(.agg p.1,p.2)
  |.nc c=>(bF ih c).map fun p=>(.nc p.1,p.2)
  |.nl f a b=>match bF ih a,bF ih b with
   |some p,some q=>some (.nl f p.1 q.1,p.2++q.2)
   |_,_=>none
  |.V id g o l z=>match dV kp id with
   |true=>some (.V id g o l z,[])
   |false=>match aW h.hp id with
    |some (.L g' _ cells)=>if g'=g/\o+l*z<=cells.length then (bF ih ((cells.drop o).take (l*z))).map fun p=>(.M l p.1,id :: p.2) else none
    |_=>none
  |.Y id g o=>match dV kp id with
   |true=>some (.Y id g o,[])
   |false=>match aW h.hp id with
    |some (.L g' _ (x :: cells))=>if g'=g then (bF ih (x :: cells)).map fun p=>(.nb p.1 o,id :: p.2) else none
    |_=>none
  |.ng _=>none) fuel
noncomputable def vy (h:EH)(l:List Nat)(k:BT Tb->R):BT Tb->R :=
 List.rec (motive:=fun _=>BT Tb->R) (fun t=>k t) (fun id _ ih t=>match aW h.hp id with
  |some b=>fk t id b ih
  |none=>none) l
noncomputable def vz (a b:Value):Bool:=match a,b with
 |.int k x,.int k' y=>decide (k=k') && oV x y
 |.bool x,.bool y=>x == y
 |.slice none 0 0,.slice none 0 0=>true
 |.pointer none,.pointer none=>true
 |_,_=>false
noncomputable def vA (ih:S1->S1->Bool)(a b:S1):Bool:=match a,b with
 |.lit x,.lit y=>vz x y
 |.M n c,.M m d=>Nat.beq n m && eT ih c d
 |.agg c,.agg d=>eT ih c d
 |.nc c,.nc d=>eT ih c d
 |.nl f a b,.nl g c d=>Nat.beq f g && (eT ih a c && eT ih b d)
 |.V a b c d e,.V a' b' c' d' e'=>Nat.beq a a' && (Nat.beq b b' && (Nat.beq c c' && (Nat.beq d d' && Nat.beq e e')))
 |.Y a b c,.Y a' b' c'=>Nat.beq a a' && (Nat.beq b b' && Nat.beq c c')
 |_,_=>false
noncomputable def vB (fuel:Nat):S1->S1->Bool:=Nat.rec (motive:=fun _=>S1->S1->Bool) (fun _ _=>false) (fun _ ih=>vA ih) fuel
noncomputable def vC (a b:Option Tb):Bool:=match a,b with
 |some (.L g e c),some (.L g' e' c')=>Nat.beq g g' && (Nat.beq e e' && eT (vB 40) c c')
 |_,_=>false
noncomputable def vD (h':EH)(lv:List Nat)(t:BT Tb)(k:BT Tb->R)(id:Nat):R:=match dV lv id with
 |true=>match aW h'.hp id with
  |some b=>fk t id b k
  |none=>none
 |false=>fk t id (.L 0 0 []) k
noncomputable def rp (h':EH)(lv:List Nat)(lo n:Nat):BT Tb->(BT Tb->R)->R :=
 Nat.rec (motive:=fun _=>BT Tb->(BT Tb->R)->R) (fun t k=>k t) (fun i ih t k=>cK (Nat.add lo i) (vD h' lv t fun t=>ih t k)) n
noncomputable def ru (k:BT S1->R)(l:List S1):Nat->BT S1->R :=
 List.rec (motive:=fun _=>Nat->BT S1->R) (fun _ t=>k t) (fun v _ ih i t=>kj t i v fun t=>cK (Nat.succ i) fun i=>ih i t) l
noncomputable def mR (h:EH):Option Nat->Bool
 |none=>true
 |some id=>match aW h.hp id with|some (.loop ..)=>true|_=>false
abbrev iC:=Option Nat->Nat->Code->BT S1->EH->R
section step
variable (E:EP) (ih:iC)
noncomputable def ry (nx:Nat)(v:S1)(h':EH):R:=Bool.rec (motive:=fun _=>R) none (iY v fun v=>some (.ret v h')) (Nat.ble nx h'.nx)
noncomputable def zk (rs:List ResultVar)(nx:Nat)(r:R):R:=match r with
 |some (.ev .normal env h')=>match dE E.P (ao h') (aB env) rs with
  |some vs=>ry nx (fR vs) h'
  |none=>none
 |some (.ev .ret env h')=>match dE E.P (ao h') (aB env) rs with
  |some vs=>ry nx (fR vs) h'
  |none=>none
 |some (.ev .panic _ h')=>Bool.rec (motive:=fun _=>R) none (some (.panic h')) (Nat.ble nx h'.nx)
 |_=>none
def zl (fn : Func) (c : Code) : Bool := fits fn.ntmps c && !(fn.name == "runtime.NumGoroutine")
noncomputable def rz (fn:Func)(c:Code)(args:List S1)(h:EH):R :=
 Bool.rec (motive:=fun _=>R) none (Bool.rec (motive:=fun _=>R) none (ru (fun env=>zk E fn.results.toList h.nx (ih none fn.ntmps c env h)) args 0 .nil) (Nat.ble args.length fn.ntmps)) (zl fn c)
noncomputable def ko (f:FuncId)(args:List S1)(h:EH):R :=
 Option.rec (motive:=fun _=>R) none (fun fn=>Option.rec (motive:=fun _=>R) none (fun c=>rz E ih fn c args h) fn.body) (E.P.funcs[f]?)
noncomputable def vE (f:FuncId)(args:List S1):Option S1:=match ko E ih f args ⟨.nil,0⟩ with
 |some (.ret v h')=>ly h' 40 v
 |_=>none
noncomputable def rA (args:List S1)(l:List (List S1 × S1)):Option S1 :=
 List.rec (motive:=fun _=>Option S1) none (fun p _ ih=>Bool.casesOn (motive:=fun _=>Option S1) (eT (mO 40) p.1 args) ih (some p.2)) l
noncomputable def vF (f:FuncId)(args:List S1):Option (Option S1):=match ko E ih f args ⟨.nil,0⟩ with
 |some (.ret v h')=>match ly h' 40 v with
  |some u=>some (some u)
  |none=>none
 |some (.panic _)=>some none
 |_=>none
noncomputable def zm (z:GD)(h:EH)(r:Option (Option S1)):R:=match r with
 |some (some u)=>Bool.rec (motive:=fun _=>R) none (some (.ret (.nc [u,.lit (.int .i64 0)]) h)) (z.ok u)
 |some none=>some (.ret (.nc [z.z,.lit (.int .i64 6)]) h)
 |none=>none
noncomputable def zn (z:GD)(args:List S1)(h:EH):R:=match args with
 | [.nl g [] cap]=>match bF (fU h 40) cap with
  |some p=>Bool.rec (motive:=fun _=>R) none (zm z h (vF E ih g p.1)) (p.2.all fun r=>Nat.blt r h.nx)
  |none=>none
 |_=>none
noncomputable def rB (k:BT S1->R):List Tmp->List S1->BT S1->R
 |p :: ps,v :: vs,e=>kj e p v fun e=>rB k ps vs e
 | [],[],e=>k e
 |_,_,_=>none
noncomputable def oY (id:Nat)(st:LoopState)(pend:Option Code)(b:Bool)(h2:EH):R:=match aW h2.hp id with
 |some (.loop _ _ n env ps asg body)=>fk h2.hp id (Tb.loop st pend n env ps asg body) fun hp=>some (.ret (.lit (.bool b)) ⟨hp,h2.nx⟩)
 |_=>none
noncomputable def endRound (id:Nat)(r:R):R:=match r with
 |some (.ev .normal _ h2)=>oY id .ready none true h2
 |some (.ev .ret _ h2)=>oY id .done (some .ret) false h2
 |some (.ev (.exit i) _ h2)=>oY id .done (some (.exit i)) false h2
 |_=>none
noncomputable def zp (id n:Nat)(body:Code)(r:R):R:=match r with
 |some (.ev .normal e h1)=>match aW h1.hp id with
  |some (.loop .ready pend n2 env2 ps2 asg2 body2)=>fk h1.hp id (Tb.loop .busy pend n2 env2 ps2 asg2 body2) fun hp1=>endRound id (ih (some id) n body e ⟨hp1,h1.nx⟩)
  |_=>none
 |_=>none
def zq (v:Option S1)(b n:Nat):Bool:=match v with
 |none=>true
 |some _=>Nat.blt b n
noncomputable def okB:BT S1->Nat->Nat->Nat->Bool :=
 BT.rec (motive:=fun _=>Nat->Nat->Nat->Bool) (fun _ _ _=>true) (fun v _ _ fl fr a b n=>zq v b n && (fl (Nat.mul 2 a) (Nat.add a b) n && fr (Nat.mul 2 a) (Nat.add (Nat.mul 2 a) b) n))
noncomputable def zt (env:BT S1)(n:Nat)(ps:Array Tmp)(asg body:Code):Bool:=okB env 1 0 n && (fits n asg && (fits n body && ps.toList.all fun p=>decide (p<n)))
noncomputable def vG (id:Nat)(args:List S1)(h:EH):R :=
 match aW h.hp id with
 |some (.loop .ready _ n env ps asg body) =>
  Bool.rec (motive:=fun _=>R) none (rB (fun e=>zp ih id n body (ih (some id) n asg e h)) ps.toList args env) (zt env n ps asg body)
 |_=>none
noncomputable def zu (f:FuncId)(args:List S1)(h:EH)(l:List (List S1 × S1)):R :=
 match bF (fU h 40) args with
 |none=>none
 |some p=>match rA p.1 l with
  |some v=>some (.ret v h)
  |none=>ko E ih f args h
noncomputable def vI (f:FuncId)(first cap args:List S1)(h:EH):R :=
 match E.gd f with
 |none=>fm (first++args++cap) fun args=>match E.known f with
  |none=>ko E ih f args h
  |some l=>zu E ih f args h l
 |some z=>fm (first++args++cap) fun args=>zn E ih z args h
noncomputable def zw (e:List S1->Option S1)(fc args:List S1)(h:EH):R:=match fc with
 | []=>fm args fun args=>match e args with
  |some r=>iY r fun r=>some (.ret r h)
  |none=>none
 |_=>none
noncomputable def rC (fv:S1)(args:List S1)(h:EH):R :=
 match fv with
 |.nl f first cap=>match E.ext f with
  |none=>vI E ih f first cap args h
  |some e=>zw e (first++cap) args h
 |.ng id=>vG ih id args h
 |_=>none
noncomputable def zx (rd:Option Nat)(d:Option Tmp)(k:BT S1->EH->R)(env:BT S1)(r:R):R:=match r with
 |some (.ret v h')=>Bool.casesOn (motive:=fun _=>R) (mR h' rd) none (eH env d v fun env=>k env h')
 |some (.panic h')=>Bool.casesOn (motive:=fun _=>R) (mR h' rd) none (some (.ev .panic env h'))
 |_=>none
noncomputable def cP (d:Option Tmp)(k:BT S1->EH->R)(env:BT S1)(o:OR)(h:EH):R:=vt h (fun v h=>eH env d v fun env=>k env h) o
noncomputable def o9 (d:Option Tmp)(k:BT S1->EH->R)(env:BT S1)(h:EH)(kd:IntKind)(i:Int):R:=lx i fun i=>eH env d (.lit (.int kd i)) fun env=>k env h
noncomputable def jd (d:Option Tmp)(k:BT S1->EH->R)(env:BT S1)(h:EH)(b:Bool):R:=vd b fun b=>eH env d (.lit (.bool b)) fun env=>k env h
abbrev bI:=EP->iC->Option Nat->Option Tmp->(BT S1->EH->R)->BT S1->EH->R
end step
noncomputable def kq (x:Operand):bI:=fun E _ _ d k env h=>bV E.G env x fun v=>eH env d v fun env=>k env h
noncomputable def rD (e:TypeId)(x:Operand):bI:=fun E _ _ d k env h=>bV E.G env x fun v=>cP d k env (.nk (.Y h.nx 0 0) h.nx 0 e v.cells true) h
noncomputable def rE (t:TypeId)(parts:Array (Nat × Operand)):bI:=fun E _ _ d k env h =>
 km E.G env (parts.toList.map (·.2)) fun vs=>cP d k env (.opt (mj E.P t ((parts.toList.map (·.1)).zip vs))) h
noncomputable def rF (t:TypeId)(len:Nat)(parts:Array (Nat × Operand)):bI:=fun E _ _ d k env h =>
 km E.G env (parts.toList.map (·.2)) fun vs=>cP d k env (oX h ⟨[h.nx],[]⟩ (il E.P (ao h) h.nx t len ((parts.toList.map (·.1)).zip vs))) h
noncomputable def rG (t:TypeId)(a:Operand):bI:=fun E _ _ d k env h=>bV E.G env a fun a=>cP d k env (.opt (vr E.P h t a)) h
noncomputable def rH (t:TypeId)(a x:Operand):bI:=fun E _ _ d k env h =>
 Bool.rec (motive:=fun _=>R) none (bV E.G env a fun a=>bV E.G env x fun v=>cP d k env (mM E.P h t a v) h) (E.P.underlying t).isSome
abbrev iD:=IntKind->Int->Int->Option Tmp->(BT S1->EH->R)->BT S1->EH->R
noncomputable def IL:iD:=fun kd a b d k env h=>o9 d k env h kd (oT kd (Int.add a b))
noncomputable def IM:iD:=fun kd a b d k env h=>o9 d k env h kd (oT kd (Int.sub a b))
noncomputable def IN:iD:=fun kd a b d k env h=>o9 d k env h kd (oT kd (Int.mul a b))
noncomputable def IP:iD:=fun _ a b d k env h=>jd d k env h (oU a b)
noncomputable def IQ:iD:=fun _ a b d k env h=>jd d k env h (oU b a)
noncomputable def IR:iD:=fun _ a b d k env h=>jd d k env h (oU b a).not
noncomputable def IS:iD:=fun _ a b d k env h=>jd d k env h (oU a b).not
noncomputable def IT:iD:=fun _ a b d k env h=>jd d k env h (oV a b)
noncomputable def IU:iD:=fun _ a b d k env h=>jd d k env h (oV a b).not
noncomputable def pa (op:BinOp):Option iD:=match op with
 |.add=>some IL|.sub=>some IM|.mul=>some IN|.lss=>some IP|.gtr=>some IQ|.leq=>some IR|.geq=>some IS|.eql=>some IT|.neq=>some IU
 |_=>none
def lz:IntKind->Nat
 |.i8=>0|.i16=>1|.i32=>2|.i64=>3|.u8=>4|.u16=>5|.u32=>6|.u64=>7
noncomputable def rI (E:EP)(op:BinOp)(t:TypeId)(x y:Operand)(a b:S1)(d:Option Tmp)(k:BT S1->EH->R)(env:BT S1)(h:EH):R:=cP d k env (.opt (bh E.P op t x y a b)) h
noncomputable def zy (E:EP)(op:BinOp)(t:TypeId)(x y:Operand)(a b:S1)(d:Option Tmp)(k:BT S1->EH->R)(env:BT S1)(h:EH):R:=match gj (ao h) op a b with
 |none=>rI E op t x y a b d k env h
 |some true=>Bool.rec (motive:=fun _=>R) none (jd d k env h (op == .neq)) (jC (E.P.underlying t))
 |some false=>none
noncomputable def zz (E:EP)(op:BinOp)(t:TypeId)(x y:Operand)(a b:S1)(d:Option Tmp)(k:BT S1->EH->R)(env:BT S1)(h:EH):R :=
 match a,b with
 |.lit (.int kd a),.lit (.int kd' b)=>Bool.rec (motive:=fun _=>R) (rI E op t x y (.lit (.int kd a)) (.lit (.int kd' b)) d k env h) (Option.rec (motive:=fun _=>R) (rI E op t x y (.lit (.int kd a)) (.lit (.int kd' b)) d k env h) (fun f=>f kd a b d k env h) (pa op)) (Nat.beq (lz kd) (lz kd'))
 |a,b=>zy E op t x y a b d k env h
noncomputable def rJ (op:BinOp)(t:TypeId)(x y:Operand)(_:TypeId):bI:=fun E _ _ d k env h=>bV E.G env x fun a=>bV E.G env y fun b=>zz E op t x y a b d k env h
noncomputable def rK (fn:Fn)(first cap:Array Operand):bI:=fun E _ _ d k env h =>
 match fn with
 |.func f=>km E.G env first.toList fun a=>km E.G env cap.toList fun b=>eH env d (.nl f a b) fun env=>k env h
 |_=>none
noncomputable def rL (t:TypeId)(x i:Operand):bI:=fun E _ _ d k env h=>bV E.G env x fun x=>bV E.G env i fun i=>cP d k env (.opt (mH E.P (ao h) t x i)) h
noncomputable def lC (E:EP)(env:BT S1)(h:EH)(o:Op):OR:=oX h (bp E.P E.G (aB env) h.nx o) (ah E.P E.G (aB env) (ao h) h.nx o)
noncomputable def eU (o:Op):bI:=fun E _ _ d k env h=>cP d k env (lC E env h o) h
noncomputable def vJ (x:Operand):bI:=fun E _ _ _ _ env h=>match aj E.G (aB env) x with
 |.lit (.iface _ _)=>some (.ev .panic env h)
 |_=>none
noncomputable def vK (fv:Operand)(args:Array Operand):bI:=fun E ih rd d k env h =>
 km E.G env args.toList fun args=>bV E.G env fv fun fv=>zx rd d k env (rC E ih fv args h)
noncomputable def pe:bI:=fun _ _ _ _ _ _ _=>none
noncomputable def pf {α:Type}(_:α):bI:=pe
noncomputable def mS {α β:Type}(_:α)(_:β):bI:=pe
noncomputable def IV {α β γ:Type}(_:α)(_:β)(_:γ):bI:=pe
noncomputable def IW {α β γ δ:Type}(_:α)(_:β)(_:γ)(_:δ):bI:=pe
noncomputable def pg (v:S1)(r:Nat)(fresh:Bool)(b:Option S7):OR:=match b with
 |some (.L g e c)=>.nk v r g e c fresh
 |_=>.fail
noncomputable def rN (r:Nat)(fresh:Bool)(o:Option (S1 × S2)):OR:=match o with
 |some (v,H')=>pg v r fresh (H'.get r)
 |none=>.fail
noncomputable def rO (c a b:Operand):bI:=fun E _ _ d k env h=>bV E.G env c fun c=>match c with
 |.lit (.bool t)=>Bool.rec (motive:=fun _=>R) (bV E.G env b fun v=>eH env d v fun env=>k env h) (bV E.G env a fun v=>eH env d v fun env=>k env h) t
 |_=>none
noncomputable def rP (e:TypeId):bI:=fun E _ _ d k env h=>match bH E.P e with
 |some z=>cP d k env (.nk (.Y h.nx 0 0) h.nx 0 e z true) h
 |none=>none
noncomputable def rQ (x:Operand):bI:=fun E _ _ d k env h=>bV E.G env x fun x=>cP d k env (.opt (iq (ao h) x)) h
noncomputable def rR (op:UnOp)(_:TypeId)(x:Operand):bI:=fun E _ _ d k env h=>bV E.G env x fun x=>cP d k env (.opt (nY E.P op x)) h
noncomputable def rS (s t:TypeId)(x:Operand):bI:=fun E _ _ d k env h=>bV E.G env x fun x=>cP d k env (.opt (im E.P (ao h) s t x)) h
noncomputable def IX (t:TypeId)(x:Operand):bI:=eU (.makeInterface t x)
noncomputable def rT (t:TypeId)(l c:Operand):bI:=fun E _ _ d k env h=>bV E.G env l fun l=>bV E.G env c fun c=>cP d k env (rN h.nx true (gU E.P (ao h) h.nx t l c)) h
noncomputable def vL (G:Nat->Option (List S1))(env:BT S1)(x:Option Operand)(k:Option S1->R):R:=match x with
 |none=>k none
 |some x=>bV G env x fun v=>k (some v)
noncomputable def rU (t:TypeId)(x:Operand)(l u m:Option Operand):bI:=fun E _ _ d k env h=>match m with
 |none=>bV E.G env x fun x=>vL E.G env l fun l=>vL E.G env u fun u=>cP d k env (.opt (jr E.P (ao h) t x l u)) h
 |some _=>none
noncomputable def rV (t:TypeId)(x:Operand)(f:Nat):bI:=fun E _ _ d k env h=>bV E.G env x fun x=>cP d k env (.opt (mG E.P (ao h) t f x)) h
noncomputable def rW (t:TypeId)(x:Operand)(f:Nat):bI:=fun E _ _ d k env h=>bV E.G env x fun x=>cP d k env (.opt (yG E.P t f x)) h
noncomputable def rX (t:TypeId)(x i:Operand):bI:=fun E _ _ d k env h=>bV E.G env x fun x=>bV E.G env i fun i=>cP d k env (.opt (nZ E.P t x i)) h
noncomputable def rY (t:Operand)(i:Nat):bI:=fun E _ _ d k env h=>bV E.G env t fun t=>cP d k env (.opt (jt t i)) h
noncomputable def rZ (t:TypeId)(x:Operand):bI:=fun E _ _ d k env h=>bV E.G env x fun x=>cP d k env (.opt (iR E.P (ao h) t x)) h
noncomputable def zA (E:EP)(t u:TypeId)(s x:S1)(d:Option Tmp)(k:BT S1->EH->R)(env:BT S1)(h:EH):R:=match s with
 |.V id g o l z=>match bf E.P (ao h) h.nx t u s x with
  |some (.V _ g' o' l' z',H')=>Bool.rec (motive:=fun _=>R) (cP d k env (pg (.V id g' o' l' z') id false (H'.get id)) h) (cP d k env (.val (.V id g o l z)) h) (Nat.beq g' g)
  |_=>none
 |s=>match bf E.P (ao h) h.nx t u s x with
  |some (.V id' g' o' l' z',H')=>cP d k env (pg (.V id' g' o' l' z') h.nx true (H'.get h.nx)) h
  |some (.lit v,_)=>cP d k env (.val (.lit v)) h
  |_=>none
noncomputable def sd (t u:TypeId)(s x:Operand):bI:=fun E _ _ d k env h=>bV E.G env s fun s=>bV E.G env x fun x=>zA E t u s x d k env h
noncomputable def mT (c:Call)(b:Builtin):bI:=match b,c.argTypes.toList,c.args.toList with
 |.len,[t],[x]=>rZ t x
 |.append,[t,u],[s,x]=>sd t u s x
 |_,_,_=>eU (.call c)
noncomputable def zB (c:Call):bI:=match c.callee with
 |.value fv=>vK fv c.args
 |.builtin b=>mT c b
 |_=>pe
noncomputable def IY (t:TypeId)(m a x:Operand):bI:=eU (.insert t m a x)
noncomputable def IZ (t:TypeId)(x:Option Operand):bI:=eU (.makeMap t x)
noncomputable def I0 (t:TypeId)(x i:Operand)(ok:Bool):bI:=eU (.lookup t x i ok)
noncomputable def I1 (t:TypeId)(m a x:Operand):bI:=eU (.mapUpdate t m a x)
noncomputable def I2 (t:TypeId)(m a:Operand):bI:=eU (.mapEntry t m a)
noncomputable def I3 (t:TypeId)(m a x:Operand):bI:=eU (.entryStore t m a x)
noncomputable def se:Op->bI :=
 Op.rec (motive:=fun _=>bI) kq kq rO rP rD rE rF IY rG rH pf pf rQ rJ rR rS mS IX rK
  IZ mS rT rU rV rW rL rX I0 I1 I2 I3 mS mS pf IW rY zB pf pf vJ mS IV mS
section step
variable (E:EP) (ih:iC)
noncomputable def vM (all:Array Oper)(ρ:Env)(yes no:R)(jw:Nat × Bool):R :=
 match (all[jw.1]?).bind (·.dst) with
 |some d=>match ρ d with
  |.lit (.bool b)=>Bool.rec (motive:=fun _=>R) no yes (b == jw.2)
  |.lit _=>no
  |_=>none
 |none=>no
noncomputable def mU (all:Array Oper)(ρ:Env)(g:Option (Nat × Bool))(yes no:R):R:=Option.rec (motive:=fun _=>R) yes (vM all ρ yes no) g
noncomputable def mV (rd:Option Nat)(all:Array Oper)(l:List Oper):BT S1->EH->R :=
 List.rec (motive:=fun _=>BT S1->EH->R) (fun env h=>some (.ev .normal env h)) (fun o _ ihr env h =>
  mU all (aB env) o.guard (se o.op E ih rd o.dst ihr env h) (eH env o.dst (.lit undef) fun env=>ihr env h)) l
def I4 (bs:List Nat)(o:Oper):Nat:=(qD o).foldl (fun b j=>b |||(2 ^ j |||cJ bs j)) 0
def kr:List Oper->List Nat->List Nat
 | [],bs=>bs
 |o :: l,bs=>kr l (bs++[I4 bs o])
def ph (bs:List Nat):Nat->Nat
 |0=>0
 |k+1=>if cJ bs k=2 ^ k-1 then ph bs k else k+1
def vO (b:Nat)(f:FP)(acc:List (Nat × FP)):Bool:=acc.all fun p=>b.testBit p.1 ||(f.nk.all fun r=>!p.2.rs.contains r) && p.2.nk.all fun r=>!f.rs.contains r
noncomputable def zC (e:List S1->Option S1)(fc args:List S1)(h:EH)(k:S1->FP->EH->R):R:=match fc with
 | []=>fm args fun args=>match e args with
  |some v=>k v ⟨[],[]⟩ h
  |none=>none
 |_=>none
noncomputable def zD (h h':EH)(kp fz:List Nat)(v:S1)(k:S1->FP->EH->R):R :=
 match Nat.ble h.nx h'.nx,vv (fun id=>vC (aW h.hp id) (aW h'.hp id)) kp,jb h' h.nx kp 40 v [] with
 |true,true,some lv=>rp h' lv h.nx (Nat.sub h'.nx h.nx) h.hp fun hp=>cK h'.nx fun nx=>k v ⟨Ev.lk h.nx nx,kp++fz⟩ ⟨hp,nx⟩
 |_,_,_=>none
noncomputable def zE (f:FuncId)(kp fz:List Nat)(all:List S1)(h:EH)(k:S1->FP->EH->R)(hp:BT Tb):R:=match ko E ih f all ⟨hp,h.nx⟩ with
 |some (.ret v h')=>zD h h' kp fz v k
 |_=>none
noncomputable def zF (f:FuncId)(all:List S1)(h:EH)(k:S1->FP->EH->R)(kp:List Nat):R:=match bF (iB h kp 40) all with
 |some p=>Bool.rec (motive:=fun _=>R) none (vy h kp (zE E ih f kp p.2 p.1 h k) .nil) (p.2.all fun r=>Nat.blt r h.nx)
 |none=>none
noncomputable def sf (f:FuncId)(all:List S1)(h:EH)(k:S1->FP->EH->R):R:=jc (rm h 40) all [] (zF E ih f all h k)
noncomputable def zG (f:FuncId)(all:List S1)(h:EH)(k:S1->FP->EH->R)(l:List (List S1 × S1)):R:=match bF (fU h 40) all with
 |none=>sf E ih f all h k
 |some p=>match rA p.1 l with
  |some v=>Bool.rec (motive:=fun _=>R) none (k v ⟨[],p.2⟩ h) (p.2.all fun r=>Nat.blt r h.nx)
  |none=>sf E ih f all h k
noncomputable def zH (f:FuncId)(first cap args:List S1)(h:EH)(k:S1->FP->EH->R):R:=match E.gd f with
 |some _=>none
 |none=>fm (first++args++cap) fun all=>match E.known f with
  |none=>sf E ih f all h k
  |some l=>zG E ih f all h k l
noncomputable def vQ (fv:S1)(args:List S1)(h:EH)(k:S1->FP->EH->R):R:=match fv with
 |.nl f first cap=>match E.ext f with
  |none=>zH E ih f first cap args h k
  |some e=>zC e (first++cap) args h k
 |_=>none
abbrev mW:=List (Nat × FP)->BT S1->EH->R
noncomputable def sg (d:Option Tmp)(b i:Nat)(acc:List (Nat × FP))(k:mW)(env:BT S1)(f:FP)(o:OR)(h:EH):R :=
 Bool.casesOn (motive:=fun _=>R) (vO b f acc) none (vt h (fun v h=>eH env d v fun env=>k (dS i f acc) env h) o)
noncomputable def zI (d:Option Tmp)(b i:Nat)(acc:List (Nat × FP))(k:mW)(env:BT S1)(v:S1)(f:FP)(h:EH):R :=
 Bool.casesOn (motive:=fun _=>R) (vO b f acc) none (iY v fun v=>eH env d v fun env=>k (dS i f acc) env h)
noncomputable def sh (o:Oper)(b i:Nat)(acc:List (Nat × FP))(k:mW)(env:BT S1)(h:EH):R:=match o.op with
 |.call c=>match c.callee with
  |.value fv=>km E.G env c.args.toList fun args=>bV E.G env fv fun fv=>vQ E ih fv args h (zI o.dst b i acc k env)
  |_=>sg o.dst b i acc k env (bp E.P E.G (aB env) h.nx (.call c)) (lC E env h (.call c)) h
 |.panic _=>none
 |op=>sg o.dst b i acc k env (bp E.P E.G (aB env) h.nx op) (lC E env h op) h
noncomputable def sj (all:Array Oper)(tail:BT S1->EH->R)(l:List Oper):List Nat->Nat->mW :=
 List.rec (motive:=fun _=>List Nat->Nat->mW) (fun _ _ _ env h=>tail env h) (fun o _ ihr bs i acc env h=>match bs with
  | []=>none
  |b :: bs=>mU all (aB env) o.guard (sh E ih o b i acc (ihr bs (i+1)) env h) (eH env o.dst (.lit undef) fun env=>ihr bs (i+1) acc env h)) l
noncomputable def sk (rd:Option Nat)(ops:Array Oper)(bs:List Nat)(K:Nat)(env:BT S1)(h:EH):R :=
 Bool.casesOn (motive:=fun _=>R) (mC ops (bs.take K) K) none (sj E ih ops (mV E ih rd ops (ops.toList.drop K)) (ops.toList.take K) (bs.take K) 0 [] env h)
noncomputable def pj (rd:Option Nat)(n:Nat)(b:Code)(r:R):R:=match r with
 |some (.ev .normal e h)=>ih rd n b e h
 |r=>r
noncomputable def vR (id:Nat)(r:R):R:=match r with
 |some (.ev (.exit i) e h)=>Bool.casesOn (motive:=fun _=>R) (Nat.beq i id) (some (.ev (.exit i) e h)) (some (.ev .normal e h))
 |r=>r
noncomputable def mX (r:R):R:=match r with
 |some (.ev (.goto _) _ _)=>none
 |r=>r
noncomputable def vS (v:S1)(x y:R):R:=match v with
 |.lit (.bool b)=>Bool.casesOn (motive:=fun _=>R) b y x
 |_=>none
noncomputable def endLoop (env:BT S1)(h2:EH)(pend:Option Code)(hp3:BT Tb):R:=match pend with
 |none=>some (.ev .normal env ⟨hp3,h2.nx⟩)
 |some .ret=>some (.ev .ret env ⟨hp3,h2.nx⟩)
 |some (.exit i)=>some (.ev (.exit i) env ⟨hp3,h2.nx⟩)
 |_=>none
noncomputable def zJ (rd:Option Nat)(env:BT S1)(id:Nat)(r:R):R:=match r with
 |some (.ret _ h2)=>Bool.casesOn (motive:=fun _=>R) (mR h2 rd) none (match aW h2.hp id with
  |some (.loop .busy ..)=>none
  |some (.loop _ pend n2 env2 ps2 asg2 body2)=>fk h2.hp id (Tb.loop .exhausted pend n2 env2 ps2 asg2 body2) fun hp3=>endLoop env h2 pend hp3
  |_=>none)
 |some (.panic h2)=>Bool.casesOn (motive:=fun _=>R) (mR h2 rd) none (some (.ev .panic env h2))
 |_=>none
noncomputable def vT (rd:Option Nat)(n:Nat)(env:BT S1)(h:EH)(ps:Array Tmp)(asg body:Code)(v:S1):R:=match v with
 |.nl g first cap=>fk h.hp h.nx (Tb.loop .ready none n env ps asg body) fun hp1=>zJ rd env h.nx (fm (first++[.ng h.nx]++cap) fun args=>ko E ih g args ⟨hp1,Nat.succ h.nx⟩)
 |_=>none
end step
abbrev fE:=EP->iC->Option Nat->Nat->BT S1->EH->R
noncomputable def zK:fE:=fun _ _ _ _ env h=>some (.ev .normal env h)
noncomputable def I5 (_:Nat):fE:=zK
noncomputable def I6 (i:Nat):fE:=fun _ _ _ _ env h=>some (.ev (.exit i) env h)
noncomputable def I7:fE:=fun _ _ _ _ env h=>some (.ev .ret env h)
noncomputable def I9 (_:Nat):fE:=fun _ _ _ _ _ _=>none
noncomputable def Ja (_:String):fE:=fun _ _ _ _ _ _=>none
noncomputable def Jb (_:Nat)(ops:Array Oper)(dr:Bool):fE:=fun E ih rd _ env h =>
 Bool.rec (motive:=fun _=>R) (mV E ih rd ops ops.toList env h) (sk E ih rd ops (kr ops.toList []) (ph (kr ops.toList []) ops.toList.length) env h) dr
noncomputable def Jc (a b:Code):fE:=fun _ ih rd n env h=>pj ih rd n b (ih rd n a env h)
noncomputable def Jd (x:Operand)(a b:Code):fE:=fun E ih rd n env h=>vS (aj E.G (aB env) x) (ih rd n a env h) (ih rd n b env h)
noncomputable def Je (id:Nat)(b:Code):fE:=fun _ ih rd n env h=>vR id (ih rd n b env h)
noncomputable def Jf (b:Code):fE:=fun _ ih rd n env h=>mX (pj ih rd n (.loop b) (ih rd n b env h))
noncomputable def Jg (b:Code):fE:=fun _ ih rd n env h=>mX (ih rd n b env h)
noncomputable def Jh (f:Operand)(ps:Array Tmp)(asg body:Code):fE:=fun E ih rd n env h=>vT E ih rd n env h ps asg body (aj E.G (aB env) f)
noncomputable def Ji:Code->fE:=fun c=>Code.casesOn (motive:=fun _=>fE) c zK Jb Jc Jd Je Jf Jh I6 Jg I5 I9 I7 Ja
noncomputable def zL (E:EP)(ih:iC)(rd:Option Nat)(n:Nat)(c:Code)(env:BT S1)(h:EH):R:=Ji c E ih rd n env h
noncomputable def zM (E:EP)(fuel:Nat):iC:=Nat.rec (motive:=fun _=>iC) (fun _ _ _ _ _=>none) (fun _ ih=>zL E ih) fuel
noncomputable def zQ (E:EP)(fuel:Nat)(f:FuncId)(args:List S1):Option S1:=vE E (zM E fuel) f args
end Go.Hx
namespace Go.Hx
variable {P:Program} {G:Nat->Option (List S1)}
variable {k:BT S1->EH->R}{h:EH}{E:EP}{kd:IntKind}{o:Op}{d:Option Tmp}{r:RR}{v:S1}{H':S2}{t:TypeId}
def fV (n:Nat)(k:Nat->R):cK n k=k n:=by cases n<;>rfl
def ss (n:Int)(k:Int->R):lx n k=k n:=by
 cases n with
 |ofNat n=>show cK n (fun n=>k (.ofNat n))=_;rw[fV]
 |negSucc n=>show cK n (fun n=>k (.negSucc n))=_;rw[fV]
def zR (n:Bool)(k:Bool->R):vd n k=k n:=by cases n<;>rfl
def gq (l:List S1):∀(k:List S1->R),fm l k=k l:=by
 induction l with
 |nil=>intro k;rfl
 |cons x l ih=>intro k;exact ih _
def Jj (v:Value)(k:Value->R):ve v k=k v:=by
 unfold ve;split
 ·rw[ss]
 ·rw[zR]
 ·rfl
def Jk (l:List (Int × Int)):∀(k:List (Int × Int)->R),rf l k=k l:=by
 induction l with
 |nil=>intro k;rfl
 |cons p l ih =>
  intro k;obtain⟨a,b⟩:=p;show (lx a fun a=>lx b fun b=>rf l fun l=>k ((a,b) :: l))=_;rw[ss,ss,ih]
def mY (v:S1)(k:S1->R):iY v k=k v:=by
 cases v with
 |lit v=>show vf v k=_;unfold vf;rw[Jj]
 |M n cs=>show vg n cs k=_;unfold vg;rw[fV,gq]
 |V a b c d e=>show vh a b c d e k=_;unfold vh;simp only[fV]
 |Y a b c=>show vj a b c k=_;unfold vj;simp only[fV]
 |nb cs n=>show vk cs n k=_;unfold vk;rw[fV,gq]
 |agg cs=>show vl cs k=_;unfold vl;rw[gq]
 |nc cs=>show vm cs k=_;unfold vm;rw[gq]
 |nl f a b=>show vn f a b k=_;unfold vn;simp only[fV,gq]
 |ng n=>show vo n k=_;unfold vo;rw[fV]
def su (n:Nat):dK .nil n=none:=rfl
def Jl (v:Option S1)(l r:BT S1):dK (.node v l r) 0=v:=rfl
def je (v:Option S1)(l r:BT S1)(m:Nat):dK (.node v l r) (m+1)=if m % 2=0 then dK l (m / 2) else dK r (m / 2):=by
 show Nat.rec (motive:=fun _=>Option S1) (dK l (m / 2)) (fun _ _=>dK r (m / 2)) (m % 2)=_;rcases QE m with h|h<;>rw[h]<;>rfl
def vU (n:Nat):aW .nil n=none:=rfl
def jH (v:Option Tb)(l r:BT Tb)(m:Nat):aW (.node v l r) (m+1)=if m % 2=0 then aW l (m / 2) else aW r (m / 2):=by
 show Nat.rec (motive:=fun _=>Option Tb) (aW l (m / 2)) (fun _ _=>aW r (m / 2)) (m % 2)=_;rcases QE m with h|h<;>rw[h]<;>rfl
def kv {m n:Nat}(h:m % 2=n % 2):m / 2=n / 2↔m=n:=U
def Jm:∀(f n:Nat) (x:S1) (k:BT S1->R) (r:RR),qZ f n x k=some r->∃t,k t=some r/\∀m,dK t m=if m=n then some x else none:=by
 intro f
 induction f with
 |zero=>intro n x k r h;cases h
 |succ f ih =>
  intro n x k r h;cases n with
  |zero =>
   refine⟨_,h,fun m=>?_⟩;cases m with
   |zero=>rfl
   |succ m=>rw[je];simp[su]
  |succ n =>
   have h':Nat.rec (motive:=fun _=>R) (qZ f (n / 2) x fun l=>k (.node none l .nil)) (fun _ _=>qZ f (n / 2) x fun r=>k (.node none .nil r)) (n % 2)=some r:=h;rcases QE n with h2|h2<;>rw[h2]at h'
   ·obtain⟨t,h3,h4⟩:=ih _ _ _ _ h';refine⟨_,h3,fun m=>?_⟩;cases m with
    |zero=>rw[PC U];rfl
    |succ m =>
     rw[je,h4,su];split
     ·rename_i hm;simp only[QA,kv (hm.trans h2.symm)]
     ·rename_i hm;rw[PC];rintro hmn;have:m=n:=U;exact hm (this ▸ h2)
   ·obtain⟨t,h3,h4⟩:=ih _ _ _ _ h';refine⟨_,h3,fun m=>?_⟩;cases m with
    |zero=>rw[PC U];rfl
    |succ m =>
     rw[je,h4,su];split
     ·rename_i hm;rw[PC];rintro hmn;have:m=n:=U;omega
     ·rename_i hm;have hm':m % 2=n % 2:=U;simp only[QA,kv hm']
def vV:∀(t:BT S1) (n:Nat) (x:S1) (k:BT S1->R) (r:RR),kj t n x k=some r->∃t',k t'=some r/\∀m,dK t' m=if m=n then some x else dK t m:=by
 intro t
 induction t with
 |nil=>intro n x k r h;exact Jm 20 n x k r h
 |node v l r ihl ihr =>
  intro n x k rr h;cases n with
  |zero =>
   refine⟨_,h,fun m=>?_⟩;cases m with
   |zero=>rfl
   |succ m=>rw[je,je];simp
  |succ n =>
   have h':Nat.rec (motive:=fun _=>R) (kj l (n / 2) x fun l=>k (.node v l r)) (fun _ _=>kj r (n / 2) x fun r=>k (.node v l r)) (n % 2)=some rr:=h;rcases QE n with h2|h2<;>rw[h2]at h'
   ·obtain⟨t,h3,h4⟩:=ihl _ _ _ _ h';refine⟨_,h3,fun m=>?_⟩;cases m with
    |zero=>rw[PC U];rfl
    |succ m =>
     rw[je,je,h4];split
     ·rename_i hm;simp only[QA,kv (hm.trans h2.symm)]
     ·rename_i hm;rw[PC];rintro hmn;have:m=n:=U;exact hm (this ▸ h2)
   ·obtain⟨t,h3,h4⟩:=ihr _ _ _ _ h';refine⟨_,h3,fun m=>?_⟩;cases m with
    |zero=>rw[PC U];rfl
    |succ m =>
     rw[je,je,h4];split
     ·rename_i hm;rw[PC];rintro hmn;have:m=n:=U;omega
     ·rename_i hm;have hm':m % 2=n % 2:=U;simp only[QA,kv hm']
def Jn:∀(f n:Nat) (x:Tb) (k:BT Tb->R) (r:RR),ra f n x k=some r->∃t,k t=some r/\∀m,aW t m=if m=n then some x else none:=by
 intro f
 induction f with
 |zero=>intro n x k r h;cases h
 |succ f ih =>
  intro n x k r h;cases n with
  |zero =>
   refine⟨_,h,fun m=>?_⟩;cases m with
   |zero=>rfl
   |succ m=>rw[jH];simp[vU]
  |succ n =>
   have h':Nat.rec (motive:=fun _=>R) (ra f (n / 2) x fun l=>k (.node none l .nil)) (fun _ _=>ra f (n / 2) x fun r=>k (.node none .nil r)) (n % 2)=some r:=h;rcases QE n with h2|h2<;>rw[h2]at h'
   ·obtain⟨t,h3,h4⟩:=ih _ _ _ _ h';refine⟨_,h3,fun m=>?_⟩;cases m with
    |zero=>rw[PC U];rfl
    |succ m =>
     rw[jH,h4,vU];split
     ·rename_i hm;simp only[QA,kv (hm.trans h2.symm)]
     ·rename_i hm;rw[PC];rintro hmn;have:m=n:=U;exact hm (this ▸ h2)
   ·obtain⟨t,h3,h4⟩:=ih _ _ _ _ h';refine⟨_,h3,fun m=>?_⟩;cases m with
    |zero=>rw[PC U];rfl
    |succ m =>
     rw[jH,h4,vU];split
     ·rename_i hm;rw[PC];rintro hmn;have:m=n:=U;omega
     ·rename_i hm;have hm':m % 2=n % 2:=U;simp only[QA,kv hm']
def kx:∀(t:BT Tb) (n:Nat) (x:Tb) (k:BT Tb->R) (r:RR),fk t n x k=some r->∃t',k t'=some r/\∀m,aW t' m=if m=n then some x else aW t m:=by
 intro t
 induction t with
 |nil=>intro n x k r h;exact Jn 20 n x k r h
 |node v l r ihl ihr =>
  intro n x k rr h;cases n with
  |zero =>
   refine⟨_,h,fun m=>?_⟩;cases m with
   |zero=>rfl
   |succ m=>rw[jH,jH];simp
  |succ n =>
   have h':Nat.rec (motive:=fun _=>R) (fk l (n / 2) x fun l=>k (.node v l r)) (fun _ _=>fk r (n / 2) x fun r=>k (.node v l r)) (n % 2)=some rr:=h;rcases QE n with h2|h2<;>rw[h2]at h'
   ·obtain⟨t,h3,h4⟩:=ihl _ _ _ _ h';refine⟨_,h3,fun m=>?_⟩;cases m with
    |zero=>rw[PC U];rfl
    |succ m =>
     rw[jH,jH,h4];split
     ·rename_i hm;simp only[QA,kv (hm.trans h2.symm)]
     ·rename_i hm;rw[PC];rintro hmn;have:m=n:=U;exact hm (this ▸ h2)
   ·obtain⟨t,h3,h4⟩:=ihr _ _ _ _ h';refine⟨_,h3,fun m=>?_⟩;cases m with
    |zero=>rw[PC U];rfl
    |succ m =>
     rw[jH,jH,h4];split
     ·rename_i hm;rw[PC];rintro hmn;have:m=n:=U;omega
     ·rename_i hm;have hm':m % 2=n % 2:=U;simp only[QA,kv hm']
def sy (env:BT S1)(t:Tmp):aB env t=(dK env t).getD (.lit undef):=by
 unfold aB;cases dK env t<;>rfl
def zS {env env':BT S1}{d:Nat}(h:∀m,dK env' m=if m=d then some v else dK env m):aB env'=aD (aB env) (some d) v:=by
 funext t
 simp only[sy,h,aD];split<;>rfl
def jI {env:BT S1}{k:BT S1->R}(h:eH env d v k=some r):∃env',k env'=some r/\aB env'=aD (aB env) d v:=by
 cases d with
 |none=>exact⟨env,h,rfl⟩
 |some d =>
  obtain⟨t,h1,h2⟩:=vV _ _ _ _ _ h;exact⟨t,h1,zS h2⟩
def cr (env:BT S1)(x:Operand)(k:S1->R):bV G env x k=k (aj G (aB env) x):=by
 cases x with
 |tmp t =>
  show vq env t k=_;unfold vq;simp only[aj,sy];cases dK env t<;>rfl
 |const v=>rfl
 |global g =>
  show vp G g k=_;unfold vp;simp only[aj];cases G g with
  |none=>rfl
  |some c=>exact gq _ _
 |func f=>rfl
def mZ (env:BT S1)(l:List Operand):∀(k:List S1->R),km G env l k=k (l.map (aj G (aB env))):=by
 induction l with
 |nil=>intro k;rfl
 |cons x l ih =>
  intro k;show bV G env x (fun x=>km G env l fun l=>k (x :: l))=_;rw[cr,ih];rfl
def zT (env:BT S1)(x:Option Operand)(k:Option S1->R):vL G env x k=k (x.map (aj G (aB env))):=by
 cases x with
 |none=>rfl
 |some x=>exact cr _ _ _
def m8 (o:OR)(h:EH)(v:S1)(H':S2):Prop :=
 match o with
 |.fail=>False
 |.val u=>v=u/\H'=ao h
 |.nk u r g e c fr=>v=u/\H'=⟨fun j=>if j=r then some (.L g e c) else (ao h).get j,if fr then h.nx+1 else h.nx⟩
 |.effM u r es fr=>v=u/\H'=⟨fun j=>if j=r then some (.mp es) else (ao h).get j,if fr then h.nx+1 else h.nx⟩
def sA {hp:BT Tb}{r nx:Nat}{b:Tb}(hs:∀m,aW hp m=if m=r then some b else aW h.hp m):ao ⟨hp,nx⟩=⟨fun j=>if j=r then some b.iZ else (ao h).get j,nx⟩:=by
 unfold ao;congr 1
 funext j
 show Option.map Tb.iZ (aW hp j)=_;rw[hs];split<;>rfl
def zU {o:Option S1}(hr:m8 (.opt o) h v H'):o=some v/\H'=ao h:=by
 cases o with
 |none=>exact hr.elim
 |some u=>exact⟨by rw[hr.1],hr.2⟩
def vW (k:IntKind)(i:Int):oT k i=k.wrap i:=by
 unfold oT;split
 ·have hr:∀j:Int,-9223372036854775808<=j->j<=9223372036854775807->IntKind.i64.wrap j=j:=fun j h1 h2=>PD j U;cases i with
  |ofNat n =>
   show Bool.casesOn (motive:=fun _=>Int) (Nat.ble n 9223372036854775807) _ _=_;cases hb:Nat.ble n 9223372036854775807 with
   |false=>rfl
   |true =>
    have:=Ra hb;exact(hr (Int.ofNat n) (by simp only[RN];omega) (by simp only[RN];omega)).symm
  |negSucc n =>
   show Bool.casesOn (motive:=fun _=>Int) (Nat.ble n 9223372036854775807) _ _=_;cases hb:Nat.ble n 9223372036854775807 with
   |false=>rfl
   |true =>
    have:=Ra hb;exact(hr (Int.negSucc n) U U).symm
 ·rfl
def sB (a b:Int):oU a b=decide (a<b):=by
 cases a with
 |ofNat m=>cases b with
  |ofNat n =>
   show Nat.ble (m+1) n=_;rw[Rs,Nat.ble_eq,Qz];simp;omega
  |negSucc n =>
   show false=_
   symm
   rw[Ri];simp only[RN];omega
 |negSucc m=>cases b with
  |ofNat n =>
   show true=_
   symm
   rw[Qz];simp only[RN];omega
  |negSucc n =>
   show Nat.ble (n+1) m=_;rw[Rs,Nat.ble_eq,Qz];omega
def sC (a b:Int):oV a b=decide (a=b):=by
 cases a with
 |ofNat m=>cases b with
  |ofNat n =>
   show Nat.beq m n=_;rw[Rs,Qz];constructor
   ·intro h;rw[PX h]
   ·intro h;rw[Int.ofNat.inj h];exact Rp n
  |negSucc n =>
   show false=_
   symm
   rw[Ri];intro h;cases h
 |negSucc m=>cases b with
  |ofNat n =>
   show false=_
   symm
   rw[Ri];intro h;cases h
  |negSucc n =>
   show Nat.beq m n=_;rw[Rs,Qz];constructor
   ·intro h;rw[PX h]
   ·intro h;rw[Int.negSucc.inj h];exact Rp n
def vX {env:BT S1}{i:Int}(hr:o9 d k env h kd i=some r):∃env',aB env'=aD (aB env) d (.lit (.int kd i))/\k env' h=some r:=by
 unfold o9 at hr;rw[ss]at hr;obtain⟨env',h1,h2⟩:=jI hr;exact⟨env',h2,h1⟩
def lD {env:BT S1}{b:Bool}(hr:jd d k env h b=some r):∃env',aB env'=aD (aB env) d (.lit (.bool b))/\k env' h=some r:=by
 unfold jd at hr;rw[zR]at hr;obtain⟨env',h1,h2⟩:=jI hr;exact⟨env',h2,h1⟩
def zV (a b:Int):(decide (b<a)).not=decide (a<=b):=by
 rw[Rs];simp
def Jo {op:BinOp}{x y:Operand}{f:iD}(hf:pa op=some f){a b:Int}{env:BT S1}
  (hr:f kd a b d k env h=some r):
  ∃v env',bh P op t x y (.lit (.int kd a)) (.lit (.int kd b))=some v/\aB env'=aD (aB env) d v/\k env' h=some r:=by
 unfold pa at hf;split at hf
 ·cases hf;obtain⟨env',h1,h2⟩:=vX hr;exact⟨_,env',yH,by rw[h1,vW];rfl,h2⟩
 ·cases hf;obtain⟨env',h1,h2⟩:=vX hr;exact⟨_,env',yI,by rw[h1,vW];rfl,h2⟩
 ·cases hf;obtain⟨env',h1,h2⟩:=vX hr;exact⟨_,env',yJ,by rw[h1,vW];rfl,h2⟩
 ·cases hf;obtain⟨env',h1,h2⟩:=lD hr;exact⟨_,env',yK,by rw[h1,sB],h2⟩
 ·cases hf;obtain⟨env',h1,h2⟩:=lD hr;exact⟨_,env',yM,by rw[h1,sB],h2⟩
 ·cases hf;obtain⟨env',h1,h2⟩:=lD hr;exact⟨_,env',yL,by rw[h1,sB,zV],h2⟩
 ·cases hf;obtain⟨env',h1,h2⟩:=lD hr;exact⟨_,env',yQ,by rw[h1,sB,zV],h2⟩
 ·cases hf;obtain⟨env',h1,h2⟩:=lD hr;exact⟨_,env',yR,by rw[h1,sC],h2⟩
 ·cases hf;obtain⟨env',h1,h2⟩:=lD hr;exact⟨_,env',yS,by rw[h1,sC],h2⟩
 ·cases hf
def Jp {a b:IntKind}(h:Nat.beq (lz a) (lz b)=true):a=b:=by
 have:=PX h;cases a<;>cases b<;>first|rfl|simp[lz]at this
def Jq {a:S1}(hr:vr P h t a=some v):eb P (ao h) t a=some v:=by
 unfold vr at hr;split at hr
 ·rename_i id gen off;split at hr
  ·rename_i g e cells hg;show (match (ao h).get id with|some (.L g _ cells)=>if g=gen then dO P t cells off else none|_=>none)=some v;have:(ao h).get id=some (.L g e cells):=(by show Option.map Tb.iZ (aW h.hp id)=_;rw[hg];rfl);rw[this];cases hb:Nat.beq g gen with
   |false=>rw[hb]at hr;cases hr
   |true =>
    rw[hb]at hr;simp only;rw[PG (PX hb)];exact hr
  ·cases hr
 ·exact hr
 ·cases hr
def Jr {a x:S1}(hr:m8 (mM P h t a x) h v H'):v=.lit undef/\fN P (ao h) t a x=some H':=by
 unfold mM at hr;split at hr
 ·rename_i id gen off;split at hr
  ·rename_i g e cells hg;have hget:(ao h).get id=some (.L g e cells):=(by show Option.map Tb.iZ (aW h.hp id)=_;rw[hg];rfl);cases hb:Nat.beq g gen with
   |false=>rw[hb]at hr;exact hr.elim
   |true =>
    rw[hb]at hr;simp only at hr;split at hr
    ·rename_i hc;refine⟨hr.1,?_⟩;have hgg:=PX hb;show (match (ao h).get id with|some (.L g e cells)=>if g=gen/\x.cells.length=P.cellsOf t/\x.cells.all S1.one=true/\off+x.cells.length<=cells.length then some ((ao h).upd id (.L g e (setAt cells off x.cells))) else none|_=>none)=some H';rw[hget];simp only;rw[PG ⟨hgg,hc⟩,hr.2];rfl
    ·exact hr.elim
  ·exact hr.elim
 ·exact hr.elim
def VH (h:EH):Prop:=∀id b,aW h.hp id=some b->id<h.nx
def VH.wf (hv:VH h):ef (ao h):=fun id b hb=>by
 have hb':Option.map Tb.iZ (aW h.hp id)=some b:=hb;cases hg:aW h.hp id with
 |none=>rw[hg]at hb';cases hb'
 |some x=>exact hv id x hg
def lE (o:OR)(h:EH):Prop :=
 match o with
 |.nk _ r _ _ _ fr=>if fr then r=h.nx else r<h.nx
 |.effM _ r _ fr=>if fr then r=h.nx else r<h.nx
 |_=>True
def zW {k:S1->EH->R}{o:OR}(hv:VH h)(hok:lE o h)(hr:vt h k o=some r):∃v h',m8 o h v (ao h')/\VH h'/\k v h'=some r:=by
 cases o with
 |fail=>cases hr
 |val v =>
  have hr':iY v (fun v=>k v h)=some r:=hr;rw[mY]at hr';exact⟨v,h,⟨rfl,rfl⟩,hv,hr'⟩
 |nk v r' g e c fr =>
  have hr':(cK r' fun r'=>cK g fun g=>fm c fun c=>fk h.hp r' (.L g e c) fun hp=>iY v fun v=>k v ⟨hp,Bool.casesOn (motive:=fun _=>Nat) fr h.nx (Nat.succ h.nx)⟩)=some r:=hr;rw[fV,fV,gq]at hr';obtain⟨hp,h1,h2⟩:=kx _ _ _ _ _ hr';rw[mY]at h1;refine⟨v,_,⟨rfl,?_⟩,?_,h1⟩
  ·rw[sA h2];cases fr<;>rfl
  ·intro id b hb;rw[h2]at hb;cases fr with
   |false =>
    have hlt:r'<h.nx:=hok;show id<h.nx;split at hb
    ·omega
    ·exact hv id b hb
   |true =>
    have hlt:r'=h.nx:=hok;show id<h.nx+1;split at hb
    ·omega
    ·have:=hv id b hb;omega
 |effM v r' es fr =>
  have hr':(cK r' fun r'=>rf es fun es=>fk h.hp r' (.mp es) fun hp=>iY v fun v=>k v ⟨hp,Bool.casesOn (motive:=fun _=>Nat) fr h.nx (Nat.succ h.nx)⟩)=some r:=hr;rw[fV,Jk]at hr';obtain⟨hp,h1,h2⟩:=kx _ _ _ _ _ hr';rw[mY]at h1;refine⟨v,_,⟨rfl,?_⟩,?_,h1⟩
  ·rw[sA h2];cases fr<;>rfl
  ·intro id b hb;rw[h2]at hb;cases fr with
   |false =>
    have hlt:r'<h.nx:=hok;show id<h.nx;split at hb
    ·omega
    ·exact hv id b hb
   |true =>
    have hlt:r'=h.nx:=hok;show id<h.nx+1;split at hb
    ·omega
    ·have:=hv id b hb;omega
def Plain (P:Program)(G:Nat->Option (List S1))(o:Op)(d:Option Tmp)(k:BT S1->EH->R)(env:BT S1)(h:EH)(r:RR):Prop :=
 ∃v env' h',ah P G (aB env) (ao h) h.nx o=some (v,ao h')/\VH h'/\aB env'=aD (aB env) d v/\k env' h'=some r
def gZ {env:BT S1}{x:OR}(hv:VH h)(hok:lE x h)(hrel:∀v H',m8 x h v H'->ah P G (aB env) (ao h) h.nx o=some (v,H'))
  (hr:cP d k env x h=some r):Plain P G o d k env h r:=by
 obtain⟨v,h',h1,h2,h3⟩:=zW hv hok hr;obtain⟨env',h4,h5⟩:=jI h3;exact⟨v,env',h',hrel _ _ h1,h2,h5,h4⟩
def po {env:BT S1}(hv:VH h)(hrel:ah P G (aB env) (ao h) h.nx o=some (v,ao h))
  (hr:eH env d v (fun env=>k env h)=some r):Plain P G o d k env h r:=by
 obtain⟨env',h4,h5⟩:=jI hr;exact⟨v,env',h,hrel,hv,h5,h4⟩
def zX (o:Option S1)(h:EH):lE (.opt o) h:=by cases o<;>trivial
def fW {env:BT S1}{x:Option S1}(hv:VH h)(hrel:ah P G (aB env) (ao h) h.nx o=x.map fun v=>(v,ao h))
  (hr:cP d k env (.opt x) h=some r):Plain P G o d k env h r :=
 gZ hv (zX _ _) (fun v H' hx=>by
  obtain⟨h1,h2⟩:=zU hx;rw[hrel,h1,h2];rfl) hr
def zY (ρ:Env)(id:Nat)(o:Op):(bp P G ρ id o).nk=[]\/∃r,(bp P G ρ id o).nk=[r]:=by
 have hid:∀v:S1,aE v=[]\/∃r,aE v=[r]:=fun v=>by cases v<;>first|exact .inl rfl|exact .inr ⟨_,rfl⟩
 have hb:∀(b:Builtin) (ats:List TypeId) (args:List S1),(gm P id b ats args).nk=[]\/∃r,(gm P id b ats args).nk=[r]:=fun b ats args=>by
  unfold gm;split
  ·split
   ·exact hid _
   ·exact .inr ⟨_,rfl⟩
  ·exact hid _
  ·exact hid _
  ·exact .inl rfl
  ·exact .inl rfl
 have hidM:∀v:S1,cW v=[]\/∃r,cW v=[r]:=fun v=>by cases v<;>first|exact .inl rfl|exact .inr ⟨_,rfl⟩
 unfold bp;split<;>first|exact .inl rfl|exact .inr ⟨_,rfl⟩|exact hid _|exact hidM _|skip
 split
 ·exact hb _ _ _
 ·exact .inl rfl
def sD {env:BT S1}(hv:VH h):lE (lC E env h o) h/\∀v H',m8 (lC E env h o) h v H'->ah E.P E.G (aB env) (ao h) h.nx o=some (v,H'):=by
 unfold lC oX;split
 ·exact⟨trivial,fun _ _ h=>h.elim⟩
 ·rename_i u H2 hop;obtain⟨e,al,h1,h2,h3,h4,h5,_⟩:=uL (hv.wf) hop;split
  ·rename_i hf;refine⟨trivial,fun v H' hx=>?_⟩;have he:e=none:=by
    cases e with
    |none=>rfl
    |some kb =>
     have h3':=(h3 kb.1 kb.2 rfl).1;have hf':(bp E.P E.G (aB env) (ao h).C o).nk=[]:=hf;rw[hf']at h3';cases h3'
   have hal:al=false:=by
    cases al with
    |false=>rfl
    |true =>
     obtain⟨b,hb⟩:=h4 rfl;rw[he]at hb;cases hb
   obtain⟨rfl,rfl⟩:=hx;subst he;subst hal;rw[hop];congr 2;have h1':H2.get=(ao h).get:=h1;have h2':H2.C=(ao h).C:=h2;cases H2;simp only at h1' h2';rw[h1',h2']
  ·rename_i r l hf;split
   ·rename_i g e' c hg;have hf':(bp E.P E.G (aB env) (ao h).C o).nk=r :: l:=hf;have hl:l=[]:=by
     rcases zY (P:=E.P) (G:=E.G) (aB env) (ao h).C o with h6|⟨r',h6⟩
     ·rw[hf']at h6;cases h6
     ·rw[hf']at h6;cases h6;rfl
    subst hl;have key:H2=⟨fun j=>if j=r then some (.L g e' c) else (ao h).get j,if al then (ao h).C+1 else (ao h).C⟩/\(if al=true then r=h.nx else r<h.nx):=by
     cases e with
     |none =>
      have hal:al=false:=by
       cases al with
       |false=>rfl
       |true=>obtain⟨b,hb⟩:=h4 rfl;cases hb
      subst hal;have h1':H2.get=(ao h).get:=h1;have h2':H2.C=(ao h).C:=h2;have hgr:(ao h).get r=some (.L g e' c):=(by rw[<- h1'];exact hg);refine⟨?_,hv.wf r _ hgr⟩;cases H2;simp only at h1' h2';rw[h1',h2'];congr 1
      funext j
      split
      ·rename_i hj;rw[hj,hgr]
      ·rfl
     |some kb =>
      obtain⟨kk,b⟩:=kb;obtain⟨h7,h8⟩:=h3 kk b rfl;rw[hf']at h7;have hkk:kk=r:=(by simpa using h7);subst hkk;have hb:b=.L g e' c:=by
       rw[h1]at hg;simp only[cX,if_true]at hg;exact Option.some.inj hg
      subst hb;refine⟨?_,?_⟩
      ·cases H2;simp only at h1 h2;rw[h1,h2];rfl
      ·cases al with
       |true =>
        obtain⟨b,hb⟩:=h4 rfl;simp only[Option.some.injEq,Prod.mk.injEq]at hb;exact hb.1
       |false=>exact h5 _ (h8 rfl)
    have hbeq:Nat.beq r h.nx=al:=by
     cases al with
     |true=>rw[show r=h.nx from key.2];exact Rp _
     |false =>
      have:r<h.nx:=key.2;cases hb:Nat.beq r h.nx with
      |false=>rfl
      |true=>have:=PX hb;omega
    rw[hbeq];refine⟨?_,fun v H' hx=>?_⟩
    ·have:=key.2;cases al<;>exact this
    ·obtain⟨rfl,rfl⟩:=hx;rw[hop,key.1];rfl
   ·rename_i es hg;have hf':(bp E.P E.G (aB env) (ao h).C o).nk=r :: l:=hf;have hl:l=[]:=by
     rcases zY (P:=E.P) (G:=E.G) (aB env) (ao h).C o with h6|⟨r',h6⟩
     ·rw[hf']at h6;cases h6
     ·rw[hf']at h6;cases h6;rfl
    subst hl;have key:H2=⟨fun j=>if j=r then some (.mp es) else (ao h).get j,if al then (ao h).C+1 else (ao h).C⟩/\(if al=true then r=h.nx else r<h.nx):=by
     cases e with
     |none =>
      have hal:al=false:=by
       cases al with
       |false=>rfl
       |true=>obtain⟨b,hb⟩:=h4 rfl;cases hb
      subst hal;have h1':H2.get=(ao h).get:=h1;have h2':H2.C=(ao h).C:=h2;have hgr:(ao h).get r=some (.mp es):=(by rw[<- h1'];exact hg);refine⟨?_,hv.wf r _ hgr⟩;cases H2;simp only at h1' h2';rw[h1',h2'];congr 1
      funext j
      split
      ·rename_i hj;rw[hj,hgr]
      ·rfl
     |some kb =>
      obtain⟨kk,b⟩:=kb;obtain⟨h7,h8⟩:=h3 kk b rfl;rw[hf']at h7;have hkk:kk=r:=(by simpa using h7);subst hkk;have hb:b=.mp es:=by
       rw[h1]at hg;simp only[cX,if_true]at hg;exact Option.some.inj hg
      subst hb;refine⟨?_,?_⟩
      ·cases H2;simp only at h1 h2;rw[h1,h2];rfl
      ·cases al with
       |true =>
        obtain⟨b,hb⟩:=h4 rfl;simp only[Option.some.injEq,Prod.mk.injEq]at hb;exact hb.1
       |false=>exact h5 _ (h8 rfl)
    have hbeq:Nat.beq r h.nx=al:=by
     cases al with
     |true=>rw[show r=h.nx from key.2];exact Rp _
     |false =>
      have:r<h.nx:=key.2;cases hb:Nat.beq r h.nx with
      |false=>rfl
      |true=>have:=PX hb;omega
    rw[hbeq];refine⟨?_,fun v H' hx=>?_⟩
    ·have:=key.2;cases al<;>exact this
    ·obtain⟨rfl,rfl⟩:=hx;rw[hop,key.1];rfl
   ·exact⟨trivial,fun _ _ h=>h.elim⟩
def kz {ih:iC}{rd:Option Nat}{env:BT S1}(hv:VH h)(hr:eU o E ih rd d k env h=some r):Plain E.P E.G o d k env h r :=
 gZ hv (sD hv).1 (sD hv).2 hr
end Go.Hx
namespace Go.Hx
variable {E:EP} {ih:iC} {rd:Option Nat} {d:Option Tmp} {k:BT S1->EH->R} {env:BT S1} {h:EH} {r:RR}
variable {parts:Array (Nat × Operand)}{f g:Nat}{a i x:Operand}{P:Program}{v:S1}{H H':S2}{e t u:TypeId}
def zZ {c:List S1}:lE (.nk v h.nx g e c true) h:=rfl
def z6 (parts:Array (Nat × Operand))(f:Operand->S1):(parts.toList.map (·.1)).zip ((parts.toList.map (·.2)).map f)=parts.toList.map fun p=>(p.1,f p.2):=by
 induction parts.toList with
 |nil=>rfl
 |cons p l ih=>simp only[List.map_cons,RI,ih]
def vY {b:S7}(h:H.lay H.C b=some H'):H'=⟨fun j=>if j=H.C then some b else H.get j,H.C+1⟩:=by
 unfold S2.lay at h;rw[PG rfl]at h;exact(Option.some.inj h).symm
def z7 {x:Option (S1 × S2)}(hx:∀u H2,x=some (u,H2)->∃g e c,H2=⟨fun j=>if j=h.nx then some (.L g e c) else (ao h).get j,h.nx+1⟩):
  lE (rN h.nx true x) h/\(m8 (rN h.nx true x) h v H'->x=some (v,H')):=by
 unfold rN;split
 ·rename_i u H2;obtain⟨g,e,c,rfl⟩:=hx u H2 rfl;simp only[pg,if_true];refine⟨rfl,fun hr=>?_⟩;obtain⟨rfl,rfl⟩:=hr;rfl
 ·exact⟨trivial,fun hr=>hr.elim⟩
def Js (hv:VH h)(hr:kq x E ih rd d k env h=some r):Plain E.P E.G (.move x) d k env h r:=by
 unfold kq at hr;rw[cr]at hr;exact po hv rfl hr
def Jt (hv:VH h)(hr:kq x E ih rd d k env h=some r):Plain E.P E.G (.assign x) d k env h r:=by
 unfold kq at hr;rw[cr]at hr;exact po hv rfl hr
def Ju (hv:VH h)(hr:rD e x E ih rd d k env h=some r):Plain E.P E.G (.box e x) d k env h r:=by
 unfold rD at hr;rw[cr]at hr;refine gZ hv zZ (fun v H' hx=>?_) hr;obtain⟨rfl,rfl⟩:=hx;show ((ao h).lay (ao h).C (.L 0 e (aj E.G (aB env) x).cells)).map (fun H'=>(S1.Y h.nx 0 0,H'))=_;unfold S2.lay;rw[PG rfl];rfl
def Jv (hv:VH h)(hr:rE t parts E ih rd d k env h=some r):Plain E.P E.G (.build t parts) d k env h r:=by
 unfold rE at hr;rw[mZ,z6]at hr;exact fW hv rfl hr
def Jw {len:Nat}(hv:VH h)(hr:rF t len parts E ih rd d k env h=some r):Plain E.P E.G (.buildSlice t len parts) d k env h r:=by
 unfold rF at hr;rw[mZ,z6]at hr;have hform:∀u H2,il E.P (ao h) h.nx t len (parts.toList.map fun p=>(p.1,aj E.G (aB env) p.2))=some (u,H2)->∃e c,H2=⟨fun j=>if j=h.nx then some (.L 0 e c) else (ao h).get j,h.nx+1⟩:=by
  intro u H2 hb;unfold il at hb;split at hb
  ·split at hb
   ·simp only[PE,an,Prod.mk.injEq]at hb;obtain⟨z,_,c,_,H3,hl,_,rfl⟩:=hb;exact⟨_,_,vY hl⟩
   ·cases hb
  ·cases hb
 refine gZ hv ?_ (fun v H' hx=>?_) hr
 ·unfold oX;split
  ·trivial
  ·rename_i u H2 hb;obtain⟨e,c,rfl⟩:=hform _ _ hb;simp only[if_true,show Nat.beq h.nx h.nx=true from Rp _];rfl
 ·unfold oX at hx;split at hx
  ·exact hx.elim
  ·rename_i u H2 hb;obtain⟨e,c,rfl⟩:=hform _ _ hb;simp only[if_true,show Nat.beq h.nx h.nx=true from Rp _]at hx;obtain⟨rfl,rfl⟩:=hx;exact hb
def Jx (hv:VH h)(hr:rG t a E ih rd d k env h=some r):Plain E.P E.G (.load t a) d k env h r:=by
 unfold rG at hr;rw[cr]at hr;refine gZ hv (zX _ _) (fun v H' hx=>?_) hr;obtain⟨h1,rfl⟩:=zU hx;show (eb E.P (ao h) t (aj E.G (aB env) a)).map _=_;rw[Jq h1];rfl
def Jy {a:S1}(hv:VH h):lE (mM P h t a v) h:=by
 unfold mM;split
 ·rename_i id gen off;split
  ·rename_i g e cells hg;cases hb:Nat.beq g gen with
   |false=>trivial
   |true =>
    simp only;split
    ·show id<h.nx;exact hv _ _ hg
    ·trivial
  ·trivial
 ·trivial
def Jz (hv:VH h)(hr:rH t a x E ih rd d k env h=some r):Plain E.P E.G (.store t a x) d k env h r:=by
 unfold rH at hr;cases hu:(E.P.underlying t).isSome with
 |false=>rw[hu]at hr;cases hr
 |true =>
  rw[hu]at hr;have hr':(bV E.G env a fun a=>bV E.G env x fun v=>cP d k env (mM E.P h t a v) h)=some r:=hr;rw[cr,cr]at hr';refine gZ hv ?_ (fun v H' hx=>?_) hr'
  ·exact Jy hv
  ·obtain⟨rfl,h2⟩:=Jr hx;show (if (E.P.underlying t).isSome then (fN E.P (ao h) t (aj E.G (aB env) a) (aj E.G (aB env) x)).map (fun H'=>(S1.lit undef,H')) else none)=_;rw[PG hu,h2];rfl
def z8 (P:Program)(G:Nat->Option (List S1))(o:Op)(d:Option Tmp)(k:BT S1->EH->R)(env:BT S1)(h:EH)(r:RR):Prop :=
 ∃op t x y u env',o=.binOp op t x y u/\gj (ao h) op (aj G (aB env) x) (aj G (aB env) y)=some true/\jC (P.underlying t)=true/\aB env'=aD (aB env) d (.lit (.bool (op == .neq)))/\k env' h=some r
def JA {op:BinOp}{y:Operand}(hv:VH h)(hr:rJ op t x y u E ih rd d k env h=some r):Plain E.P E.G (.binOp op t x y u) d k env h r\/z8 E.P E.G (.binOp op t x y u) d k env h r:=by
 unfold rJ at hr;rw[cr,cr]at hr;have hop:ah E.P E.G (aB env) (ao h) h.nx (.binOp op t x y u)=(bh E.P op t x y (aj E.G (aB env) x) (aj E.G (aB env) y)).map fun v=>(v,ao h):=rfl;unfold zz at hr;split at hr
 ·rename_i kd a kd' b ha hb;rw[ha,hb]at hop;left;cases hk:Nat.beq (lz kd) (lz kd') with
  |false=>rw[hk]at hr;exact fW hv hop hr
  |true =>
   rw[hk]at hr;obtain rfl:=Jp hk;have hr':Option.rec (motive:=fun _=>R) (rI E op t x y (.lit (.int kd a)) (.lit (.int kd b)) d k env h) (fun f=>f kd a b d k env h) (pa op)=some r:=hr;cases hi:pa op with
   |none =>
    rw[hi]at hr';exact fW hv hop hr'
   |some f =>
    rw[hi]at hr';obtain⟨v,env',h1,h2,h3⟩:=Jo (P:=E.P) (t:=t) (x:=x) (y:=y) hi hr';refine⟨v,env',h,?_,hv,h2,h3⟩;rw[hop,h1];rfl
 ·unfold zy at hr;split at hr
  ·exact .inl (fW hv hop hr)
  ·rename_i hn;right;cases hs:jC (E.P.underlying t) with
   |false=>rw[hs]at hr;cases hr
   |true =>
    rw[hs]at hr;obtain⟨env',h1,h2⟩:=lD (show jd d k env h (op == .neq)=some r from hr);exact⟨op,t,x,y,u,env',rfl,hn,hs,h1,h2⟩
  ·cases hr
def JB {fn:Fn}{first cap:Array Operand}(hv:VH h)(hr:rK fn first cap E ih rd d k env h=some r):Plain E.P E.G (.makeFunc fn first cap) d k env h r:=by
 unfold rK at hr;split at hr
 ·rw[mZ,mZ]at hr;exact po hv rfl hr
 ·cases hr
def JC (hv:VH h)(hr:rL t x i E ih rd d k env h=some r):Plain E.P E.G (.indexAddr t x i) d k env h r:=by
 unfold rL at hr;rw[cr,cr]at hr;refine fW hv ?_ hr;simp only[ah,mH];split
 ·rename_i heq;rw[heq]
 ·rename_i hne;split
  ·rename_i heq;exact absurd heq (hne _ _)
  ·rfl
def JD {c b:Operand}(hv:VH h)(hr:rO c a b E ih rd d k env h=some r):Plain E.P E.G (.pick c a b) d k env h r:=by
 unfold rO at hr;rw[cr]at hr;split at hr
 ·rename_i t hc;have hop:∀t',aj E.G (aB env) c=.lit (.bool t')->ah E.P E.G (aB env) (ao h) h.nx (.pick c a b)=some (if t' then aj E.G (aB env) a else aj E.G (aB env) b,ao h):=fun t' ht=>by
   simp only[ah,ht]
  cases t with
  |false =>
   have hr':(bV E.G env b fun v=>eH env d v fun env=>k env h)=some r:=hr;rw[cr]at hr';exact po hv (hop _ hc) hr'
  |true =>
   have hr':(bV E.G env a fun v=>eH env d v fun env=>k env h)=some r:=hr;rw[cr]at hr';exact po hv (hop _ hc) hr'
 ·cases hr
def JE (hv:VH h)(hr:rP e E ih rd d k env h=some r):Plain E.P E.G (.alloc e) d k env h r:=by
 unfold rP at hr;split at hr
 ·rename_i z hz;refine gZ hv zZ (fun v H' hx=>?_) hr;obtain⟨rfl,rfl⟩:=hx;show ((bH E.P e).bind fun z=>((ao h).lay (ao h).C (.L 0 e z)).map fun H'=>(S1.Y h.nx 0 0,H'))=_;rw[hz];show ((ao h).lay (ao h).C (.L 0 e z)).map _=_;unfold S2.lay;rw[PG rfl];rfl
 ·cases hr
def JF (hv:VH h)(hr:rQ x E ih rd d k env h=some r):Plain E.P E.G (.nilCheck x) d k env h r:=by
 unfold rQ at hr;rw[cr]at hr;exact fW hv rfl hr
def JG {op:UnOp}(hv:VH h)(hr:rR op t x E ih rd d k env h=some r):Plain E.P E.G (.unOp op t x) d k env h r:=by
 unfold rR at hr;rw[cr]at hr;exact fW hv rfl hr
def JH {s:TypeId}(hv:VH h)(hr:rS s t x E ih rd d k env h=some r):Plain E.P E.G (.convert s t x) d k env h r:=by
 unfold rS at hr;rw[cr]at hr;exact fW hv rfl hr
def JI {t:Operand}{i:Nat}(hv:VH h)(hr:rY t i E ih rd d k env h=some r):Plain E.P E.G (.extract t i) d k env h r:=by
 unfold rY at hr;rw[cr]at hr;exact fW hv rfl hr
def JJ (hv:VH h)(hr:rX t x i E ih rd d k env h=some r):Plain E.P E.G (.index t x i) d k env h r:=by
 unfold rX at hr;rw[cr,cr]at hr;exact fW hv rfl hr
def JK (hv:VH h)(hr:rW t x f E ih rd d k env h=some r):Plain E.P E.G (.field t x f) d k env h r:=by
 unfold rW at hr;rw[cr]at hr;refine fW hv ?_ hr;simp only[ah,yG];cases bx E.P t f with
 |none=>rfl
 |some of =>
  simp only[Option.bind_some];generalize aj E.G (aB env) x=v;cases v with
  |lit v=>cases v<;>rfl
  |_=>rfl
def JL (hv:VH h)(hr:rV t x f E ih rd d k env h=some r):Plain E.P E.G (.fieldAddr t x f) d k env h r:=by
 unfold rV at hr;rw[cr]at hr;refine fW hv ?_ hr;simp only[ah,mG];cases bx E.P t f with
 |none=>rfl
 |some of =>
  simp only[Option.bind_some];generalize aj E.G (aB env) x=v;cases v with
  |Y id gen off =>
   show Option.map _ ((ao h).nn id gen)=Option.map _ (Option.map _ ((ao h).nn id gen));rw[Option.map_map];rfl
  |_=>rfl
def JM {l c:Operand}(hv:VH h)(hr:rT t l c E ih rd d k env h=some r):Plain E.P E.G (.makeSlice t l c) d k env h r:=by
 unfold rT at hr;rw[cr,cr]at hr;have hform:∀u H2,gU E.P (ao h) h.nx t (aj E.G (aB env) l) (aj E.G (aB env) c)=some (u,H2)->∃g e c,H2=⟨fun j=>if j=h.nx then some (.L g e c) else (ao h).get j,h.nx+1⟩:=by
  intro u H2 hb;unfold gU at hb;split at hb
  ·split at hb
   ·simp only[PE,an,Prod.mk.injEq]at hb;obtain⟨z,_,H3,hl,_,rfl⟩:=hb;exact⟨_,_,_,vY hl⟩
   ·cases hb
  ·cases hb
 exact gZ hv (z7 (v:=.lit undef) (H':=ao h) hform).1 (fun v H' hx=>(z7 hform).2 hx) hr
def JN {l u m:Option Operand}(hv:VH h)(hr:rU t x l u m E ih rd d k env h=some r):Plain E.P E.G (.slice t x l u m) d k env h r:=by
 unfold rU at hr;split at hr
 ·rw[cr,zT,zT]at hr;exact fW hv rfl hr
 ·cases hr
def JO {c:Call}(hb:c.callee=.builtin .len)(ht:c.argTypes.toList=[t])(ha:c.args.toList=[x])(hv:VH h)(hr:rZ t x E ih rd d k env h=some r):Plain E.P E.G (.call c) d k env h r:=by
 unfold rZ at hr;rw[cr]at hr;refine fW hv ?_ hr;simp only[ah,hb,ht,ha];rfl
def JP {nx:Nat}{id o l z:Nat}{x:S1}(hr:bf P H nx t u (.V id g o l z) x=some (v,H')):
  (v=.V id g o l z/\H'=H)\/∃l' e c,v=.V id (g+1) 0 l' z/\H'=H.upd id (.L (g+1) e c)/\∃e0 c0,H.nn id g=some (e0,c0):=by
 unfold bf at hr;split at hr
 ·split at hr
  ·simp only[PE]at hr;obtain⟨_,_,nx',_,ec,hl,hr⟩:=hr;split at hr
   ·split at hr
    ·simp only[Option.some.injEq,Prod.mk.injEq]at hr;exact .inl ⟨hr.1.symm,hr.2.symm⟩
    ·simp only[Option.some.injEq,Prod.mk.injEq]at hr;exact .inr ⟨_,_,_,hr.1.symm,hr.2.symm,ec.1,ec.2,hl⟩
   ·cases hr
  ·cases hr
 ·cases hr
def append_nil {s x:S1}(hs:∀a b c d e,s≠.V a b c d e)(hr:bf P H H.C t u s x=some (v,H')):
  (v=.lit (.slice none 0 0)/\H'=H)\/∃l z e c,v=.V H.C 0 0 l z/\H'=⟨fun j=>if j=H.C then some (.L 0 e c) else H.get j,H.C+1⟩:=by
 unfold bf at hr;split at hr
 ·split at hr
  ·simp only[PE]at hr;obtain⟨_,_,nx',_,hr⟩:=hr;split at hr
   ·split at hr
    ·simp only[Option.some.injEq,Prod.mk.injEq]at hr;exact .inl ⟨hr.1.symm,hr.2.symm⟩
    ·split at hr
     ·simp only[an,Prod.mk.injEq]at hr;obtain⟨H3,hl,h1,rfl⟩:=hr;exact .inr ⟨_,_,_,_,h1.symm,vY hl⟩
     ·cases hr
   ·exact absurd rfl (hs _ _ _ _ _)
   ·cases hr
  ·cases hr
 ·cases hr
def JQ {c:Call}{s:Operand}(hb:c.callee=.builtin .append)(ht:c.argTypes.toList=[t,u])(ha:c.args.toList=[s,x])(hv:VH h)(hr:sd t u s x E ih rd d k env h=some r):Plain E.P E.G (.call c) d k env h r:=by
 unfold sd at hr;rw[cr,cr]at hr;have hop:ah E.P E.G (aB env) (ao h) h.nx (.call c)=bf E.P (ao h) h.nx t u (aj E.G (aB env) s) (aj E.G (aB env) x):=by
  simp only[ah,hb,ht,ha];rfl
 generalize aj E.G (aB env) s=sv at hr hop;generalize aj E.G (aB env) x=xv at hr hop;unfold zA at hr;split at hr
 ·rename_i id g o l z;split at hr
  ·rename_i g' o' l' z' H' happ;rename_i id';have happ0:=happ;rcases JP happ with ⟨h1,rfl⟩|⟨l2,e,c2,h1,rfl,e0,c0,hlive⟩
   ·simp only[S1.V.injEq]at h1;obtain⟨rfl,rfl,rfl,rfl,rfl⟩:=h1;have hb2:Nat.beq g' g'=true:=Rp _;rw[hb2]at hr;refine gZ (x:=.val (.V id' g' o' l' z')) hv trivial (fun v H'' hx=>?_) hr;obtain⟨rfl,rfl⟩:=hx;rw[hop,happ0]
   ·simp only[S1.V.injEq]at h1;obtain⟨rfl,rfl,rfl,rfl,rfl⟩:=h1;have hne:Nat.beq (g+1) g=false:=by
     cases hbq:Nat.beq (g+1) g with
     |false=>rfl
     |true=>have:=PX hbq;omega
    rw[hne]at hr;have hr':cP d k env (pg (.V id' (g+1) 0 l' z') id' false (((ao h).upd id' (.L (g+1) e c2)).get id')) h=some r:=hr;have hget:((ao h).upd id' (.L (g+1) e c2)).get id'=some (.L (g+1) e c2):=(by simp[S2.upd]);rw[hget]at hr';refine gZ (x:=.nk (.V id' (g+1) 0 l' z') id' (g+1) e c2 false) hv ?_ (fun v H'' hx=>?_) hr'
    ·show id'<h.nx;exact gX hv.wf hlive
    ·obtain⟨rfl,rfl⟩:=hx;rw[hop,happ0];rfl
  ·cases hr
 ·rename_i hs;split at hr
  ·rename_i id' g' o' l' z' H' happ;rcases append_nil (H:=ao h) (fun a b c d e he=>hs a b c d e he) happ with ⟨h1,_⟩|⟨l2,z2,e,c2,h1,h2⟩
   ·cases h1
   ·have hget:H'.get h.nx=some (.L 0 e c2):=by
     rw[h2];show (if h.nx=h.nx then some (S7.L 0 e c2) else _)=_;rw[PG rfl]
    rw[hget]at hr;refine gZ (x:=.nk (.V id' g' o' l' z') h.nx 0 e c2 true) hv rfl (fun v H'' hx=>?_) hr;obtain⟨rfl,rfl⟩:=hx;rw[hop,happ,h2];rfl
  ·rename_i v H' happ;rcases append_nil (H:=ao h) (fun a b c d e he=>hs a b c d e he) happ with ⟨h1,h2⟩|⟨l2,z2,e,c2,h1,h2⟩
   ·refine gZ (x:=.val (.lit v)) hv trivial (fun v H'' hx=>?_) hr;obtain⟨rfl,rfl⟩:=hx;rw[hop,happ,h2]
   ·cases h1
  ·cases hr
def JR (c:Call)(b:Builtin):(∃t x,b=.len/\c.argTypes.toList=[t]/\c.args.toList=[x]/\mT c b=rZ t x) \/
  (∃t u s x,b=.append/\c.argTypes.toList=[t,u]/\c.args.toList=[s,x]/\mT c b=sd t u s x)\/mT c b=eU (.call c):=by
 unfold mT;split
 ·rename_i t x h1 h2;exact .inl ⟨t,x,rfl,h1,h2,rfl⟩
 ·rename_i t u s x h1 h2;exact .inr (.inl ⟨t,u,s,x,rfl,h1,h2,rfl⟩)
 ·exact .inr (.inr rfl)
def JS {o:Op}(hv:VH h)(hr:se o E ih rd d k env h=some r):
  Plain E.P E.G o d k env h r\/z8 E.P E.G o d k env h r\/(∃fv args ats,o=.call ⟨.value fv,args,ats⟩/\vK fv args E ih rd d k env h=some r)\/(∃x,o=.panic x/\vJ x E ih rd d k env h=some r):=by
 cases o with
 |move x=>exact .inl (Js hv (show kq x E ih rd d k env h=some r from hr))
 |assign x=>exact .inl (Jt hv (show kq x E ih rd d k env h=some r from hr))
 |pick c a b=>exact .inl (JD hv (show rO c a b E ih rd d k env h=some r from hr))
 |alloc e=>exact .inl (JE hv (show rP e E ih rd d k env h=some r from hr))
 |box e x=>exact .inl (Ju hv (show rD e x E ih rd d k env h=some r from hr))
 |build t parts=>exact .inl (Jv hv (show rE t parts E ih rd d k env h=some r from hr))
 |buildSlice t l parts=>exact .inl (Jw hv (show rF t l parts E ih rd d k env h=some r from hr))
 |load t a=>exact .inl (Jx hv (show rG t a E ih rd d k env h=some r from hr))
 |store t a x=>exact .inl (Jz hv (show rH t a x E ih rd d k env h=some r from hr))
 |nilCheck x=>exact .inl (JF hv (show rQ x E ih rd d k env h=some r from hr))
 |binOp op t x y u=>exact(JA hv (show rJ op t x y u E ih rd d k env h=some r from hr)).elim .inl fun h=>.inr (.inl h)
 |unOp op t x=>exact .inl (JG hv (show rR op t x E ih rd d k env h=some r from hr))
 |convert s t x=>exact .inl (JH hv (show rS s t x E ih rd d k env h=some r from hr))
 |makeInterface t x=>exact .inl (kz hv (show eU (.makeInterface t x) E ih rd d k env h=some r from hr))
 |insert t m a x=>exact .inl (kz hv (show eU (.insert t m a x) E ih rd d k env h=some r from hr))
 |makeMap t x=>exact .inl (kz hv (show eU (.makeMap t x) E ih rd d k env h=some r from hr))
 |lookup t x i ok=>exact .inl (kz hv (show eU (.lookup t x i ok) E ih rd d k env h=some r from hr))
 |mapUpdate t m a x=>exact .inl (kz hv (show eU (.mapUpdate t m a x) E ih rd d k env h=some r from hr))
 |mapEntry t m a=>exact .inl (kz hv (show eU (.mapEntry t m a) E ih rd d k env h=some r from hr))
 |entryStore t m a x=>exact .inl (kz hv (show eU (.entryStore t m a x) E ih rd d k env h=some r from hr))
 |makeFunc fn a b=>exact .inl (JB hv (show rK fn a b E ih rd d k env h=some r from hr))
 |makeSlice t l c=>exact .inl (JM hv (show rT t l c E ih rd d k env h=some r from hr))
 |slice t x l u m=>exact .inl (JN hv (show rU t x l u m E ih rd d k env h=some r from hr))
 |fieldAddr t x f=>exact .inl (JL hv (show rV t x f E ih rd d k env h=some r from hr))
 |field t x f=>exact .inl (JK hv (show rW t x f E ih rd d k env h=some r from hr))
 |indexAddr t x i=>exact .inl (JC hv (show rL t x i E ih rd d k env h=some r from hr))
 |index t x i=>exact .inl (JJ hv (show rX t x i E ih rd d k env h=some r from hr))
 |extract t i=>exact .inl (JI hv (show rY t i E ih rd d k env h=some r from hr))
 |panic x=>exact .inr (.inr (.inr ⟨x,rfl,hr⟩))
 |call c =>
  have hr':zB c E ih rd d k env h=some r:=hr;obtain⟨callee,args,ats⟩:=c;cases callee with
  |value fv=>exact .inr (.inr (.inl ⟨fv,args,ats,rfl,hr'⟩))
  |builtin b =>
   refine .inl ?_;have hr2:mT ⟨.builtin b,args,ats⟩ b E ih rd d k env h=some r:=hr';rcases JR ⟨.builtin b,args,ats⟩ b with ⟨t,x,rfl,h1,h2,h3⟩|⟨t,u,s,x,rfl,h1,h2,h3⟩|h3
   ·rw[h3]at hr2;exact JO rfl h1 h2 hv hr2
   ·rw[h3]at hr2;exact JQ rfl h1 h2 hv hr2
   ·rw[h3]at hr2;exact kz hv hr2
  |invoke a b=>cases hr'
 |_=>cases hr
end Go.Hx
namespace Go.Hx
variable {k:BT S1->R}{h:EH}{n:Nat}{r:RR}
def lF {f:S1->Option (S1 × List Nat)}:∀ {l l':List S1} {rs:List Nat},bF f l=some (l',rs) ->
  l'.length=l.length/\∀i (_:i<l.length) (_:i<l'.length),∃ri,f l[i]=some (l'[i],ri)/\∀r,r∈ri->r∈rs:=by
 intro l
 induction l with
 |nil =>
  intro l' rs h;simp only[bF,Option.some.injEq,Prod.mk.injEq]at h;obtain⟨rfl,rfl⟩:=h;exact⟨rfl,fun i h _=>absurd h (PS _)⟩
 |cons x l ih =>
  intro l' rs h;have h':(match f x,bF f l with|some (y,a),some (l,b)=>some (y :: l,a++b)|_,_=>none)=some (l',rs):=h;split at h'
  ·rename_i y a l2 b h1 h2;simp only[Option.some.injEq,Prod.mk.injEq]at h';obtain⟨rfl,rfl⟩:=h';obtain⟨h3,h4⟩:=ih h2;refine⟨by simp[h3],fun i hi hi'=>?_⟩;cases i with
   |zero=>exact⟨a,h1,fun r hr=>Rd _ hr⟩
   |succ i =>
    obtain⟨ri,h5,h6⟩:=h4 i (by simpa using hi) (by simpa using hi');exact⟨ri,h5,fun r hr=>QW _ (h6 r hr)⟩
  ·cases h'
def kA {id g:Nat}{e:TypeId}{c:List S1}(hg:aW h.hp id=some (.L g e c)):(ao h).get id=some (.L g e c):=by
 show Option.map Tb.iZ (aW h.hp id)=_;rw[hg];rfl
def z9 :∀(fuel:Nat) {v v':S1} {rs:List Nat},fU h fuel v=some (v',rs)->∀H2:S2,(∀r,r∈rs->H2.get r=(ao h).get r)->Fz (fun _=>True) H2 0 v v':=by
 intro fuel
 induction fuel with
 |zero=>intro v v' rs h;cases h
 |succ f ih =>
  intro v v' rs hv H2 ha;have list:∀ {l l':List S1} {rs':List Nat},bF (fU h f) l=some (l',rs')->(∀r,r∈rs'->H2.get r=(ao h).get r) ->
    l'.length=l.length/\∀i (_:i<l.length) (_:i<l'.length),Fz (fun _=>True) H2 0 l[i] l'[i]:=fun hm ha'=>by
   obtain⟨h1,h2⟩:=lF hm;exact⟨h1,fun i hi hi'=>let ⟨ri,h3,h4⟩:=h2 i hi hi';ih h3 H2 fun r hr=>ha' r (h4 r hr)⟩
  cases v with
  |lit v =>
   have hv':some (S1.lit v,[])=some (v',rs):=hv;simp only[Option.some.injEq,Prod.mk.injEq]at hv';obtain⟨rfl,rfl⟩:=hv';exact .lit _
  |M n c =>
   have hv':(bF (fU h f) c).map (fun p=>(S1.M n p.1,p.2))=some (v',rs):=hv;simp only[an,Prod.mk.injEq]at hv';obtain⟨⟨c',rs'⟩,h1,rfl,rfl⟩:=hv';obtain⟨h2,h3⟩:=list h1 ha;exact .M h2 h3
  |nb c o =>
   have hv':(bF (fU h f) c).map (fun p=>(S1.nb p.1 o,p.2))=some (v',rs):=hv;simp only[an,Prod.mk.injEq]at hv';obtain⟨⟨c',rs'⟩,h1,rfl,rfl⟩:=hv';obtain⟨h2,h3⟩:=list h1 ha;exact .nb h2 h3
  |agg c =>
   have hv':(bF (fU h f) c).map (fun p=>(S1.agg p.1,p.2))=some (v',rs):=hv;simp only[an,Prod.mk.injEq]at hv';obtain⟨⟨c',rs'⟩,h1,rfl,rfl⟩:=hv';obtain⟨h2,h3⟩:=list h1 ha;exact .agg h2 h3
  |nc c =>
   have hv':(bF (fU h f) c).map (fun p=>(S1.nc p.1,p.2))=some (v',rs):=hv;simp only[an,Prod.mk.injEq]at hv';obtain⟨⟨c',rs'⟩,h1,rfl,rfl⟩:=hv';obtain⟨h2,h3⟩:=list h1 ha;exact .nc h2 h3
  |nl g a b =>
   have hv':(match bF (fU h f) a,bF (fU h f) b with|some p,some q=>some (S1.nl g p.1 q.1,p.2++q.2)|_,_=>none)=some (v',rs):=hv;split at hv'
   ·rename_i p q h1 h2;simp only[Option.some.injEq,Prod.mk.injEq]at hv';obtain⟨rfl,rfl⟩:=hv';obtain⟨h3,h4⟩:=list h1 fun r hr=>ha r (Rd _ hr);obtain⟨h5,h6⟩:=list h2 fun r hr=>ha r (QW _ hr);exact .nl h3 h5 h4 h6
   ·cases hv'
  |V id g o l z =>
   have hv':(match aW h.hp id with|some (.L g' _ cells)=>if g'=g/\o+l*z<=cells.length then (bF (fU h f) ((cells.drop o).take (l*z))).map fun p=>(S1.M l p.1,id :: p.2) else none|_=>none)=some (v',rs):=hv;split at hv'
   ·rename_i g' e cells hg;split at hv'
    ·rename_i hc;obtain⟨rfl,hle⟩:=hc;simp only[an,Prod.mk.injEq]at hv';obtain⟨⟨c',rs'⟩,h1,rfl,rfl⟩:=hv';obtain⟨h2,h3⟩:=list h1 fun r hr=>ha r (Qs _ hr);have hlen:((cells.drop o).take (l*z)).length=l*z:=(by simp;omega);refine .np trivial ((ha id (QP ..)).trans (kA hg)) (h2.trans hlen) fun i hi h2i hi'=>?_;have:=h3 i U hi';simpa using this
    ·cases hv'
   ·cases hv'
  |Y id g o =>
   have hv':(match aW h.hp id with|some (.L g' _ (x :: cells))=>if g'=g then (bF (fU h f) (x :: cells)).map fun p=>(S1.nb p.1 o,id :: p.2) else none|_=>none)=some (v',rs):=hv;split at hv'
   ·rename_i g' e x cells hg;split at hv'
    ·rename_i hc;subst hc;simp only[an,Prod.mk.injEq]at hv';obtain⟨⟨c',rs'⟩,h1,rfl,rfl⟩:=hv';obtain⟨h2,h3⟩:=list h1 fun r hr=>ha r (Qs _ hr);exact .pfrz trivial ((ha id (QP ..)).trans (kA hg)) SX h2 h3
    ·cases hv'
   ·cases hv'
  |ng n=>cases hv
def JT {f:S1->Option S1}:∀ {l l':List S1},ja f l=some l'->l'.length=l.length/\∀i (_:i<l.length) (_:i<l'.length),f l[i]=some l'[i]:=by
 intro l
 induction l with
 |nil =>
  intro l' h;simp only[ja,Option.some.injEq]at h;subst h;exact⟨rfl,fun i h _=>absurd h (PS _)⟩
 |cons x l ih =>
  intro l' h;have h':(match f x,ja f l with|some y,some l=>some (y :: l)|_,_=>none)=some l':=h;split at h'
  ·rename_i y l2 h1 h2;simp only[Option.some.injEq]at h';subst h';obtain⟨h3,h4⟩:=ih h2;refine⟨by simp[h3],fun i hi hi'=>?_⟩;cases i with
   |zero=>exact h1
   |succ i=>exact h4 i (by simpa using hi) (by simpa using hi')
  ·cases h'
def Aa :∀(fuel:Nat) {v v':S1},ly h fuel v=some v'->Tf (ao h) v v':=by
 intro fuel
 induction fuel with
 |zero=>intro v v' h;cases h
 |succ f ih =>
  intro v v' hv;have list:∀ {l l':List S1},ja (ly h f) l=some l'->l'.length=l.length/\∀i (_:i<l.length) (_:i<l'.length),Tf (ao h) l[i] l'[i]:=fun hm=>by
   obtain⟨h1,h2⟩:=JT hm;exact⟨h1,fun i hi hi'=>ih (h2 i hi hi')⟩
  cases v with
  |lit v =>
   have hv':some (S1.lit v)=some v':=hv;cases hv';exact .lit _
  |agg c =>
   have hv':(ja (ly h f) c).map S1.agg=some v':=hv;simp only[an]at hv';obtain⟨c',h1,rfl⟩:=hv';obtain⟨h2,h3⟩:=list h1;exact .agg h2 h3
  |nc c =>
   have hv':(ja (ly h f) c).map S1.nc=some v':=hv;simp only[an]at hv';obtain⟨c',h1,rfl⟩:=hv';obtain⟨h2,h3⟩:=list h1;exact .nc h2 h3
  |V id g o l z =>
   have hv':(match aW h.hp id with|some (.L g' _ cells)=>if g'=g/\o+l*z<=cells.length then (ja (ly h f) ((cells.drop o).take (l*z))).map (S1.M l) else none|_=>none)=some v':=hv;split at hv'
   ·rename_i g' e cells hg;split at hv'
    ·rename_i hc;obtain⟨rfl,hle⟩:=hc;simp only[an]at hv';obtain⟨c',h1,rfl⟩:=hv';obtain⟨h2,h3⟩:=list h1;have hlen:((cells.drop o).take (l*z)).length=l*z:=(by simp;omega);refine .V (kA hg) (h2.trans hlen) fun i hi h2i hi'=>?_;have:=h3 i U hi';simpa using this
    ·cases hv'
   ·cases hv'
  |_=>cases hv
def gv {f:S1->S1->Bool}(hf:∀x y,f x y=true->x=y):∀ {a b:List S1},eT f a b=true->a=b:=by
 intro a
 induction a with
 |nil=>intro b h;cases b with
  |nil=>rfl
  |cons=>cases h
 |cons x l ih =>
  intro b h;cases b with
  |nil=>cases h
  |cons y b =>
   have h':(match f x y with|true=>eT f l b|false=>false)=true:=h;split at h'
   ·rename_i hxy;rw[hf _ _ hxy,ih h']
   ·cases h'
def Ab:∀(fuel:Nat) (a b:S1),mO fuel a b=true->a=b:=by
 intro fuel
 induction fuel with
 |zero=>intro a b h;cases h
 |succ f ih =>
  intro a b h;have h':vu (mO f) a b=true:=h;unfold vu at h';split at h'
  ·simp only[PV,decide_eq_true_eq,sC]at h';rw[h'.1,h'.2]
  ·simp only[beq_iff_eq]at h';rw[h']
  ·rfl
  ·simp only[PV]at h';rw[PX h'.1,gv ih h'.2]
  ·simp only[PV]at h';rw[PX h'.1,gv ih h'.2]
  ·rw[gv ih h']
  ·rw[gv ih h']
  ·simp only[PV]at h';rw[PX h'.1,gv ih h'.2.1,gv ih h'.2.2]
  ·cases h'
def Ac {args:List S1}{v:S1}:∀ {l:List (List S1 × S1)},rA args l=some v->(args,v)∈l:=by
 intro l
 induction l with
 |nil=>intro h;cases h
 |cons p l ih =>
  intro h;have h':Bool.casesOn (motive:=fun _=>Option S1) (eT (mO 40) p.1 args) (rA args l) (some p.2)=some v:=h;cases he:eT (mO 40) p.1 args with
  |true =>
   rw[he]at h';have:=gv (Ab 40) he;have h2:p.2=v:=Option.some.inj h';rw[<- this,<- h2];exact QP ..
  |false =>
   rw[he]at h';exact Qs _ (ih h')
def JU :∀ {l:List S1} {i:Nat} {t:BT S1},ru k l i t=some r->∃t',k t'=some r/\∀m,dK t' m=if i<=m/\m<i+l.length then l[m-i]? else dK t m:=by
 intro l
 induction l with
 |nil=>intro i t h;exact⟨t,h,fun m=>by rw[PC (by simp only[List.length_nil];omega)]⟩
 |cons x l ih =>
  intro i t h;have h':(kj t i x fun t=>cK (Nat.succ i) fun i=>ru k l i t)=some r:=h;obtain⟨t1,h1,h2⟩:=vV _ _ _ _ _ h';rw[fV]at h1;obtain⟨t',h3,h4⟩:=ih h1;refine⟨t',h3,fun m=>?_⟩;rw[h4,h2];simp only[List.length_cons,Nat.succ_eq_add_one];by_cases hm:m=i
  ·subst hm;rw[PC U,PG rfl,PG U];simp
  ·rw[PC hm];by_cases hm2:i+1<=m/\m<i+1+l.length
   ·rw[PG hm2,PG U];have:m-i=(m-(i+1))+1:=U;rw[this,List.getElem?_cons_succ]
   ·rw[PC hm2,PC U]
def JV {l:List S1}(h:ru k l 0 .nil=some r):∃t,k t=some r/\aB t=eQ l:=by
 obtain⟨t,h1,h2⟩:=JU h;refine⟨t,h1,funext fun m=>?_⟩;rw[sy,h2];unfold eQ;split
 ·rfl
 ·rename_i hm;rw[PN U,su]
def JW :∀ {ps:List Tmp} {vs:List S1} {e:BT S1},rB k ps vs e=some r->∃e',k e'=some r/\vs.length=ps.length/\aB e'=jE (aB e) (ps.zip vs):=by
 intro ps
 induction ps with
 |nil =>
  intro vs e h;cases vs with
  |nil=>exact⟨e,h,rfl,rfl⟩
  |cons=>cases h
 |cons p ps ih =>
  intro vs e h;cases vs with
  |nil=>cases h
  |cons v vs =>
   have h':(kj e p v fun e=>rB k ps vs e)=some r:=h;obtain⟨t1,h1,h2⟩:=vV _ _ _ _ _ h';obtain⟨e',h3,h4,h5⟩:=ih h1;refine⟨e',h3,by simp[h4],?_⟩;rw[h5,zS h2];rfl
def JX :∀(t:BT S1) (a b:Nat),okB t a b n=true->∀j v,dK t j=some v->a*j+b<n:=by
 intro t
 induction t with
 |nil=>intro a b _ j v h;cases h
 |node v l r ihl ihr =>
  intro a b h j u hj;have h':(zq v b n && (okB l (2*a) (a+b) n && okB r (2*a) (2*a+b) n))=true:=h;simp only[PV]at h';obtain⟨h1,h2,h3⟩:=h';cases j with
  |zero =>
   rw[Jl]at hj;rw[hj]at h1;have h4:b<n:=(by rw[<- Sm];exact h1);omega
  |succ m =>
   rw[je]at hj;split at hj
   ·rename_i hm;have:=ihl _ _ h2 _ _ hj;have h4:m=2*(m / 2):=U;generalize m / 2=q at this h4;subst h4;have h5:a*(2*q+1)=2*a*q+a:=(by rw[Nat.mul_add,Nat.mul_one,<- SF,Sr a 2]);omega
   ·rename_i hm;have:=ihr _ _ h3 _ _ hj;have h4:m=2*(m / 2)+1:=U;generalize m / 2=q at this h4;subst h4;have h5:a*(2*q+1+1)=2*a*q+2*a:=(by rw[show 2*q+1+1=2*q+2 from rfl,Nat.mul_add,<- SF,Sr a 2]);omega
def JY {env:BT S1}(h:okB env 1 0 n=true):dc (aB env) n=aB env:=by
 funext t
 unfold dc;split
 ·rfl
 ·rename_i ht;rw[sy];cases hg:dK env t with
  |none=>rfl
  |some v =>
   have:=JX env 1 0 h t v hg;omega
end Go.Hx
namespace Go.Hx
variable {h:EH}{acc acc' kp l:List Nat}{id lo n:Nat}
def jf :dV l n=true↔n∈l:=by
 induction l with
 |nil=>exact⟨fun h=>absurd (show false=true from h) SY,fun h=>absurd h (List.not_mem_nil)⟩
 |cons x l ih =>
  have h':dV (x :: l) n=Bool.rec (motive:=fun _=>Bool) (dV l n) true (Nat.beq x n):=rfl;rw[h',List.mem_cons];cases hb:Nat.beq x n with
  |true=>exact⟨fun _=>.inl (PX hb).symm,fun _=>rfl⟩
  |false =>
   refine⟨fun h=>.inr (ih.1 h),?_⟩;rintro(rfl|h)
   ·rw[Rp]at hb;cases hb
   ·exact ih.2 h
def An (h:dV l n=false):n ∉ l:=fun hm=>by rw[jf.2 hm]at h;cases h
def Kj {f:Nat->Bool}(h:vv f l=true):∀n,n∈l->f n=true:=by
 induction l with
 |nil=>intro n hn;cases hn
 |cons x l ih =>
  have h':Bool.rec (motive:=fun _=>Bool) false (vv f l) (f x)=true:=h;cases hx:f x with
  |false=>rw[hx]at h';cases h'
  |true =>
   rw[hx]at h';intro n hn;rcases List.mem_cons.1 hn with rfl|hn
   ·exact hx
   ·exact ih h' n hn
def gy (lo:Nat)(kp acc:List Nat):Nat->Prop:=fun j=>(j<lo/\j∈kp)\/(¬j<lo/\j∈acc)
def ni (h:EH)(lo:Nat)(kp acc:List Nat)(id:Nat):Prop:=¬id<lo/\∃g e c,aW h.hp id=some (.L g e c)/\∀i (h:i<c.length),Ev.Tt (gy lo kp acc) c[i]
def fG (h:EH)(lo:Nat)(kp acc acc':List Nat):Prop:=(∀id,id∈acc->id∈acc')/\∀id,id∈acc'->id∈acc\/ni h lo kp acc' id
def gy.mono (hs:∀id,id∈acc->id∈acc')(id:Nat)(h:gy lo kp acc id):gy lo kp acc' id:=by
 rcases h with h|h
 ·exact .inl h
 ·exact .inr ⟨h.1,hs _ h.2⟩
theorem ni.mono (hs:∀id,id∈acc->id∈acc')(hg:ni h lo kp acc id):ni h lo kp acc' id:=by
 obtain⟨h1,g,e,c,h2,h3⟩:=hg;exact⟨h1,g,e,c,h2,fun i hi=>(h3 i hi).mono (gy.mono hs)⟩
def fG.refl (h:EH)(lo:Nat)(kp acc:List Nat):fG h lo kp acc acc:=⟨fun _ h=>h,fun _ h=>.inl h⟩
def fG.trans {a b c:List Nat}(h1:fG h lo kp a b)(h2:fG h lo kp b c):fG h lo kp a c:=by
 refine⟨fun id hid=>h2.1 id (h1.1 id hid),fun id hid=>?_⟩;rcases h2.2 id hid with h3|h3
 ·rcases h1.2 id h3 with h4|h4
  ·exact .inl h4
  ·exact .inr (h4.mono h2.1)
 ·exact .inr h3
def px {f:KF}(hf:∀v acc acc',f v acc=some acc'->fG h lo kp acc acc'/\Ev.Tt (gy lo kp acc') v):
  ∀ {l:List S1} {acc acc':List Nat},iA f l acc=some acc'->fG h lo kp acc acc'/\∀i (h:i<l.length),Ev.Tt (gy lo kp acc') l[i]:=by
 intro l
 induction l with
 |nil =>
  intro acc acc' hk;have:some acc=some acc':=hk;cases this;exact⟨.refl _ _ _ _,fun i h=>absurd h (PS _)⟩
 |cons x l ih =>
  intro acc acc' hk;have h':(match f x acc with|some acc=>iA f l acc|none=>none)=some acc':=hk;split at h'
  ·rename_i a1 h1;obtain⟨h2,h3⟩:=hf _ _ _ h1;obtain⟨h4,h5⟩:=ih h';refine⟨h2.trans h4,fun i hi=>?_⟩;cases i with
   |zero=>exact h3.mono (gy.mono h4.1)
   |succ i=>exact h5 i (by simpa using hi)
  ·cases h'
def Ao {f:KF}(hf:∀v acc acc',f v acc=some acc'->fG h lo kp acc acc'/\Ev.Tt (gy lo kp acc') v)
    (hk:mQ h lo kp f id acc=some acc'):fG h lo kp acc acc'/\gy lo kp acc' id:=by
 unfold mQ at hk;split at hk
 ·rename_i hlt;rw[Sm]at hlt;split at hk
  ·rename_i hm;cases hk;exact⟨.refl _ _ _ _,.inl ⟨hlt,jf.1 hm⟩⟩
  ·cases hk
 ·rename_i hlt;have hlt':¬id<lo:=fun h=>by rw[<- Sm]at h;rw[h]at hlt;cases hlt
  split at hk
  ·rename_i hm;cases hk;exact⟨.refl _ _ _ _,.inr ⟨hlt',jf.1 hm⟩⟩
  ·split at hk
   ·rename_i g e cells hg;obtain⟨⟨h1,h2⟩,h3⟩:=px hf hk;have hin:id∈acc':=h1 id (QP ..);refine⟨⟨fun j hj=>h1 j (Qs _ hj),fun j hj=>?_⟩,.inr ⟨hlt',hin⟩⟩;rcases h2 j hj with h4|h4
    ·rcases List.mem_cons.1 h4 with rfl|h4
     ·exact .inr ⟨hlt',g,e,cells,hg,h3⟩
     ·exact .inl h4
    ·exact .inr h4
   ·cases hk
def Ap :∀(fuel:Nat) (v:S1) (acc acc':List Nat),jb h lo kp fuel v acc=some acc'->fG h lo kp acc acc'/\Ev.Tt (gy lo kp acc') v:=by
 intro fuel
 induction fuel with
 |zero=>intro v acc acc' h;cases h
 |succ n ih =>
  intro v acc acc' hk;cases v with
  |lit v =>
   have:some acc=some acc':=hk;cases this;exact⟨.refl _ _ _ _,.lit _⟩
  |M m c =>
   have hk':(match S1.M m c with|.M 0 []=>some acc|_=>none)=some acc':=by
    cases m<;>cases c<;>exact hk
   split at hk'
   ·rename_i he;cases he;cases hk';exact⟨.refl _ _ _ _,.nil⟩
   ·cases hk'
  |agg c =>
   obtain⟨h1,h2⟩:=px ih (show iA (jb h lo kp n) c acc=some acc' from hk);exact⟨h1,.agg h2⟩
  |nc c =>
   obtain⟨h1,h2⟩:=px ih (show iA (jb h lo kp n) c acc=some acc' from hk);exact⟨h1,.nc h2⟩
  |nl f a b =>
   have hk':(match iA (jb h lo kp n) a acc with|some acc=>iA (jb h lo kp n) b acc|none=>none)=some acc':=hk;split at hk'
   ·rename_i a1 h1;obtain⟨h2,h3⟩:=px ih h1;obtain⟨h4,h5⟩:=px ih hk';exact⟨h2.trans h4,.nl (fun i hi=>(h3 i hi).mono (gy.mono h4.1)) h5⟩
   ·cases hk'
  |V id g o l z =>
   obtain⟨h1,h2⟩:=Ao ih (show mQ h lo kp (jb h lo kp n) id acc=some acc' from hk);exact⟨h1,.V h2⟩
  |Y id g o =>
   obtain⟨h1,h2⟩:=Ao ih (show mQ h lo kp (jb h lo kp n) id acc=some acc' from hk);exact⟨h1,.Y h2⟩
  |nb=>cases hk
  |ng=>cases hk
def kD {f:CF}(hf:∀v acc k r,f v acc k=some r->∃acc',k acc'=some r/\fG h 0 [] acc acc'):
  ∀ {l:List S1} {acc:List Nat} {k:List Nat->R} {r:RR},jc f l acc k=some r->∃acc',k acc'=some r/\fG h 0 [] acc acc':=by
 intro l
 induction l with
 |nil=>intro acc k r hr;exact⟨acc,hr,.refl _ _ _ _⟩
 |cons x l ih =>
  intro acc k r hr;have h':(f x acc fun acc=>jc f l acc k)=some r:=hr;obtain⟨a1,h1,h2⟩:=hf _ _ _ _ h';obtain⟨a2,h3,h4⟩:=ih h1;exact⟨a2,h3,h2.trans h4⟩
def Kk :∀(fuel:Nat) (v:S1) (acc:List Nat) (k:List Nat->R) (r:RR),rm h fuel v acc k=some r->∃acc',k acc'=some r/\fG h 0 [] acc acc':=by
 intro fuel
 induction fuel with
 |zero=>intro v acc k r hr;exact⟨acc,hr,.refl _ _ _ _⟩
 |succ n ih =>
  intro v acc k r hr;have h':(match jb h 0 [] 40 v acc with|some acc=>k acc|none=>vw h (rm h n) v acc k)=some r:=hr;split at h'
  ·rename_i a1 h1;exact⟨a1,h',(Ap 40 v acc a1 h1).1⟩
  ·have blk:∀b,rj (rm h n) acc k b=some r->∃acc',k acc'=some r/\fG h 0 [] acc acc':=by
    intro b hb;unfold rj at hb;split at hb
    ·exact kD ih hb
    ·exact⟨acc,hb,.refl _ _ _ _⟩
   unfold vw at h';split at h'
   ·exact kD ih h'
   ·exact kD ih h'
   ·exact kD ih h'
   ·exact kD ih h'
   ·obtain⟨a1,h1,h2⟩:=kD ih h';obtain⟨a2,h3,h4⟩:=kD ih h1;exact⟨a2,h3,h2.trans h4⟩
   ·exact blk _ h'
   ·exact blk _ h'
   ·exact⟨acc,h',.refl _ _ _ _⟩
def Kl (hkp:∀id,id∈kp->id<h.nx):∀(fuel:Nat) {v v':S1} {rs:List Nat},iB h kp fuel v=some (v',rs)->∀H2:S2,(∀r,r∈rs->H2.get r=(ao h).get r)->Fz (fun id=>¬id∈kp) H2 h.nx v v':=by
 intro fuel
 induction fuel with
 |zero=>intro v v' rs h;cases h
 |succ f ih =>
  intro v v' rs hv H2 ha;have list:∀ {l l':List S1} {rs':List Nat},bF (iB h kp f) l=some (l',rs')->(∀r,r∈rs'->H2.get r=(ao h).get r) ->
    l'.length=l.length/\∀i (_:i<l.length) (_:i<l'.length),Fz (fun id=>¬id∈kp) H2 h.nx l[i] l'[i]:=fun hm ha'=>by
   obtain⟨h1,h2⟩:=lF hm;exact⟨h1,fun i hi hi'=>let ⟨ri,h3,h4⟩:=h2 i hi hi';ih h3 H2 fun r hr=>ha' r (h4 r hr)⟩
  cases v with
  |lit v =>
   have hv':some (S1.lit v,[])=some (v',rs):=hv;simp only[Option.some.injEq,Prod.mk.injEq]at hv';obtain⟨rfl,rfl⟩:=hv';exact .lit _
  |M n c =>
   have hv':(bF (iB h kp f) c).map (fun p=>(S1.M n p.1,p.2))=some (v',rs):=hv;simp only[an,Prod.mk.injEq]at hv';obtain⟨⟨c',rs'⟩,h1,rfl,rfl⟩:=hv';obtain⟨h2,h3⟩:=list h1 ha;exact .M h2 h3
  |nb c o =>
   have hv':(bF (iB h kp f) c).map (fun p=>(S1.nb p.1 o,p.2))=some (v',rs):=hv;simp only[an,Prod.mk.injEq]at hv';obtain⟨⟨c',rs'⟩,h1,rfl,rfl⟩:=hv';obtain⟨h2,h3⟩:=list h1 ha;exact .nb h2 h3
  |agg c =>
   have hv':(bF (iB h kp f) c).map (fun p=>(S1.agg p.1,p.2))=some (v',rs):=hv;simp only[an,Prod.mk.injEq]at hv';obtain⟨⟨c',rs'⟩,h1,rfl,rfl⟩:=hv';obtain⟨h2,h3⟩:=list h1 ha;exact .agg h2 h3
  |nc c =>
   have hv':(bF (iB h kp f) c).map (fun p=>(S1.nc p.1,p.2))=some (v',rs):=hv;simp only[an,Prod.mk.injEq]at hv';obtain⟨⟨c',rs'⟩,h1,rfl,rfl⟩:=hv';obtain⟨h2,h3⟩:=list h1 ha;exact .nc h2 h3
  |nl g a b =>
   have hv':(match bF (iB h kp f) a,bF (iB h kp f) b with|some p,some q=>some (S1.nl g p.1 q.1,p.2++q.2)|_,_=>none)=some (v',rs):=hv;split at hv'
   ·rename_i p q h1 h2;simp only[Option.some.injEq,Prod.mk.injEq]at hv';obtain⟨rfl,rfl⟩:=hv';obtain⟨h3,h4⟩:=list h1 fun r hr=>ha r (Rd _ hr);obtain⟨h5,h6⟩:=list h2 fun r hr=>ha r (QW _ hr);exact .nl h3 h5 h4 h6
   ·cases hv'
  |V id g o l z =>
   have hv':(match dV kp id with
    |true=>some (S1.V id g o l z,[])
    |false=>match aW h.hp id with|some (.L g' _ cells)=>if g'=g/\o+l*z<=cells.length then (bF (iB h kp f) ((cells.drop o).take (l*z))).map fun p=>(S1.M l p.1,id :: p.2) else none|_=>none)=some (v',rs):=hv
   split at hv'
   ·rename_i hm;simp only[Option.some.injEq,Prod.mk.injEq]at hv';obtain⟨rfl,rfl⟩:=hv';exact .V (hkp _ (jf.1 hm)) fun h=>h (jf.1 hm)
   ·rename_i hm;split at hv'
    ·rename_i g' e cells hg;split at hv'
     ·rename_i hc;obtain⟨rfl,hle⟩:=hc;simp only[an,Prod.mk.injEq]at hv';obtain⟨⟨c',rs'⟩,h1,rfl,rfl⟩:=hv';obtain⟨h2,h3⟩:=list h1 fun r hr=>ha r (Qs _ hr);have hlen:((cells.drop o).take (l*z)).length=l*z:=(by simp;omega);refine .np (An hm) ((ha id (QP ..)).trans (kA hg)) (h2.trans hlen) fun i hi h2i hi'=>?_;have:=h3 i U hi';simpa using this
     ·cases hv'
    ·cases hv'
  |Y id g o =>
   have hv':(match dV kp id with
    |true=>some (S1.Y id g o,[])
    |false=>match aW h.hp id with|some (.L g' _ (x :: cells))=>if g'=g then (bF (iB h kp f) (x :: cells)).map fun p=>(S1.nb p.1 o,id :: p.2) else none|_=>none)=some (v',rs):=hv
   split at hv'
   ·rename_i hm;simp only[Option.some.injEq,Prod.mk.injEq]at hv';obtain⟨rfl,rfl⟩:=hv';exact .Y (hkp _ (jf.1 hm)) fun h=>h (jf.1 hm)
   ·rename_i hm;split at hv'
    ·rename_i g' e x cells hg;split at hv'
     ·rename_i hc;subst hc;simp only[an,Prod.mk.injEq]at hv';obtain⟨⟨c',rs'⟩,h1,rfl,rfl⟩:=hv';obtain⟨h2,h3⟩:=list h1 fun r hr=>ha r (Qs _ hr);exact .pfrz (An hm) ((ha id (QP ..)).trans (kA hg)) SX h2 h3
     ·cases hv'
    ·cases hv'
  |ng n=>cases hv
def Km {k:BT Tb->R}{r:RR}:∀ {l:List Nat} {t:BT Tb},vy h l k t=some r->∃t',k t'=some r/\∀m,aW t' m=if m∈l then aW h.hp m else aW t m:=by
 intro l
 induction l with
 |nil=>intro t hr;exact⟨t,hr,fun m=>by rw[PC SX]⟩
 |cons x l ih =>
  intro t hr;have h':(match aW h.hp x with|some b=>fk t x b (vy h l k)|none=>none)=some r:=hr;split at h'
  ·rename_i b hb;obtain⟨t1,h1,h2⟩:=kx _ _ _ _ _ h';obtain⟨t',h3,h4⟩:=ih h1;refine⟨t',h3,fun m=>?_⟩;rw[h4,h2];by_cases hm:m∈l
   ·rw[PG hm,PG (Qs _ hm)]
   ·rw[PC hm];by_cases hx:m=x
    ·subst hx;rw[PG rfl,PG (QP ..),hb]
    ·rw[PC hx,PC (by simp[hx,hm])]
  ·cases h'
def Kn {a b:Value}(h:vz a b=true):a=b:=by
 unfold vz at h;split at h
 ·simp only[PV,decide_eq_true_eq,sC]at h;rw[h.1,h.2]
 ·simp only[beq_iff_eq]at h;rw[h]
 ·rfl
 ·rfl
 ·cases h
def Ko:∀(fuel:Nat) (a b:S1),vB fuel a b=true->a=b:=by
 intro fuel
 induction fuel with
 |zero=>intro a b h;cases h
 |succ f ih =>
  intro a b h;have h':vA (vB f) a b=true:=h;unfold vA at h';split at h'
  ·rw[Kn h']
  ·simp only[PV]at h';rw[PX h'.1,gv ih h'.2]
  ·rw[gv ih h']
  ·rw[gv ih h']
  ·simp only[PV]at h';rw[PX h'.1,gv ih h'.2.1,gv ih h'.2.2]
  ·simp only[PV]at h';rw[PX h'.1,PX h'.2.1,PX h'.2.2.1,PX h'.2.2.2.1,PX h'.2.2.2.2]
  ·simp only[PV]at h';rw[PX h'.1,PX h'.2.1,PX h'.2.2]
  ·cases h'
def Kp {a b:Option Tb}(h:vC a b=true):a=b:=by
 unfold vC at h;split at h
 ·simp only[PV]at h;rw[PX h.1,PX h.2.1,gv (Ko 40) h.2.2]
 ·cases h
def Kq {h':EH}{lv:List Nat}:∀ {n:Nat} {t:BT Tb} {k:BT Tb->R} {r:RR},rp h' lv lo n t k=some r ->
  ∃t',k t'=some r/\∀m,aW t' m=if lo<=m/\m<lo+n then (if dV lv m=true then aW h'.hp m else some (.L 0 0 [])) else aW t m:=by
 intro n
 induction n with
 |zero=>intro t k r hr;exact⟨t,hr,fun m=>by rw[PC U]⟩
 |succ n ih =>
  intro t k r hr;have h1:cK (Nat.add lo n) (vD h' lv t fun t=>rp h' lv lo n t k)=some r:=hr;rw[fV]at h1;have key:∀b,(if dV lv (lo+n)=true then aW h'.hp (lo+n) else some (.L 0 0 []))=some b->fk t (lo+n) b (fun t=>rp h' lv lo n t k)=some r ->
    ∃t',k t'=some r/\∀m,aW t' m=if lo<=m/\m<lo+(n+1) then (if dV lv m=true then aW h'.hp m else some (.L 0 0 [])) else aW t m:=by
   intro b hb hs;obtain⟨t1,h2,h3⟩:=kx _ _ _ _ _ hs;obtain⟨t',h4,h5⟩:=ih h2;refine⟨t',h4,fun m=>?_⟩;rw[h5,h3];by_cases hm:m=lo+n
   ·subst hm;rw[PC U,PG rfl,PG U,hb]
   ·rw[PC hm];by_cases hm2:lo<=m/\m<lo+n
    ·rw[PG hm2,PG (⟨hm2.1,U⟩:lo<=m/\m<lo+(n+1))]
    ·rw[PC hm2,PC (fun hc:lo<=m/\m<lo+(n+1)=>hm2 ⟨hc.1,U⟩)]
  unfold vD at h1;split at h1
  ·rename_i hm;split at h1
   ·rename_i b hb;exact key b ((PG (show dV lv (lo+n)=true from hm)).trans hb) h1
   ·cases h1
  ·rename_i hm;exact key _ (PC (fun hc=>by rw[show dV lv (lo+n)=false from hm]at hc;cases hc)) h1
end Go.Hx
namespace Go.Hx
def JZ (z:GD):Option S1->S1
 |some u=>.nc [u,.lit (.int .i64 0)]
 |none=>.nc [z.z,.lit (.int .i64 6)]
def Ad (P:Program)(G:Nat->Option (List S1))(f:FuncId)(z:GD):Prop:=∀g cap cap' (H:S2) o,cap'.length=cap.length ->
 (∀H2:S2,(∀id,id<H.C->H2.get id=H.get id)->∀i (h:i<cap.length) (h':i<cap'.length),Fz (fun _=>True) H2 0 cap[i] cap'[i]) ->
 (∀u,o=some u->z.ok u=true)->ae P G g cap' bZ (oy o)->ae P G f [.nl g [] cap] H fun r H'=>r=.ret (JZ z o)/\H'=H
def pq (E:EP):Prop:=∀f e,E.ext f=some e->∀args r,e args=some r->∀(H:S2) (K:S8->S2->Prop),K (.ret r) H->aH E.P E.G (.nl f [] []) args H K
theorem pq.none {E:EP}(h:E.ext=fun _=>.none):pq E:=fun f e he=>by rw[h]at he;cases he
structure TE (E:EP):Prop where
 gok:dG E.G
 mixed:E.P.follows .mixedOrders=true
 known:∀f l,E.known f=some l->∀a v,(a,v)∈l->ae E.P E.G f a bZ fun r H'=>∃u,r=.ret u/\Tf H' u v
 gd:∀f z,E.gd f=some z->Ad E.P E.G f z
 ext:pq E
def vZ:RR->S8->EH->Prop
 |.ret v h,x,h'=>x=.ret v/\h'=h
 |.panic h,x,h'=>x=.panic/\h'=h
 |_,_,_=>False
def fF (E:EP)(ih:iC):Prop:=∀rd n c env h r,ih rd n c env h=some r->VH h->fits n c=true ->
 ∃x env' h',r=.ev x env' h'/\VH h'/\∀Q:AX->St->Prop,Q x ⟨aB env',ao h'⟩->W E.P E.G n rd c Q ⟨aB env,ao h⟩
def v7 (E:EP)(f:FuncId)(args:List S1)(h:EH)(r:RR):Prop :=
 ∃x h',vZ r x h'/\VH h'/\∀K:S8->S2->Prop,K x (ao h')->ae E.P E.G f args (ao h) K
def v9 (E:EP)(fv:S1)(args:List S1)(h:EH)(r:RR):Prop :=
 ∃x h',vZ r x h'/\VH h'/\∀K:S8->S2->Prop,K x (ao h')->aH E.P E.G fv args (ao h) K
section
variable {E:EP} {ih:iC}
def fo {b:Bool}{x:R}{r:RR}(h:Bool.rec (motive:=fun _=>R) none x b=some r):b=true/\x=some r:=by
 cases b with
 |false=>cases h
 |true=>exact⟨rfl,h⟩
def wc:VH ⟨.nil,0⟩:=fun _ _ h=>by cases h
def kB (hI:fF E ih){f:FuncId}{args:List S1}{h:EH}{r:RR}(hv:VH h)(hr:ko E ih f args h=some r):v7 E f args h r:=by
 unfold ko at hr;cases hf:E.P.funcs[f]? with
 |none=>rw[hf]at hr;cases hr
 |some fn =>
  rw[hf]at hr;have hr1:Option.rec (motive:=fun _=>R) none (fun c=>rz E ih fn c args h) fn.body=some r:=hr;cases hb:fn.body with
  |none=>rw[hb]at hr1;cases hr1
  |some c =>
   rw[hb]at hr1;have hr2:rz E ih fn c args h=some r:=hr1;unfold rz at hr2;obtain⟨hok,hr3⟩:=fo hr2;obtain⟨hle,hr4⟩:=fo hr3;have hle:=Ra hle;unfold zl at hok;simp only[PV,Sp]at hok;obtain⟨env,hr5,henv⟩:=JV hr4;have body:∀K:S8->S2->Prop,W E.P E.G fn.ntmps none c (lp E.P E.G fn.results.toList (ao h) K) ⟨eQ args,ao h⟩->ae E.P E.G f args (ao h) K:=fun K hW=>ae.uF hf hb rfl rfl hok.2 hle hW;unfold zk at hr5;have ret:∀env' h' vs,dE E.P (ao h') (aB env') fn.results.toList=some vs->ry h.nx (fR vs) h'=some r->VH h'->(∀Q:AX->St->Prop,(Q .normal ⟨aB env',ao h'⟩/\Q .ret ⟨aB env',ao h'⟩)->W E.P E.G fn.ntmps none c Q ⟨aB env,ao h⟩)->v7 E f args h r:=by
    intro env' h' vs hvs he hv' hW;unfold ry at he;obtain⟨hnx,he2⟩:=fo he;rw[mY]at he2;have he3:r=.ret (fR vs) h':=(Option.some.inj he2).symm;subst he3;refine⟨.ret (fR vs),h',⟨rfl,rfl⟩,hv',fun K hK=>body K ?_⟩;rw[<- henv];have hfin:bb (dE E.P (ao h') (aB env') fn.results.toList) fun vs=>av E.P E.G (ao h) K (fR vs) (ao h'):=⟨vs,hvs,av.mk (Ra hnx) hK⟩
    exact hW _ ⟨hfin,hfin⟩
   split at hr5
   ·rename_i env' h' hi;obtain⟨x,e2,h2,h3,h4,h5⟩:=hI _ _ _ _ _ _ hi hv hok.1;cases h3;split at hr5
    ·rename_i vs hvs;exact ret _ _ _ hvs hr5 h4 fun Q hq=>h5 Q hq.1
    ·cases hr5
   ·rename_i env' h' hi;obtain⟨x,e2,h2,h3,h4,h5⟩:=hI _ _ _ _ _ _ hi hv hok.1;cases h3;split at hr5
    ·rename_i vs hvs;exact ret _ _ _ hvs hr5 h4 fun Q hq=>h5 Q hq.2
    ·cases hr5
   ·rename_i env' h' hi;obtain⟨x,e2,h2,h3,h4,h5⟩:=hI _ _ _ _ _ _ hi hv hok.1;cases h3;obtain⟨hnx,he2⟩:=fo hr5;have he3:r=.panic h':=(Option.some.inj he2).symm;subst he3;refine⟨.panic,h',⟨rfl,rfl⟩,h4,fun K hK=>body K ?_⟩;rw[<- henv];exact h5 _ ⟨ao h',ke.refl _ _,Ra hnx,hK⟩
   ·cases hr5
def J0 (hI:fF E ih){f:FuncId}{args:List S1}{v:S1}(hr:vE E ih f args=some v):ae E.P E.G f args bZ fun r H'=>∃u,r=.ret u/\Tf H' u v:=by
 unfold vE at hr;split at hr
 ·rename_i u h' hc;obtain⟨x,h2,hcr,hv2,hK⟩:=kB hI wc hc;obtain⟨rfl,rfl⟩:=hcr;exact hK _ ⟨u,rfl,Aa _ hr⟩
 ·cases hr
def Ae (hI:fF E ih){f:FuncId}{args:List S1}{o:Option S1}(hr:vF E ih f args=some o):ae E.P E.G f args bZ (oy o):=by
 unfold vF at hr;split at hr
 ·rename_i u h' hc;obtain⟨x,h2,hcr,_,hK⟩:=kB hI wc hc;obtain⟨rfl,rfl⟩:=hcr;split at hr
  ·rename_i w hw;cases hr;exact hK (oy (some w)) ⟨u,rfl,Aa _ hw⟩
  ·cases hr
 ·rename_i h' hc;obtain⟨x,h2,hcr,_,hK⟩:=kB hI wc hc;obtain⟨rfl,rfl⟩:=hcr;cases hr;exact hK (oy none) rfl
 ·cases hr
def Af (hE:TE E){f:FuncId}{args args':List S1}{rs:List Nat}{v:S1}{h:EH}(hm:bF (fU h 40) args=some (args',rs))(hc:ae E.P E.G f args' bZ fun r H'=>∃u,r=.ret u/\Tf H' u v)
  (H2:S2) (ha:∀r,r∈rs->H2.get r=(ao h).get r):ae E.P E.G f args H2 fun r H'=>r=.ret v/\H'=H2:=by
 obtain⟨h1,h2⟩:=lF hm;exact ae.frame hE.gok h1 (fun i hi hi'=>let ⟨ri,h3,h4⟩:=h2 i hi hi';z9 40 h3 H2 fun r hr=>ha r (h4 r hr)) hc
def J1 (hE:TE E)(hI:fF E ih){f:FuncId}{first cap args:List S1}{h:EH}{r:RR}(hv:VH h)(hr:vI E ih f first cap args h=some r):v7 E f (first++args++cap) h r:=by
 unfold vI at hr;split at hr
 ·rw[gq]at hr;split at hr
  ·exact kB hI hv hr
  ·rename_i l hl;unfold zu at hr;split at hr
   ·cases hr
   ·rename_i p hm;split at hr
    ·rename_i v hk;have:r=.ret v h:=(Option.some.inj hr).symm;subst this;refine⟨.ret v,h,⟨rfl,rfl⟩,hv,fun K hK=>?_⟩;exact(Af hE hm (hE.known f l hl _ _ (Ac hk)) (ao h) fun _ _=>rfl).mono fun x H' ⟨h1,h2⟩=>by rw[h1,h2];exact hK
    ·exact kB hI hv hr
 ·rename_i z hz;rw[gq]at hr;unfold zn at hr;split at hr
  ·rename_i g cap2 heq;rw[heq];split at hr
   ·rename_i p hm;obtain⟨hlt,hr⟩:=fo hr;have hview:∀H2:S2,(∀id,id<(ao h).C->H2.get id=(ao h).get id)->∀i (h:i<cap2.length) (h':i<p.1.length),Fz (fun _=>True) H2 0 cap2[i] p.1[i]:=fun H2 ha i hi hi'=>by
     obtain⟨_,h2⟩:=lF hm;obtain⟨ri,h3,h4⟩:=h2 i hi hi';refine z9 40 h3 H2 fun r hr=>ha r ?_;have:=P6.1 hlt r (h4 r hr);rw[Sm]at this;exact this
    unfold zm at hr;split at hr
    ·rename_i u hgo;obtain⟨hok,hr⟩:=fo hr;have:r=.ret (.nc [u,.lit (.int .i64 0)]) h:=(Option.some.inj hr).symm;subst this;refine⟨_,h,⟨rfl,rfl⟩,hv,fun K hK=>?_⟩;exact(hE.gd f z hz g cap2 p.1 (ao h) (some u) (lF hm).1 hview (fun _ h=>by cases h;exact hok) (Ae hI hgo)).mono fun x H' ⟨h1,h2⟩=>by rw[h1,h2];exact hK
    ·rename_i hgo;have:r=.ret (.nc [z.z,.lit (.int .i64 6)]) h:=(Option.some.inj hr).symm;subst this;refine⟨_,h,⟨rfl,rfl⟩,hv,fun K hK=>?_⟩;exact(hE.gd f z hz g cap2 p.1 (ao h) none (lF hm).1 hview (fun _ h=>by cases h) (Ae hI hgo)).mono fun x H' ⟨h1,h2⟩=>by rw[h1,h2];exact hK
    ·cases hr
   ·cases hr
  ·cases hr
def pr {h:EH}{id:Nat}{st:LoopState}{pend:Option Code}{n:Nat}{env:BT S1}{ps:Array Tmp}{asg body:Code}(hg:aW h.hp id=some (.loop st pend n env ps asg body)):
  (ao h).get id=some (.loop st pend n (aB env) ps asg body):=by
 show Option.map Tb.iZ (aW h.hp id)=_;rw[hg];rfl
def VH.set {h:EH}(hv:VH h){hp:BT Tb}{id:Nat}{b:Tb}(hs:∀m,aW hp m=if m=id then some b else aW h.hp m)(hid:id<h.nx):VH ⟨hp,h.nx⟩:=by
 intro j x hj;rw[hs]at hj;show j<h.nx;split at hj
 ·omega
 ·exact hv _ _ hj
def we {h:EH}{hp:BT Tb}{id:Nat}{b:Tb}(hs:∀m,aW hp m=if m=id then some b else aW h.hp m):ao ⟨hp,h.nx⟩=(ao h).upd id b.iZ:=by
 rw[sA (nx:=h.nx) hs];rfl
def J2 (hI:fF E ih){id:Nat}{args:List S1}{h:EH}{r:RR}(hv:VH h)(hr:vG ih id args h=some r):v9 E (.ng id) args h r:=by
 unfold vG at hr;split at hr
 ·rename_i pend n env ps asg body hg;obtain ⟨hok,hr1⟩:=fo hr;unfold zt at hok;simp only [PV] at hok;obtain ⟨hokB,hf1,hf2,hps⟩:=hok;obtain ⟨e0,hr2,hlen,he0⟩:=JW hr1;have hget:=pr hg;have hid : id<h.nx:=hv _ _ hg
    -- the rule of a round
  have rule:∀K:S8->S2->Prop,W E.P E.G n (some id) asg (zd E.P E.G n id body K) ⟨aB e0,ao h⟩->aH E.P E.G (.ng id) args (ao h) K:=fun K hW=>by
   refine aH.ng hget (by simpa using hlen) hps ?_;rw[JY hokB,<- he0];exact hW
  unfold zp at hr2;split at hr2
  ·rename_i e1 h1 hi;obtain⟨x,e2,h2,h3,h4,h5⟩:=hI _ _ _ _ _ _ hi hv hf1;cases h3;split at hr2
   ·rename_i pend2 n2 env2 ps2 asg2 body2 hg1;obtain ⟨hp1,hr3,hs1⟩:=kx _ _ _ _ _ hr2;have hget1:=pr hg1;have hv1 : VH ⟨hp1,h1.nx⟩:=h4.set hs1 (h4 _ _ hg1);have hup1:=we (h:=h1) hs1;have mk : ∀ (x2 : AX) (e3 : BT S1) (h3 : EH) (st : LoopState) (pd : Option Code) (b : Bool),ih (some id) n body e1 ⟨hp1,h1.nx⟩=some (.ev x2 e3 h3)→oY id st pd b h3=some r →
      (∀K:S8->S2->Prop,uV id K x2 ⟨aB e3,ao h3⟩=bb (ki st pd ((ao h3).get id)) fun blk=>K (.ret (.lit (.bool b))) ((ao h3).upd id blk))->v9 E (.ng id) args h r:=by
     intro x2 e3 h3 st pd b hi2 hre hq;obtain⟨x',e',h',h6,h7,h8⟩:=hI _ _ _ _ _ _ hi2 hv1 hf2;cases h6;unfold oY at hre;split at hre
     ·rename_i n3 env3 ps3 asg3 body3 hg3;obtain⟨hp3,hr4,hs3⟩:=kx _ _ _ _ _ hre;have hr5:r=.ret (.lit (.bool b)) ⟨hp3,h3.nx⟩:=(Option.some.inj hr4).symm;subst hr5;have hup3:=we (h:=h3) hs3;refine⟨_,_,⟨rfl,rfl⟩,h7.set hs3 (h7 _ _ hg3),fun K hK=>rule K (h5 _ ?_)⟩;refine⟨_,by rw[hget1];rfl,?_⟩;have hbusy:(ao h1).upd id (.loop .busy pend2 n2 (aB env2) ps2 asg2 body2)=ao ⟨hp1,h1.nx⟩:=hup1.symm;show W E.P E.G n (some id) body (uV id K) ⟨aB e1,(ao h1).upd id (.loop .busy pend2 n2 (aB env2) ps2 asg2 body2)⟩;rw[hbusy];refine h8 _ ?_;rw[hq];refine⟨.loop st pd n3 (aB env3) ps3 asg3 body3,by rw[pr hg3];rfl,?_⟩;rw[hup3]at hK;exact hK
     ·cases hre
    unfold endRound at hr3;split at hr3
    ·rename_i e3 h3 hi2;exact mk _ _ _ _ _ _ hi2 hr3 fun _=>rfl
    ·rename_i e3 h3 hi2;exact mk _ _ _ _ _ _ hi2 hr3 fun _=>rfl
    ·rename_i i e3 h3 hi2;exact mk _ _ _ _ _ _ hi2 hr3 fun _=>rfl
    ·cases hr3
   ·cases hr2
  ·cases hr2
 ·cases hr
def J3 (hE:TE E)(hI:fF E ih){fv:S1}{args:List S1}{h:EH}{r:RR}(hv:VH h)(hr:rC E ih fv args h=some r):v9 E fv args h r:=by
 unfold rC at hr;split at hr
 ·rename_i f first cap
  split at hr
  ·obtain⟨x,h',h1,h2,h3⟩:=J1 hE hI hv hr;exact⟨x,h',h1,h2,fun K hK=>aH.nl (h3 K hK)⟩
  ·rename_i e he;unfold zw at hr;split at hr
   ·rename_i hfc;obtain⟨rfl,rfl⟩:=SI.1 hfc;rw[gq]at hr;split at hr
    ·rename_i v hv2;rw[mY]at hr;have:r=.ret v h:=(Option.some.inj hr).symm;subst this;exact⟨_,h,⟨rfl,rfl⟩,hv,fun K hK=>hE.ext f e he _ _ hv2 _ _ hK⟩
    ·cases hr
   ·cases hr
 ·exact J2 hI hv hr
 ·cases hr
def sE {h:EH}{rd:Option Nat}(hr:mR h rd=true):dR (ao h) rd:=by
 unfold mR at hr;split at hr
 ·trivial
 ·rename_i id;split at hr
  ·rename_i st pend n env ps asg body hg;exact⟨st,pend,n,aB env,ps,asg,body,pr hg⟩
  ·cases hr
abbrev Rest (r:RR)(KQ:(AX->St->Prop)->St->Prop)(env:BT S1)(h:EH):Prop :=
 ∃x e2 h2,r=.ev x e2 h2/\VH h2/\∀Q:AX->St->Prop,Q x ⟨aB e2,ao h2⟩->KQ Q ⟨aB env,ao h⟩
def J4 {P:Program}{H:S2}{op:BinOp}{t:TypeId}{x y:Operand}{a b v:S1}(h:bh P op t x y a b=some v):gj H op a b=none:=by
 cases hn:gj H op a b with
 |none=>rfl
 |some c =>
  exfalso;unfold gj at hn;unfold bh at h;split at hn
  ·cases a<;>simp_all[S1.bM]
  ·cases a<;>simp_all[S1.bM]
  ·cases hn
def J5 {P:Program}{G:Nat->Option (List S1)}{rd:Option Nat}{Q:AX->St->Prop}{o:Oper}{K:St->Prop}{s:St}{v:S1}{H':S2}(hop:ah P G s.ρ s.H s.H.C o.op=some (v,H'))(hk:K ⟨aD s.ρ o.dst v,H'⟩):aO P G rd Q o K s:=by
 unfold aO;split
 ·rename_i h;rw[h]at hop;simp[ah]at hop
 ·rename_i h;rw[h]at hop;simp[ah]at hop
 ·rename_i op t x y u h;rw[h]at hop;have hb:(bh P op t x y (aj G s.ρ x) (aj G s.ρ y)).map (fun v=>(v,s.H))=some (v,H'):=hop;simp only[an,Prod.mk.injEq]at hb;obtain⟨v',hb1,_,_⟩:=hb;rw[J4 hb1];exact⟨(v,H'),hop,hk⟩
 ·exact⟨(v,H'),hop,hk⟩
def J6 (hE:TE E)(hI:fF E ih){rd:Option Nat}{o:Oper}{k:BT S1->EH->R}{env:BT S1}{h:EH}{r:RR}{KQ:(AX->St->Prop)->St->Prop}(hv:VH h)
  (hk:∀env' h',VH h'->k env' h'=some r->Rest r KQ env' h') (hr:se o.op E ih rd o.dst k env h=some r):Rest r (fun Q=>aO E.P E.G rd Q o (KQ Q)) env h:=by
 rcases JS hv hr with ⟨v,env',h',hop,hv',he,hkr⟩|⟨op,t,x,y,u,env',hop,hn,hs,he,hkr⟩|⟨fv,args,ats,hop,hrv⟩|⟨x,hop,hrp⟩
 ·obtain⟨x,e2,h2,h3,h4,h5⟩:=hk _ _ hv' hkr;refine⟨x,e2,h2,h3,h4,fun Q hq=>J5 (v:=v) (H':=ao h') hop ?_⟩;have:=h5 Q hq;rw[he]at this;exact this
 ·obtain⟨x',e2,h2,h3,h4,h5⟩:=hk _ _ hv hkr;refine⟨x',e2,h2,h3,h4,fun Q hq=>?_⟩;unfold aO;rw[hop];simp only;rw[hn];refine⟨hs,fun b hb=>?_⟩;have hb':=hb rfl;subst hb';have:=h5 Q hq;rw[he]at this;cases hnq:(op == BinOp.neq)<;>rw[hnq]at this<;>exact this
 ·unfold vK at hrv;rw [mZ,cr] at hrv;unfold zx at hrv;have key : ∀ {x : S8} {h' : EH} {r0 : RR},rC E ih (aj E.G (aB env) fv) (args.toList.map (aj E.G (aB env))) h=some r0→vZ r0 x h'→VH h'∧∀ (Q : AX→St→Prop),(dR (ao h') rd∧match (x : S8) with
    |.ret v=>KQ Q ⟨aD (aB env) o.dst v,ao h'⟩
    |.panic=>Q .panic ⟨aB env,ao h'⟩)->aO E.P E.G rd Q o (KQ Q) ⟨aB env,ao h⟩:=by
   intro x h' r0 happ hc;obtain⟨x2,h2,hc2,hv2,hK⟩:=J3 hE hI hv happ;have hx:x2=x/\h2=h':=by
    cases r0 with
    |ret v h0=>exact⟨hc2.1.trans hc.1.symm,hc2.2.trans hc.2.symm⟩
    |panic h0=>exact⟨hc2.1.trans hc.1.symm,hc2.2.trans hc.2.symm⟩
    |ev=>exact hc.elim
   obtain⟨rfl,rfl⟩:=hx;refine⟨hv2,fun Q hq=>?_⟩;unfold aO;rw[hop];exact hK _ hq
  split at hrv
  ·rename_i v h' happ;obtain⟨hrd,hrv2⟩:=fo hrv;obtain⟨hv',hq⟩:=key happ (x:=.ret v) (h':=h') ⟨rfl,rfl⟩;obtain⟨env',h1,h2⟩:=jI hrv2;obtain⟨x,e2,h3,h4,h5,h6⟩:=hk _ _ hv' h1;refine⟨x,e2,h3,h4,h5,fun Q hQ=>hq Q ⟨sE hrd,?_⟩⟩;have:=h6 Q hQ;rw[h2]at this;exact this
  ·rename_i h' happ;obtain⟨hrd,hrv2⟩:=fo hrv;obtain⟨hv',hq⟩:=key happ (x:=.panic) (h':=h') ⟨rfl,rfl⟩;exact⟨.panic,env,h',(Option.some.inj hrv2).symm,hv',fun Q hQ=>hq Q ⟨sE hrd,hQ⟩⟩
  ·cases hrv
 ·unfold vJ at hrp;split at hrp
  ·rename_i t v heq;refine⟨.panic,env,h,(Option.some.inj hrp).symm,hv,fun Q hq=>?_⟩;unfold aO;rw[hop];exact⟨⟨t,v,heq⟩,hq⟩
  ·cases hrp
def Ag {all:Array Oper}{ρ:Env}{o:Oper}{yes no:R}{r:RR}(hr:mU all ρ o.guard yes no=some r):(dD all ρ o=some true/\yes=some r)\/(dD all ρ o=some false/\no=some r):=by
 unfold mU at hr;unfold dD;cases hg:o.guard with
 |none=>rw[hg]at hr;exact .inl ⟨rfl,hr⟩
 |some jw =>
  obtain⟨j,want⟩:=jw;rw[hg]at hr;have hr2:vM all ρ yes no (j,want)=some r:=hr;unfold vM at hr2;simp only at hr2 ⊢;split at hr2
  ·rename_i d hd;rw[hd];simp only;split at hr2
   ·rename_i b hb;rw[hb];cases hbw:b == want with
    |true=>rw[hbw]at hr2;exact .inl ⟨by show some (b == want)=_;rw[hbw],hr2⟩
    |false=>rw[hbw]at hr2;exact .inr ⟨by show some (b == want)=_;rw[hbw],hr2⟩
   ·rename_i v hnb hb;rw[hb];exact .inr ⟨by cases v<;>first|rfl|exact absurd rfl (hnb _),hr2⟩
   ·cases hr2
  ·rename_i hd;rw[hd];exact .inr ⟨rfl,hr2⟩
def Ah (hE:TE E)(hI:fF E ih){rd:Option Nat}{all:Array Oper}{r:RR}:∀(l:List Oper) (env:BT S1) (h:EH),VH h->mV E ih rd all l env h=some r->Rest r (fun Q=>opsV E.P E.G rd Q all l) env h:=by
 intro l
 induction l with
 |nil=>exact fun env h hv hr=>⟨.normal,env,h,(Option.some.inj hr).symm,hv,fun Q hq=>hq⟩
 |cons o l ihl =>
  intro env h hv hr;have hr1:mU all (aB env) o.guard (se o.op E ih rd o.dst (mV E ih rd all l) env h) (eH env o.dst (.lit undef) fun env=>mV E ih rd all l env h)=some r:=hr;rcases Ag hr1 with ⟨hw,hr2⟩|⟨hw,hr2⟩
  ·obtain⟨x,e2,h2,h3,h4,h5⟩:=J6 hE hI (KQ:=fun Q=>opsV E.P E.G rd Q all l) hv (fun env' h' hv' hk=>ihl env' h' hv' hk) hr2;exact⟨x,e2,h2,h3,h4,fun Q hq=>⟨true,hw,h5 Q hq⟩⟩
  ·obtain⟨env',h1,h2⟩:=jI hr2;obtain⟨x,e2,h2',h3,h4,h5⟩:=ihl env' h hv h1;refine⟨x,e2,h2',h3,h4,fun Q hq=>⟨false,hw,?_⟩⟩;have:=h5 Q hq;rw[h2]at this;exact this
def na {I:Machine->Prop}{P:Program}{m t m1:Machine}(h:StepsIn I P m t)(hs:step P m=.next m1)(hne:m≠t):StepsIn I P m1 t:=by
 cases h with
 |refl=>exact absurd rfl hne
 |head hI h' h'' =>
  rw[hs]at h';cases h';exact h''
def sF {b b':Frame}{a a':Act}{k k':List Item}{cs cs':List Frame}{w w':World}(h:k≠k'):lone (b.atR a k) cs w≠lone (b'.atR a' k') cs' w':=by
 intro he;simp only[lone,Machine.mk.injEq,Array.mk.injEq,List.cons.injEq,Goroutine.mk.injEq,Frame.atR,Frame.mk.injEq]at he;exact h he.2.1.1.1.2.2.1
def Ai {b b':Frame}{a a':Act}{k k':List Item}{cs cs':List Frame}{w w':World}{u:FrameMode}(h:u≠.run):lone (b.atR a k) cs w≠lone { b'.atR a' k' with mode:=u } cs' w':=by
 intro he;simp only[lone,Machine.mk.injEq,Array.mk.injEq,List.cons.injEq,Goroutine.mk.injEq,Frame.atR,Frame.mk.injEq]at he;exact h he.2.1.1.1.2.2.2.2.1.symm
def J7 {id:Nat}:∀ {k k':List Item},exitTo id k=some k'->k'.length<=k.length:=by
 intro k
 induction k with
 |nil=>intro k' h;cases h
 |cons x k ih =>
  intro k' h;have hle:exitTo id k=some k'->k'.length<=(x :: k).length:=fun h=>Nat.le_succ_of_le (ih h);cases x with
  |inBlock id' =>
   simp only[exitTo]at h;split at h
   ·cases h;simp
   ·exact hle h
  |_=>exact hle h
def W.J8 {P:Program}{G:Nat->Option (List S1)}{n:Nat}{rd:Option Nat}{c:Code}{Q:AX->St->Prop}{s:St}(hQ:∀l s,¬Q (.goto l) s)(h:W P G n rd c (gi (W P G n rd (.loop c) Q) Q) s):W P G n rd (.loop c) Q s:=by
 intro wb Γ a w rb hs hr b k cs hro hb hrm;have h0:(lone (b.atR a (.code (.loop c) :: k)) cs w).fenced P (cV rb):=fenced_calm hb hrm rfl;obtain⟨e,a₁,w₁,⟨x,s₁,Γ₁,hx,hq,hs₁,E₁,hn₁,hr₁,hf₁⟩,harr⟩:=h wb Γ a w rb hs hr b (.inLoop c :: k) cs hro hb hrm;cases e with
 |normal =>
  cases x with
  |normal =>
   obtain⟨e,a₂,w₂,hp,harr₂⟩:=hq wb Γ₁ a₁ w₁ rb hs₁ hr₁ b k cs hro hb hrm;have hp':=hp.step E₁ hn₁ hf₁ fun t ht=>ht;refine⟨e,a₂,w₂,hp',?_⟩;have start:StepsIn (Machine.fenced P (cV rb)) P (lone (b.atR a (.code (.loop c) :: k)) cs w) (lone (b.atR a₁ (.code c :: .inLoop c :: k)) cs w₁) :=
    .head h0 stepR_loop (StepsIn.trans harr (.one (fenced_calm hb hrm rfl) stepR_inLoop))
   obtain⟨y,s₂,Γ₂,hy,hq₂,_⟩:=hp;have hl:∀(k':List Item),k'.length<=k.length->Item.code (.loop c) :: k≠k':=fun k' hk' he=>by subst he;simp only[List.length_cons]at hk';omega
   cases e with
   |normal=>exact start.trans (na harr₂ stepR_loop (sF (hl _ S0)))
   |exit id =>
    refine⟨fun k' hk'=>start.trans (na (harr₂.1 k' hk') stepR_loop (sF (hl _ (J7 hk')))),fun hr2 hk'=>?_⟩;obtain⟨k₁,h1,h2⟩:=harr₂.2 hr2 hk';exact⟨k₁,h1,start.trans (na h2 stepR_loop (sF (k':=.code (.exit id) :: k₁) (fun he=>by cases he)))⟩
   |goto l=>cases y with
    |goto l'=>exact absurd hq₂ (hQ _ _)
    |_=>exact hy.elim
   |ret =>
    refine⟨fun hr2=>?_,fun hr2=>?_⟩
    ·obtain⟨todo,h1⟩:=harr₂.1 hr2;exact⟨todo,start.trans (na h1 stepR_loop (Ai (fun he=>by cases he)))⟩
    ·obtain⟨k₁,h1⟩:=harr₂.2 hr2;exact⟨k₁,start.trans (na h1 stepR_loop (sF (k':=.code .ret :: k₁) (fun he=>by cases he)))⟩
   |panic ch =>
    obtain⟨todo,h1⟩:=harr₂;exact⟨todo,start.trans (na h1 stepR_loop (Ai (fun he=>by cases he)))⟩
   |outgrown=>cases y<;>exact hy.elim
  |_=>exact hx.elim
 |exit id=>cases x with
  |exit j=>exact⟨_,a₁,w₁,⟨.exit j,s₁,Γ₁,hx,hq,hs₁,E₁,hn₁,hr₁,hf₁⟩,.of_steps (.one h0 stepR_loop) (.pass (x:=.inLoop c) rfl (fun _ _=>.inl SX) harr)⟩
  |_=>exact hx.elim
 |goto id=>cases x with
  |goto j=>exact⟨_,a₁,w₁,⟨.goto j,s₁,Γ₁,hx,hq,hs₁,E₁,hn₁,hr₁,hf₁⟩,.of_steps (.one h0 stepR_loop) (.pass (x:=.inLoop c) rfl (fun _ _=>.inl SX) harr)⟩
  |_=>exact hx.elim
 |ret=>cases x with
  |ret=>exact⟨_,a₁,w₁,⟨.ret,s₁,Γ₁,hx,hq,hs₁,E₁,hn₁,hr₁,hf₁⟩,.of_steps (.one h0 stepR_loop) (.pass (x:=.inLoop c) rfl (fun _ _=>.inl SX) harr)⟩
  |_=>exact hx.elim
 |panic ch=>cases x with
  |panic=>exact⟨_,a₁,w₁,⟨.panic,s₁,Γ₁,hx,hq,hs₁,E₁,hn₁,hr₁,hf₁⟩,.of_steps (.one h0 stepR_loop) (.pass (x:=.inLoop c) rfl (fun _ _=>.inl SX) harr)⟩
  |_=>exact hx.elim
 |outgrown=>cases x<;>exact hx.elim
def Aj {b:Nat}{f:FP}{acc:List (Nat × FP)}(h:vO b f acc=true):eR b f acc:=by
 intro p hp hb;have:=P6.1 h p hp;rw[hb,SH,PV,P6,P6]at this;refine⟨fun r hr hr2=>?_,fun r hr hr2=>?_⟩
 ·have:=this.1 r hr;simp[hr2]at this
 ·have:=this.2 r hr;simp[hr2]at this
def iU.J9 {P:Program}{G:Nat->Option (List S1)}{fv:S1}{args:List S1}{H:S2}{v:S1}{rs:List Nat}(h1:∀r,r∈rs->r<H.C)
  (h2:∀H2:S2,(∀r,r∈rs->H2.get r=H.get r)->aH P G fv args H2 fun r H3=>r=.ret v/\H3=H2):Ev.iU P G fv args H v (fun _=>none) 0 ⟨[],rs⟩ :=
 ⟨h1,fun r (hr:false=true)=>absurd hr SY,fun c hc=>absurd hc (PS _),fun H2 ha _ _=>h2 H2 ha⟩
def nf (E:EP)(fv:S1)(args:List S1)(h:EH)(k:S1->FP->EH->R)(r:RR):Prop :=
 ∃v e n fp h2,k v fp h2=some r/\VH h2/\ao h2=⟨Ev.bK e (ao h).get,(ao h).C+n⟩/\Ev.iU E.P E.G fv args (ao h) v e n fp
def nf.pure {fv:S1}{args:List S1}{h:EH}{k:S1->FP->EH->R}{r:RR}{v:S1}{rs:List Nat}(hv:VH h)(hk:k v ⟨[],rs⟩ h=some r)(h1:∀r,r∈rs->r<(ao h).C)
  (h2:∀H2:S2,(∀r,r∈rs->H2.get r=(ao h).get r)->aH E.P E.G fv args H2 fun r H3=>r=.ret v/\H3=H2):nf E fv args h k r :=
 ⟨v,_,0,_,h,hk,hv,rfl,iU.J9 h1 h2⟩
def Ak {l:List Nat}{n:Nat}(h:(l.all fun r=>Nat.blt r n)=true):∀r,r∈l->r<n:=fun r hr=>by
 have:=P6.1 h r hr;rw[Sm]at this;exact this
def wg (hE:TE E)(hI:fF E ih){f:FuncId}{first cap args:List S1}{h:EH}{k:S1->FP->EH->R}{r:RR}(hv:VH h)(hr:sf E ih f (first++args++cap) h k=some r):nf E (.nl f first cap) args h k r:=by
 obtain⟨kp,hr1,hinv⟩:=kD (fun v acc k r=>Kk 40 v acc k r) hr;have hgood:∀id,id∈kp->ni h 0 [] kp id:=fun id hid=>(hinv.2 id hid).resolve_left (List.not_mem_nil);have hkn:∀id,id∈kp->id<h.nx:=fun id hid=>let ⟨_,g,e,c,hg,_⟩:=hgood id hid;hv id _ hg
 unfold zF at hr1;split at hr1
 ·rename_i p hp;obtain⟨hfz,hr2⟩:=fo hr1;obtain⟨hp1,hr3,hget⟩:=Km hr2;have hvs:VH ⟨hp1,h.nx⟩:=by
   intro id b hb;have hb':aW hp1 id=some b:=hb;rw[hget]at hb';split at hb'
   ·exact hv id b hb'
   ·cases hb'
  unfold zE at hr3;split at hr3
  ·rename_i v h' hc;obtain⟨x,h2,hcr,hv2,hK⟩:=kB hI hvs hc;obtain⟨rfl,rfl⟩:=hcr;unfold zD at hr3;split at hr3
   ·rename_i lv hle hsame hlv;obtain⟨hi2,hcl⟩:=Ap 40 v [] lv hlv;have hgl:∀id,id∈lv->ni h2 h.nx kp lv id:=fun id hid=>(hi2.2 id hid).resolve_left (List.not_mem_nil);have hln:∀id,id∈lv->id<h2.nx:=fun id hid=>let ⟨_,g,e,c,hg,_⟩:=hgl id hid;hv2 id _ hg
    have hle':h.nx<=h2.nx:=Ra hle;obtain⟨t',hr4,hnew⟩:=Kq hr3;rw[fV]at hr4;have hKin:∀id,gy h.nx kp lv id->(id∈kp\/(h.nx<=id/\id<h2.nx/\dV lv id=true)):=by
     rintro id (⟨h1,h3⟩|⟨h1,h3⟩)
     ·exact .inl h3
     ·exact .inr ⟨U,hln id h3,jf.2 h3⟩
    obtain⟨hm1,hm2⟩:=lF hp;have hE1:=Ev.iU.mk (P:=E.P) (G:=E.G) (f:=f) (first:=first) (cap:=cap) (args:=args) (args':=p.1) (v:=v) (H:=ao h) (ao ⟨hp1,h.nx⟩) (ao h2) (fun id=>id∈kp) (dV lv) (kp++p.2) hE.gok
     (fun r hr=>by
      rcases PT.1 hr with hr|hr
      ·exact hkn r hr
      ·exact Ak hfz r hr)
     rfl hle'
     (fun id hid=>by
      obtain⟨_,g,e,c,hg,hcc⟩:=hgood id hid;refine⟨Rd _ hid,?_,?_,g,e,c,kA hg,fun i hi=>(hcc i hi).mono fun j hj=>hj.elim (fun h=>absurd h.1 (PS _)) fun h=>h.2⟩
      ·show Option.map _ (aW hp1 id)=Option.map _ (aW h.hp id);rw[hget,PG hid]
      ·show Option.map _ (aW h2.hp id)=Option.map _ (aW h.hp id);rw[<- Kp (Kj hsame id hid)])
     (fun id hid=>by
      show Option.map _ (aW hp1 id)=none;rw[hget,PC hid];rfl)
     hm1
     (fun H2 ha i hi hi'=>by
      obtain⟨ri,h3,h4⟩:=hm2 i hi hi';exact Kl hkn 40 h3 H2 fun r hr=>ha r (QW _ (h4 r hr)))
     (hK _ ⟨rfl,rfl⟩)
     (hcl.mono hKin)
     (fun id h1 h3 h4=>by
      obtain⟨_,g,e,c,hg,hcc⟩:=hgl id (jf.1 h4);exact⟨g,e,c,kA hg,fun i hi=>(hcc i hi).mono hKin⟩)
    refine⟨v,_,_,_,⟨t',h2.nx⟩,hr4,?_,?_,hE1⟩
    ·intro id b hb;have hb':aW t' id=some b:=hb;rw[hnew]at hb';show id<h2.nx;split at hb'
     ·rename_i hc;have:Nat.sub h2.nx h.nx=h2.nx-h.nx:=rfl;rw[this]at hc;omega
     ·have:=hv id b hb';omega
    ·have hget2:(ao ⟨t',h2.nx⟩).get=Ev.bK (Ev.ed (ao h).C (ao h2).C (dV lv) (ao h2).get) (ao h).get:=by
      funext m
      show Option.map Tb.iZ (aW t' m)=_;rw[hnew];have hsub:h.nx+Nat.sub h2.nx h.nx=h2.nx:=by
       have:Nat.sub h2.nx h.nx=h2.nx-h.nx:=rfl;omega
      rw[hsub];unfold Ev.bK Ev.ed;by_cases hc:h.nx<=m/\m<h2.nx
      ·rw[PG hc,PG (show (ao h).C<=m/\m<(ao h2).C from hc)];by_cases hm:dV lv m=true
       ·obtain⟨_,g,e,c,hg,hcc⟩:=hgl m (jf.1 hm);rw[PG hm,PG hm,kA hg,hg];rfl
       ·rw[PC hm,PC hm];rfl
      ·rw[PC hc,PC (show ¬((ao h).C<=m/\m<(ao h2).C) from hc)];rfl
     have hnx:(ao ⟨t',h2.nx⟩).C=(ao h).C+((ao h2).C-(ao h).C):=by
      show h2.nx=h.nx+(h2.nx-h.nx)
      omega
     calc ao ⟨t',h2.nx⟩=⟨(ao ⟨t',h2.nx⟩).get,(ao ⟨t',h2.nx⟩).C⟩:=rfl
      _=_:=by rw[hget2,hnx]
   ·cases hr3
  ·cases hr3
 ·cases hr1
def Ka (hE:TE E)(hI:fF E ih){fv:S1}{args:List S1}{h:EH}{k:S1->FP->EH->R}{r:RR}(hv:VH h)(hr:vQ E ih fv args h k=some r):nf E fv args h k r:=by
 unfold vQ at hr;split at hr
 ·rename_i f first cap
  split at hr
  ·unfold zH at hr;split at hr
   ·cases hr
   ·rw[gq]at hr;split at hr
    ·exact wg hE hI hv hr
    ·rename_i l hl;unfold zG at hr;split at hr
     ·exact wg hE hI hv hr
     ·rename_i p hm;split at hr
      ·rename_i v hf;obtain⟨hlt,hr2⟩:=fo hr;exact nf.pure hv hr2 (Ak hlt) fun H2 ha=>aH.nl (Af hE hm (hE.known f l hl p.1 v (Ac hf)) H2 ha)
      ·exact wg hE hI hv hr
  ·rename_i e he;unfold zC at hr;split at hr
   ·rename_i hfc;obtain⟨rfl,rfl⟩:=SI.1 hfc;rw[gq]at hr;split at hr
    ·rename_i v hv2;exact nf.pure hv hr (fun r hr=>by cases hr) fun H2 _=>hE.ext f e he _ _ hv2 _ _ ⟨rfl,rfl⟩
    ·cases hr
   ·cases hr
 ·cases hr
def Kc (hE:TE E)(hI:fF E ih){o:Oper}{b i:Nat}{acc:List (Nat × FP)}{k:mW}{env:BT S1}{h:EH}{r:RR}{KQ:(AX->St->Prop)->List (Nat × FP)->St->Prop}(hv:VH h)
  (hk:∀acc env' h',VH h'->k acc env' h'=some r->Rest r (fun Q=>KQ Q acc) env' h') (hr:sh E ih o b i acc k env h=some r):
  Rest r (fun Q s=>Ev.bz E.P E.G o (fun f s'=>eR b f acc/\KQ Q (dS i f acc) s') s) env h:=by
 have gen:∀ {op:Op},o.op=op->sg o.dst b i acc k env (bp E.P E.G (aB env) h.nx op) (lC E env h op) h=some r->(∀fv args ats,op≠.call ⟨.value fv,args,ats⟩) ->
   Rest r (fun Q s=>Ev.bz E.P E.G o (fun f s'=>eR b f acc/\KQ Q (dS i f acc) s') s) env h:=by
  intro op hop hd hne;unfold sg at hd;obtain⟨hap,hd2⟩:=fo hd;obtain⟨v,h',h1,h2,h3⟩:=zW hv (sD hv).1 hd2;obtain⟨env',h4,h5⟩:=jI h3;obtain⟨x,e2,h6,h7,h8,h9⟩:=hk _ _ _ h2 h4;refine⟨x,e2,h6,h7,h8,fun Q hq=>?_⟩;have hopA:=(sD hv).2 _ _ h1;have hq2:=h9 Q hq;rw[h5]at hq2;unfold Ev.bz;split
  ·rename_i hop2;exact absurd (hop.symm.trans hop2) (hne _ _ _)
  ·refine⟨(v,ao h'),by rw[hop];exact hopA,?_⟩;rw[hop];exact⟨Aj hap,hq2⟩
 unfold sh at hr;split at hr
 ·rename_i c hop;split at hr
  ·rename_i fv hc;rw[mZ,cr]at hr;obtain⟨v,e,n,fp,h2,hr2,hv2,hH,hec⟩:=Ka hE hI hv hr;unfold zI at hr2;obtain⟨hap,hd2⟩:=fo hr2;rw[mY]at hd2;obtain⟨env',h4,h5⟩:=jI hd2;obtain⟨x,e2,h6,h7,h8,h9⟩:=hk _ _ _ hv2 h4;refine⟨x,e2,h6,h7,h8,fun Q hq=>?_⟩;have hq2:=h9 Q hq;rw[h5,hH]at hq2;obtain⟨callee,args,ats⟩:=c;simp only at hc;subst hc;unfold Ev.bz;rw[hop];exact⟨v,e,n,fp,hec,Aj hap,hq2⟩
  ·rename_i hne;refine gen hop hr fun fv args ats he=>?_;have he2:c=⟨.value fv,args,ats⟩:=Op.call.inj he;exact hne fv (by rw[he2])
 ·cases hr
 ·rename_i op hne1 hne2;exact gen rfl hr fun fv args ats he=>hne1 _ he
def Kd (hE:TE E)(hI:fF E ih){all:Array Oper}{tail:BT S1->EH->R}{r:RR}{TQ:(AX->St->Prop)->St->Prop}(ht:∀env h,VH h->tail env h=some r->Rest r TQ env h):
  ∀(l:List Oper) (bs:List Nat) (i:Nat) (acc:List (Nat × FP)) (env:BT S1) (h:EH),VH h->sj E ih all tail l bs i acc env h=some r->Rest r (fun Q=>Ev.cz E.P E.G all (TQ Q) bs i acc l) env h:=by
 intro l
 induction l with
 |nil =>
  intro bs i acc env h hv hr;obtain⟨x,e2,h2,h3,h4,h5⟩:=ht env h hv hr;exact⟨x,e2,h2,h3,h4,fun Q hq=>by cases bs<;>exact h5 Q hq⟩
 |cons o l ihl =>
  intro bs i acc env h hv hr;cases bs with
  |nil=>cases hr
  |cons b bs =>
   have hr1:mU all (aB env) o.guard (sh E ih o b i acc (sj E ih all tail l bs (i+1)) env h) (eH env o.dst (.lit undef) fun env=>sj E ih all tail l bs (i+1) acc env h)=some r:=hr;rcases Ag hr1 with ⟨hw,hr2⟩|⟨hw,hr2⟩
   ·obtain⟨x,e2,h2,h3,h4,h5⟩:=Kc hE hI (KQ:=fun Q acc=>Ev.cz E.P E.G all (TQ Q) bs (i+1) acc l) hv (fun acc env' h' hv' hk=>ihl bs (i+1) acc env' h' hv' hk) hr2;exact⟨x,e2,h2,h3,h4,fun Q hq=>⟨true,hw,h5 Q hq⟩⟩
   ·obtain⟨env',h1,h2⟩:=jI hr2;obtain⟨x,e2,h2',h3,h4,h5⟩:=ihl bs (i+1) acc env' h hv h1;refine⟨x,e2,h2',h3,h4,fun Q hq=>⟨false,hw,?_⟩⟩;have:=h5 Q hq;rw[h2]at this;exact this
def Al {r0:R}{r:RR}(h:mX r0=some r):r0=some r/\∀l e h,r≠.ev (.goto l) e h:=by
 unfold mX at h;split at h
 ·cases h
 ·rename_i hne;subst h;exact⟨rfl,fun l e h he=>hne l e h (by rw[he])⟩
def Ke (hE:TE E)(hI:fF E ih):fF E (zL E ih):=by
 intro rd n c env h r hr hv hf;have seqK:∀(a:Code) (b:Code),fits n a=true->fits n b=true->pj ih rd n b (ih rd n a env h)=some r ->
   ∃x env' h',r=.ev x env' h'/\VH h'/\∀Q:AX->St->Prop,Q x ⟨aB env',ao h'⟩->W E.P E.G n rd a (gi (W E.P E.G n rd b Q) Q) ⟨aB env,ao h⟩:=by
  intro a b hfa hfb hs;unfold pj at hs;split at hs
  ·rename_i e1 h1 hi;obtain⟨x,e2,h2,h3,h4,h5⟩:=hI _ _ _ _ _ _ hi hv hfa;cases h3;obtain⟨x',e',h',h6,h7,h8⟩:=hI _ _ _ _ _ _ hs h4 hfb;exact⟨x',e',h',h6,h7,fun Q hq=>h5 _ (h8 Q hq)⟩
  ·rename_i r0 hne;obtain⟨x,e2,h2,h3,h4,h5⟩:=hI _ _ _ _ _ _ hs hv hfa;subst h3;refine⟨x,e2,h2,rfl,h4,fun Q hq=>h5 _ ?_⟩;cases x with
   |normal=>exact absurd hs (hne _ _)
   |_=>exact hq
 cases c with
 |skip=>exact⟨.normal,env,h,(Option.some.inj hr).symm,hv,fun Q hq=>.skip hq⟩
 |label l=>exact⟨.normal,env,h,(Option.some.inj hr).symm,hv,fun Q hq=>.label hq⟩
 |exit i=>exact⟨.exit i,env,h,(Option.some.inj hr).symm,hv,fun Q hq=>.exit hq⟩
 |ret=>exact⟨.ret,env,h,(Option.some.inj hr).symm,hv,fun Q hq=>.ret hq⟩
 |goto l=>cases hr
 |refuse w=>cases hr
 |region id ops dr =>
  have hr1:Bool.rec (motive:=fun _=>R) (mV E ih rd ops ops.toList env h) (sk E ih rd ops (kr ops.toList []) (ph (kr ops.toList []) ops.toList.length) env h) dr=some r:=hr;cases dr with
  |false =>
   obtain⟨x,e2,h2,h3,h4,h5⟩:=Ah hE hI ops.toList env h hv hr1;exact⟨x,e2,h2,h3,h4,fun Q hq=>.region hf (h5 Q hq)⟩
  |true =>
   have hr2:sk E ih rd ops (kr ops.toList []) (ph (kr ops.toList []) ops.toList.length) env h=some r:=hr1;unfold sk at hr2;obtain⟨hok,hr3⟩:=fo hr2;obtain⟨x,e2,h2,h3,h4,h5⟩:=Kd hE hI (TQ:=fun Q=>opsV E.P E.G rd Q ops (ops.toList.drop (ph (kr ops.toList []) ops.toList.length))) (fun env h hv hr=>Ah hE hI _ env h hv hr) _ _ _ _ env h hv hr3;exact⟨x,e2,h2,h3,h4,fun Q hq=>Ev.W.xK _ _ hE.mixed hf hok (h5 Q hq)⟩
 |seq a b =>
  simp only[fits,PV]at hf;obtain⟨x,e2,h2,h3,h4,h5⟩:=seqK a b hf.1 hf.2 hr;exact⟨x,e2,h2,h3,h4,fun Q hq=>.seq (h5 Q hq)⟩
 |cond x a b =>
  simp only[fits,PV]at hf;have hr1:vS (aj E.G (aB env) x) (ih rd n a env h) (ih rd n b env h)=some r:=hr;unfold vS at hr1;split at hr1
  ·rename_i t ht;cases t with
   |true =>
    obtain⟨y,e2,h2,h3,h4,h5⟩:=hI _ _ _ _ _ _ hr1 hv hf.1;exact⟨y,e2,h2,h3,h4,fun Q hq=>.cond ht (h5 Q hq)⟩
   |false =>
    obtain⟨y,e2,h2,h3,h4,h5⟩:=hI _ _ _ _ _ _ hr1 hv hf.2;exact⟨y,e2,h2,h3,h4,fun Q hq=>.cond ht (h5 Q hq)⟩
  ·cases hr1
 |block id b =>
  have hr1:vR id (ih rd n b env h)=some r:=hr;unfold vR at hr1;split at hr1
  ·rename_i i e1 h1 hi;obtain⟨x,e2,h2,h3,h4,h5⟩:=hI _ _ _ _ _ _ hi hv hf;cases h3;cases hb:Nat.beq i id with
   |true =>
    rw[hb]at hr1;have:=PX hb;refine⟨.normal,e1,h1,(Option.some.inj hr1).symm,h4,fun Q hq=>.block (h5 _ ?_)⟩;show (if i=id then Q .normal _ else Q (.exit i) _);rw[PG this];exact hq
   |false =>
    rw[hb]at hr1;have:¬i=id:=fun h=>by rw[h]at hb;rw[show Nat.beq id id=true from Rp _]at hb;cases hb
    refine⟨.exit i,e1,h1,(Option.some.inj hr1).symm,h4,fun Q hq=>.block (h5 _ ?_)⟩;show (if i=id then Q .normal _ else Q (.exit i) _);rw[PC this];exact hq
  ·rename_i r0 hne;obtain⟨x,e2,h2,h3,h4,h5⟩:=hI _ _ _ _ _ _ hr1 hv hf;subst h3;refine⟨x,e2,h2,rfl,h4,fun Q hq=>.block (h5 _ ?_)⟩;cases x with
   |exit i=>exact absurd hr1 (hne _ _ _)
   |_=>exact hq
 |loop b =>
  have hr1:mX (pj ih rd n (.loop b) (ih rd n b env h))=some r:=hr;obtain⟨hr2,hng⟩:=Al hr1;obtain⟨x,e2,h2,h3,h4,h5⟩:=seqK b (.loop b) hf hf hr2;refine⟨x,e2,h2,h3,h4,fun Q hq=>(W.J8 (Q:=fun y t=>y=x/\t=⟨aB e2,ao h2⟩) (fun l s hx=>?_) (h5 _ ⟨rfl,rfl⟩)).mono fun y t ht=>by rw[ht.1,ht.2];exact hq⟩;subst h3;rw[<- hx.1]at hng;exact hng _ _ _ rfl
 |scope b =>
  have hr1:mX (ih rd n b env h)=some r:=hr;obtain⟨hr2,hng⟩:=Al hr1;obtain⟨x,e2,h2,h3,h4,h5⟩:=hI _ _ _ _ _ _ hr2 hv hf;subst h3;refine⟨x,e2,h2,rfl,h4,fun Q hq=>.scope (h5 _ ?_)⟩;cases x with
  |goto i=>exact absurd rfl (hng _ _ _)
  |_=>exact hq
 |rangeFunc f ps asg body =>
  have hr1:vT E ih rd n env h ps asg body (aj E.G (aB env) f)=some r:=hr;unfold vT at hr1;split at hr1
  ·rename_i g first cap hg
   obtain⟨hp1,hr2,hs1⟩:=kx _ _ _ _ _ hr1;rw[gq]at hr2;have hv1:VH ⟨hp1,h.nx+1⟩:=by
    intro j b hj;rw[hs1]at hj;show j<h.nx+1;split at hj
    ·omega
    ·have:=hv _ _ hj;omega
   have hlay:(ao h).lay (ao h).C (.loop .ready none n (aB env) ps asg body)=some (ao ⟨hp1,h.nx+1⟩):=by
    rw[sA (nx:=h.nx+1) hs1];unfold S2.lay;rw[PG rfl];rfl
   have rule:∀Q:AX->St->Prop,ae E.P E.G g (first++[.ng h.nx]++cap) (ao ⟨hp1,h.nx+1⟩) (uX rd Q (aB env) h.nx)->W E.P E.G n rd (.rangeFunc f ps asg body) Q ⟨aB env,ao h⟩ :=
    fun Q hq=>W.rangeFunc hg ⟨_,hlay,hq⟩
   unfold zJ at hr2;split at hr2
   ·rename_i v h2 hc;obtain⟨x,h3,hcr,hv3,hK⟩:=kB hI hv1 hc;obtain⟨rfl,rfl⟩:=hcr;obtain⟨hrd,hr3⟩:=fo hr2;split at hr3
    ·cases hr3
    ·rename_i st pend n2 env2 ps2 asg2 body2 hne hg3;obtain⟨hp3,hr4,hs3⟩:=kx _ _ _ _ _ hr3;have hup:=we (h:=h3) hs3;have hv4:=hv3.set hs3 (hv3 _ _ hg3);have hend:oJ ((ao h3).get h.nx)=some (pend,.loop .exhausted pend n2 (aB env2) ps2 asg2 body2):=by
      rw[pr hg3];unfold oJ;cases st with
      |busy=>exact(hne rfl).elim
      |_=>rfl
     have fin:∀x:AX,(∀Q:AX->St->Prop,Q x ⟨aB env,ao ⟨hp3,h3.nx⟩⟩->ze Q ⟨aB env,ao ⟨hp3,h3.nx⟩⟩ pend)->r=.ev x env ⟨hp3,h3.nx⟩ ->
       ∃x env' h',r=.ev x env' h'/\VH h'/\∀Q:AX->St->Prop,Q x ⟨aB env',ao h'⟩->W E.P E.G n rd (.rangeFunc f ps asg body) Q ⟨aB env,ao h⟩:=by
      intro x hx he;refine⟨x,env,_,he,hv4,fun Q hq=>rule Q (hK _ ⟨sE hrd,_,hend,?_⟩)⟩;have:=hx Q hq;rw[hup]at this;exact this
     unfold endLoop at hr4;split at hr4
     ·exact fin .normal (fun Q hq=>hq) (Option.some.inj hr4).symm
     ·exact fin .ret (fun Q hq=>hq) (Option.some.inj hr4).symm
     ·rename_i i;exact fin (.exit i) (fun Q hq=>hq) (Option.some.inj hr4).symm
     ·cases hr4
    ·cases hr3
   ·rename_i h2 hc;obtain⟨x,h3,hcr,hv3,hK⟩:=kB hI hv1 hc;obtain⟨rfl,rfl⟩:=hcr;obtain⟨hrd,hr3⟩:=fo hr2;exact⟨.panic,env,h3,(Option.some.inj hr3).symm,hv3,fun Q hq=>rule Q (hK _ ⟨sE hrd,hq⟩)⟩
   ·cases hr2
  ·cases hr1
def Kf (hE:TE E):∀fuel,fF E (zM E fuel):=by
 intro fuel
 induction fuel with
 |zero=>intro rd n c env h r hr;cases hr
 |succ f ih=>exact Ke hE ih
def Kg (hE:TE E){fuel:Nat}{f:FuncId}{args:List S1}{v:S1}(h:zQ E fuel f args=some v):ae E.P E.G f args bZ fun r H'=>∃u,r=.ret u/\Tf H' u v :=
 J0 (Kf hE fuel) h
end
end Go.Hx
namespace Go.Hx
open Go.ChangeShapes Go.WideShapes Go.RowKit
variable {P:Program} {G:Nat->Option (List S1)}
variable {sp:Nat->Bool}{H:Type}{enc:TypeId × Value->H}
def ig:aq:=fun _=>none
def tU (P:Program)(G:Nat->Option (List S1))(W:World):Prop:=∀g cells,G g=some cells->S4 P ig bZ W (.nb cells 0) (.pointer (some ⟨g,0,none⟩))/\∃c e f,W.heap[g]?=some (.cells c e f)/\c.size=cells.length
def CU {W:World}(hg:tU P G W):S9 P G ig bZ W where
 L _ _ _ _ h:=by cases h
 loop _ _ _ _ _ _ _ _ h:=by cases h
 mp _ _ h:=by cases h
 ni _ h:=by cases h
 inj _ _ _ _ _ _ _ h:=by cases h
 nv _ _ h:=by cases h
 lt _ _ _ _ h:=by cases h
 C _ _ h:=by cases h
 nr g cells h:=(hg g cells h).1
 gsz g cells h:=(hg g cells h).2
def xF (b:Nat):¬ig.da b:=fun ⟨_,_,_,h⟩=>by cases h
def CV {f:FuncId}{args:List S1}{cargs:Array Value}{W:World}(hA:ae P G f args bZ fun r H'=>∃u,r=.ret u/\Tf H' u (.lit (.bool true)))(hg:tU P G W)(hr:cF P ig bZ W args cargs):
  Calls P f cargs W fun e W'=>e=.returned (.bool true)/\RowKit.Below W.heap.size W W'/\∀a,a.block<W.heap.size->W'.frozen? a=W.frozen? a:=by
 refine callsIn_wide.1 ((hA.2 ig W cargs (CU hg) hr).mono ?_);rintro e W' ⟨r,H',Γ',hend,⟨u,rfl,hf⟩,_,E,_⟩;cases e with
 |returned cv =>
  have hu:u=.lit (.bool true):=by cases hf;rfl
  subst hu;cases hend;exact⟨rfl,⟨E.os,E.tape,E.output,E.size,fun k hk=>(E.na k hk (xF k)).1⟩,E.np⟩
 |panicked=>exact hend.elim
 |outgrown=>exact hend.elim
def CW {W W':World}(hb:RowKit.Below W.heap.size W W')(may:MemPlace->Prop):W.keptBut W' may:=by
 refine⟨hb.os,hb.output,fun i hi=>?_⟩;rw[hb.block i hi];cases h:W.heap[i]? with
 |none=>rfl
 |some o=>cases o<;>first|exact rfl|exact⟨rfl,rfl,rfl,fun _ _=>rfl⟩|exact .inr ⟨rfl,rfl⟩
def CX (hl:laidOutB P=true){W W':World}(hb:RowKit.Below W.heap.size W W'):∀ {ts:List TypeId} {vs:List Value} {ds:List (DataW H)} {ps:List MemPlace},
  ts.all (fun t=>P.readableRec t && decide (t<P.types.size))=true->DataW.TrodAll enc P W 0 (fun _=>true) true ts vs ds ps->(∀x∈ps,x.block<W.heap.size)->(∀x∈ps,sp x.block=true)->DataW.TrodAll enc P W' 0 sp true ts vs ds ps:=by
 intro ts
 induction ts with
 |nil =>
  intro vs ds ps _ h _ _;cases vs<;>cases ds<;>first|exact h|exact h.elim
 |cons t ts ih =>
  intro vs ds ps hok h hlt hsp;simp only[List.all_cons,PV,decide_eq_true_eq]at hok;cases vs with
  |nil=>cases ds<;>exact h.elim
  |cons v vs=>cases ds with
   |nil=>exact h.elim
   |cons d ds =>
    obtain⟨p,q,h1,h2,rfl⟩:=h;refine⟨p,q,?_,ih hok.2 h2 (fun x hx=>hlt x (by simp[hx])) (fun x hx=>hsp x (by simp[hx])),rfl⟩;exact WideElems.Trod_stays hl hok.1.1 hok.1.2 h1 (fun x hx=>hb.same (hlt x (by simp[hx]))) (fun x hx=>hsp x (by simp[hx]))
def CY {W:World}{base:Nat}{held:Bool}:∀ {ts:List TypeId} {vs:List Value} {ds:List (DataW H)} {ps:List MemPlace},
  DataW.TrodAll enc P W base sp held ts vs ds ps->vs.length=ts.length/\ds.length=ts.length:=by
 intro ts
 induction ts with
 |nil =>
  intro vs ds ps h;cases vs<;>cases ds<;>first|exact⟨rfl,rfl⟩|exact h.elim
 |cons t ts ih =>
  intro vs ds ps h;cases vs with
  |nil=>cases ds<;>exact h.elim
  |cons v vs=>cases ds with
   |nil=>exact h.elim
   |cons d ds =>
    obtain⟨p,q,_,h2,_⟩:=h;obtain⟨h3,h4⟩:=ih h2;exact⟨by simp[h3],by simp[h4]⟩
def CZ {f:Func}{s:ChangeSpec}{apart fresh handsOn again:Bool}{W W':World}{args:Array Value}{ds gs:List (DataW H)}{before:List MemPlace}{t:TypeId}
  (hl:laidOutB P=true) (hok:f.params.toList.all (fun t=>P.readableRec t && decide (t<P.types.size))=true) (hvars:s.vars=[]) (hrt:f.resultTypes=#[t]) (ht:P.underlying t=some .bool)
  (hs:∀ds:List (DataW H),ds.length=f.params.toList.length->s.fn H (ds++[])={ results:=[.lit (.bool true)],args:=ds })
  (hW:DataW.Whole enc P f.params.toList s.vars apart W args.toList ds gs before) (hb:RowKit.Below W.heap.size W W') (hfz:∀a,a.block<W.heap.size->W'.frozen? a=W.frozen? a):s.post enc P f apart fresh handsOn again W args (.bool true) W':=by
 have hW':=hW;obtain⟨p,q,hA,hV,rfl,hz,hn⟩:=hW;have hgs:gs=[]/\q=[]:=by
  rw[hvars]at hV;cases gs with
  |nil=>exact⟨rfl,hV⟩
  |cons=>exact hV.elim
 obtain⟨rfl,rfl⟩:=hgs;have hfn:=hs ds (CY hA).2;have hlt:∀x∈p,x.block<W.heap.size:=fun x hx=>by simpa using hW'.lt x (by simp[hx])
 have hres:∀(b:Nat) (sp:Nat->Bool) (hd:Bool),DataW.TrodAll enc P W' b sp hd f.resultTypes.toList ((Value.bool true).resultList f.resultTypes.size) (s.fn H (ds++[])).results []:=fun b sp hd=>by
  rw[hfn,hrt];exact trodAll_mk1 (shut_bool ht true)
 have hargs:∀sp:Nat->Bool,(∀x∈p,sp x.block=true)->DataW.TrodAll enc P W' 0 sp true f.params.toList args.toList (s.fn H (ds++[])).args p:=fun sp hsp=>by
  rw[hfn];exact CX hl hb hok hA hlt hsp
 have hva:∀sp:Nat->Bool,DataW.TrodVars enc P W' sp s.vars (s.fn H (ds++[])).vars []:=fun sp=>by
  rw[hfn,hvars];exact rfl
 have hpp:p++[]=p:=List.append_nil p;have hold:∀x∈p,(fun b=>decide (b<W.heap.size)) x.block=true:=fun x hx=>by simpa using hlt x hx
 rw[hpp]at hW' hz hn;refine⟨ds,[],p,[],p,[],hW',hres _ _ _,hargs _ hold,hva _,World.keptBut_mono (fun x hx=>⟨hx,.inr (.inl hx)⟩) (CW hb _),fun _=>⟨ok_one hrt rfl (okWide_bool_mk ht true),(s.fn H (ds++[])).results++(s.fn H (ds++[])).args,(s.fn H (ds++[])).vars,p,?_,fun x hx _=>hx⟩⟩;have hall:=trodAll_append (hargs (fun _=>true) fun _ _=>rfl) (hres 0 (fun _=>true) true);refine⟨p,[],by simpa using hall,hva _,SX,fun b off hx=>?_,fun ha=>by simpa using hn ha⟩;rw[hfz _ (hlt _ hx)];exact hz b off hx
end Go.Hx
namespace Go.Hx
variable {P:Program} {G:Nat->Option (List S1)}
variable {E:EP}{f:FuncId}
abbrev iE:=List (List S1 × S1)
def kC (P:Program)(G:Nat->Option (List S1))(f:FuncId)(l:iE):Prop:=∀p,p∈l->ae P G f p.1 bZ fun r H'=>∃u,r=.ret u/\Tf H' u p.2
def kC.nil :kC P G f []:=fun _ h=>by cases h
def kC.cons {p:List S1 × S1}{l:iE}(h:ae P G f p.1 bZ fun r H'=>∃u,r=.ret u/\Tf H' u p.2)(hl:kC P G f l):kC P G f (p :: l):=fun q hq=>by
 rcases List.mem_cons.1 hq with rfl|hq
 ·exact h
 ·exact hl q hq
noncomputable def pt (l:List (FuncId × iE))(f:FuncId):Option iE :=
 List.rec (motive:=fun _=>Option iE) none (fun p _ ih=>Bool.rec (motive:=fun _=>Option iE) ih (some p.2) (Nat.beq p.1 f)) l
def wh (P:Program)(G:Nat->Option (List S1)):List (FuncId × iE)->Prop
 | []=>True
 |p :: l=>kC P G p.1 p.2/\wh P G l
def Kh:∀ {l:List (FuncId × iE)},wh P G l->∀f t,pt l f=some t->kC P G f t:=by
 intro l
 induction l with
 |nil=>intro _ f t h;cases h
 |cons p l ih =>
  intro ha f t h;have h':Bool.rec (motive:=fun _=>Option iE) (pt l f) (some p.2) (Nat.beq p.1 f)=some t:=h;cases hb:Nat.beq p.1 f with
  |true =>
   rw[hb]at h';have:=PX hb;have h2:p.2=t:=Option.some.inj h';rw[<- this,<- h2];exact ha.1
  |false =>
   rw[hb]at h';exact ih ha.2 f t h'
def TE.Am {l:List (FuncId × iE)}(hk:E.known=pt l)(gok:dG E.G)(mixed:E.P.follows .mixedOrders=true)
  (gd:∀f z,E.gd f=some z->Ad E.P E.G f z) (ha:wh E.P E.G l) (hx:pq E:=by exact pq.none rfl):TE E :=
 ⟨gok,mixed,fun f t h a v hm=>Kh ha f t (by rw[<- hk];exact h) (a,v) hm,gd,hx⟩
noncomputable def dW (E:EP)(fuel:Nat)(f:FuncId)(args:List S1)(v:S1):Bool:=match zQ E fuel f args with
 |some u=>mO 40 u v
 |none=>false
def eI {fuel:Nat}{args:List S1}{v:S1}(hE:TE E)(h:dW E fuel f args v=true):ae E.P E.G f args bZ fun r H'=>∃u,r=.ret u/\Tf H' u v:=by
 unfold dW at h;split at h
 ·rename_i u hu;rw[<- Ab 40 _ _ h];exact Kg hE hu
 ·cases h
def ng:Nat->Option (List S1):=fun _=>none
def wj:dG ng:=fun _ _ h=>by cases h
def Ki (W:World):tU P ng W:=fun _ _ h=>by cases h
end Go.Hx
namespace Go.Hx
variable {P:Program} {G:Nat->Option (List S1)} {Γ Γ':aq} {H H':S2} {w w':World}
section
variable {n:Nat} {wb:Tu} {rd rb:Option Nat} {Q:AX->St->Prop}
end
end Go.Hx
namespace Go.Hx
open Go.ChangeShapes Go.WideShapes Go.RowKit
variable {P:Program} {W:World} {H:Type} {enc:TypeId × Value->H} {spare:Nat->Bool} {held:Bool}
variable {φ:DataW H->List S1->Prop}{z:Nat}{α:Type}{e t:TypeId}
def fD (P:Program)(W:World)(as:List S1)(cs:List Value):Prop:=cs.length=as.length/\∀i (h:i<as.length) (h':i<cs.length),S4 P ig bZ W as[i] cs[i]
def dz (enc:TypeId × Value->H)(P:Program)(W:World)(spare:Nat->Bool)(held:Bool)(t:TypeId)(φ:DataW H->List S1->Prop):Prop :=
 ∀fuel cs x,DataW.trod enc P W 0 spare held fuel t cs=some x->∃as,fD P W as cs/\φ x.1 as
def fD.nil:fD P W [] []:=⟨rfl,fun i h _=>absurd h (PS _)⟩
def fD.one {a:S1}{c:Value}(h:S4 P ig bZ W a c):fD P W [a] [c]:=⟨rfl,fun i hi _=>by
 match i,hi with
 |0,_=>exact h⟩
def fD.append {as bs:List S1}{cs ds:List Value}(h1:fD P W as cs)(h2:fD P W bs ds):fD P W (as++bs) (cs++ds):=by
 refine⟨by simp[h1.1,h2.1],fun i h h'=>?_⟩;by_cases hi:i<as.length
 ·rw[Qu hi,Qu (by rw[h1.1];exact hi)];exact h1.2 i hi _
 ·have e:=h1.1;rw[Qx U,Qx U];have:=h2.2 (i-as.length) (by simp at h;omega) (by rw[h2.1];simp at h;omega);simpa[e] using this
def DX (ht:P.underlying t=some .bool):dz enc P W spare held t fun d as=>∃b,d=.lit (.bool b)/\as=[.lit (.bool b)]:=by
 intro fuel cs x h;cases fuel with
 |zero=>simp[DataW.trod]at h
 |succ n =>
  unfold DataW.trod at h;rw[ht]at h;split at h
  ·cases h;exact⟨_,.one (.lit _),_,rfl,rfl⟩
  all_goals simp_all
def gW {k:IntKind}(ht:P.underlying t=some (.int k)):dz enc P W spare held t fun d as=>∃n,d=.lit (.int k n)/\as=[.lit (.int k n)]/\(Lit.int k n).wf=true:=by
 intro fuel cs x h;cases fuel with
 |zero=>simp[DataW.trod]at h
 |succ n =>
  unfold DataW.trod at h;rw[ht]at h;split at h<;>simp_all
  rename_i k' n' _ _;obtain⟨⟨rfl,hw⟩,rfl⟩:=h;exact⟨_,.one (.lit _),_,rfl,rfl,hw⟩
def uG:∀ {O:List (List S1)} {css:List (List Value)},css.length=O.length->(∀i (h:i<O.length) (h':i<css.length),fD P W O[i] css[i])->fD P W O.flatten css.flatten:=by
 intro O
 induction O with
 |nil=>intro css h _;obtain rfl:=PH h;exact .nil
 |cons r O ih =>
  intro css h h'
  match css,h with
  |c :: css,h =>
   simp only[List.flatten_cons];exact(h' 0 SX SX).append (ih (by simpa using h) fun i hi hi'=>h' (i+1) (by simpa using hi) (by simpa using hi'))
def uH {Q:Nat->α->Prop}:∀n,(∀i,i<n->∃a,Q i a)->∃l:List α,l.length=n/\∀i (h:i<l.length),Q i l[i]:=by
 intro n
 induction n with
 |zero=>intro _;exact⟨[],rfl,fun i h=>absurd h (PS _)⟩
 |succ n ih =>
  intro h;obtain⟨l,hl,hq⟩:=ih fun i hi=>h i U;obtain⟨a,ha⟩:=h n U;refine⟨l++[a],by simp[hl],fun i hi=>?_⟩;by_cases hi':i<l.length
  ·rw[Qu hi'];exact hq i hi'
  ·have:i=l.length:=(by simp at hi;omega);subst this;simp only[List.getElem_concat_length];rw[hl];exact ha
def DY :∀ {O:List (List α)},(∀i (h:i<O.length),O[i].length=z)->O.flatten.length=O.length*z:=by
 intro O
 induction O with
 |nil=>intro _;simp
 |cons r O ih =>
  intro h;have h0:=h 0 SX;have:=ih fun i hi=>h (i+1) (by simpa using hi);simp only[P2]at h0;simp only[List.flatten_cons,List.length_append,List.length_cons,this,h0,RC];omega
def DZ :∀ {O:List (List α)},(∀i (h:i<O.length),O[i].length=z)->∀i j (hi:i<O.length) (hj:j<z),O.flatten[i*z+j]?=(O[i])[j]?:=by
 intro O
 induction O with
 |nil=>intro _ i j hi;exact absurd hi (PS _)
 |cons r O ih =>
  intro h i j hi hj;have h0:=h 0 SX;simp only[P2]at h0;cases i with
  |zero=>simp only[List.flatten_cons,P2,Rh,Nat.zero_add];rw[PJ U]
  |succ i =>
   simp only[List.flatten_cons,Qy];rw[PW (by rw[h0,RC];omega),<- ih (fun i hi=>h (i+1) (by simpa using hi)) i j (by simpa using hi) hj];congr 1;rw[h0,RC];omega
def uI (φ:DataW H->List S1->Prop)(ds:List (DataW H))(O:List (List S1)):Prop:=ds.length=O.length/\∀i (h:i<O.length) (h':i<ds.length),φ ds[i] O[i]
def yx (ht:P.underlying t=some (.slice e))(hz:0<P.cellsOf e)(he:dz enc P W spare held e φ):
  dz enc P W spare held t fun d as=>(d=.nil/\as=[.M 0 []])\/∃ds rest O,d=.slice ds rest/\as=[.M O.length O.flatten]/\uI φ ds O/\(∀i (h:i<O.length),O[i].length=P.cellsOf e)/\O.length<=maxLen:=by
 intro fuel cs x h;rcases DataW.trod_slice ht h with ⟨rfl,rfl⟩|⟨a,len,cap,elems,rest,n,rfl,rfl,rfl,_,hl,hm,hlen,hel,_,_⟩
 ·exact⟨_,.one (.nj _ _),.inl ⟨rfl,rfl⟩⟩
 have hrow:∀i,i<len->∃p:List Value × List S1,W.cells? 0 (a.add (i*P.cellsOf e)) (P.cellsOf e)=some p.1/\fD P W p.2 p.1/\∃x,elems[i]?=some x/\φ x.1 p.2:=by
  intro i hi;have:=hel i hi;rw[PB U,PE]at this;obtain⟨cs,hc,hx⟩:=this;obtain⟨as,ha,hφ⟩:=he _ _ _ hx;exact⟨(cs,as),hc,ha,_,PB U,hφ⟩
 obtain⟨l,hll,hQ⟩:=uH len hrow;have hzr:∀i (h:i<(l.map Prod.snd).length),(l.map Prod.snd)[i].length=P.cellsOf e:=by
  intro i h;simp only[PR]at h;simp only[PK];obtain⟨hc,hr,_⟩:=hQ i h;rw[<- hr.1];exact(World.cells?_some hc).2.1
 have hzc:∀i (h:i<(l.map Prod.fst).length),(l.map Prod.fst)[i].length=P.cellsOf e:=by
  intro i h;simp only[PR]at h;simp only[PK];exact(World.cells?_some (hQ i h).1).2.1
 refine⟨[.M (l.map Prod.snd).length (l.map Prod.snd).flatten],.one ?_,.inr ⟨_,_,l.map Prod.snd,rfl,rfl,⟨by simp[hll,hlen],fun i h h'=>?_⟩,hzr,by simp only[PR];omega⟩⟩
 ·rcases QN len with h0|h0
  ·subst h0;obtain rfl:=PH hll;exact .nj _ _
  have hrc:fD P W (l.map Prod.snd).flatten (l.map Prod.fst).flatten:=uG SX fun i h h'=>by
   simp only[PR]at h;simp only[PK];exact(hQ i h).2.1
  have hla:(l.map Prod.snd).length=len:=by simp[hll]
  have hsp:∀i,i<len->∀j,j<P.cellsOf e->∃v,W.cell? ((a.add (i*P.cellsOf e)).add j)=some v/\(l.map Prod.fst).flatten[i*P.cellsOf e+j]?=some v:=by
   intro i hi j hj;obtain⟨hc,_⟩:=hQ i U;obtain⟨_,hcl,hcell⟩:=World.cells?_some hc;refine⟨(l[i]' U).1[j]' U,?_,?_⟩
   ·rw[hcell j hj,PB]
   ·rw[DZ hzc i j (by simp;omega) hj];simp only[PK];rw[PB]
  have hspot:a.spot=none:=by
   obtain⟨v,hv,_⟩:=hsp 0 h0 0 hz;unfold World.cell? at hv;split at hv
   ·split at hv
    ·cases hv
    ·rename_i hs;simpa[Addr.add] using hs
   ·cases hv
  obtain⟨b,off,spot⟩:=a;simp only at hspot;subst hspot;have hadd:∀(b off n:Nat),(⟨b,off,none⟩:Addr).add n=⟨b,off+n,none⟩:=by
   intro b off n;unfold Addr.add;by_cases hn:n=0
   ·subst hn;simp
   ·simp[hn]
  have hlt:b<W.heap.size:=by
   obtain⟨v,hv,_⟩:=hsp 0 h0 0 hz;rw[hadd,hadd]at hv;unfold World.cell? at hv;rcases PZ b W.heap.size with h|h
   ·exact h
   ·rw[QG h]at hv;cases hv
  rw[hla];refine .M (xF b) hlt hl hrc.1 (fun i hi=>?_) fun i h h'=>hrc.2 i h h';have hlc:=DY hzc;simp only[PR,hll]at hlc;have hi':i<len*P.cellsOf e:=U
  obtain⟨v,hv,hg⟩:=hsp (i / P.cellsOf e) (Nat.div_lt_of_lt_mul (by rw[Sr];exact hi')) (i % P.cellsOf e) (Sl _ hz);have hdm:i / P.cellsOf e*P.cellsOf e+i % P.cellsOf e=i:=by rw[Sr];exact Nat.div_add_mod _ _
  rw[hdm]at hg;rw[PB hi]at hg;rw[Option.some.inj hg,<- hv,hadd,hadd];congr 2;omega
 ·simp only[PR]at h h';obtain⟨_,_,y,hy,hφ⟩:=hQ i h;simp only[PK];rw[PB h']at hy;rw[Option.some.inj hy];exact hφ
def D0 :∀ {n:Nat} {cs:List α},cs.length=n*z->((List.range n).map fun i=>(cs.drop (i*z)).take z).flatten=cs:=by
 intro n
 induction n with
 |zero=>intro cs h;simp at h;subst h;rfl
 |succ n ih =>
  intro cs h;have h1:(cs.take (n*z)).length=n*z:=by rw[PQ,h,RC];omega
  have:=ih h1;rw[QV,QQ,SU];have e:((List.range n).map fun i=>(cs.drop (i*z)).take z)=(List.range n).map fun i=>((cs.take (n*z)).drop (i*z)).take z:=by
   refine Q5 fun i hi=>?_;have hi':=Qq.1 hi;rw[List.drop_take,List.take_take];congr 1;have:i*z+z<=n*z:=(by rw[<- RC];exact Qr _ hi');omega
  rw[e,this];simp only[List.map_cons,List.map_nil,List.flatten_cons,List.flatten_nil,List.append_nil];rw[PF (l:=cs.drop (n*z)) (by simp[h,RC])];exact P9 _ _
def D1 {n:Nat}(ht:P.underlying t=some (.array n e))(hz:P.cellsOf t=n*P.cellsOf e)(he:dz enc P W spare held e φ):
  dz enc P W spare held t fun d as=>∃ds O,d=.agg ds/\as=O.flatten/\uI φ ds O/\O.length=n/\∀i (h:i<O.length),O[i].length=P.cellsOf e:=by
 intro fuel cs x h;obtain⟨xs,m,rfl,rfl,hcl,hxl,hel⟩:=DataW.trod_array ht h;have hrow:∀i,i<n->∃as:List S1,fD P W as ((cs.drop (i*P.cellsOf e)).take (P.cellsOf e))/\∃x,xs[i]?=some x/\φ x.1 as:=by
  intro i hi;have:=hel i hi;rw[PB U]at this;obtain⟨as,ha,hφ⟩:=he _ _ _ this;exact⟨as,ha,_,PB U,hφ⟩
 obtain⟨l,hll,hQ⟩:=uH n hrow;refine⟨l.flatten,?_,_,l,rfl,rfl,⟨by simp[hxl,hll],fun i h h'=>?_⟩,hll,fun i h=>?_⟩
 ·rw[<- D0 (n:=n) (hcl.trans hz)];refine uG (by simp[hll]) fun i h h'=>?_;simp only[PK,List.getElem_range];exact(hQ i h).1
 ·obtain⟨_,y,hy,hφ⟩:=hQ i h;simp only[PR]at h';simp only[PK];rw[PB h']at hy;rw[Option.some.inj hy];exact hφ
 ·obtain⟨hr,_⟩:=hQ i h;rw[<- hr.1,PQ,Qo,hcl,hz];have:i*P.cellsOf e+P.cellsOf e<=n*P.cellsOf e:=by rw[<- RC];exact Qr _ (U)
  omega
def mA {fs:Array Field}{φ:Nat->DataW H->List S1->Prop}(ht:P.underlying t=some (.struct fs))
  (hlay:∀cs:List Value,cs.length=P.cellsOf t->(fs.toList.map fun f=>(cs.drop f.offset).take (P.cellsOf f.type)).flatten=cs)
  (he:∀i (h:i<fs.size),dz enc P W spare held fs[i].type (φ i)):
  dz enc P W spare held t fun d as=>∃(ds:List (DataW H)) (O:List (List S1)),d=.agg ds/\as=O.flatten/\ds.length=fs.size/\O.length=fs.size/\∀i (h:i<O.length) (h':i<ds.length),φ i ds[i] O[i]:=by
 intro fuel cs x h;obtain⟨xs,m,rfl,rfl,hcl,hxl,hel⟩:=DataW.trod_struct ht h;have hrow:∀i,i<fs.size->∃as:List S1,(∀h:i<fs.size,fD P W as ((cs.drop fs[i].offset).take (P.cellsOf fs[i].type)))/\∃x,xs[i]?=some x/\φ i x.1 as:=by
  intro i hi;have:=hel i fs[i] (PM hi);rw[PB U]at this;obtain⟨as,ha,hφ⟩:=he i hi _ _ _ this;exact⟨as,fun _=>ha,_,PB U,hφ⟩
 obtain⟨l,hll,hQ⟩:=uH fs.size hrow;refine⟨l.flatten,?_,_,l,rfl,rfl,by simp[hxl],hll,fun i h h'=>?_⟩
 ·rw[<- hlay cs hcl];refine uG (by simp[hll]) fun i h h'=>?_;simp only[PK,Qt];exact(hQ i h).1 (U)
 ·obtain⟨_,y,hy,hφ⟩:=hQ i h;simp only[PR]at h';simp only[PK];rw[PB h']at hy;rw[Option.some.inj hy];exact hφ
end Go.Hx
namespace Go.Hx
variable {P:Program} {G:Nat->Option (List S1)} {H:S2}
variable {cs:List S1}{L:List S7}{hi lo:Nat}{v:S1}{e:TypeId}
def Ix:(1=0)=False:=SX
def Iy (l:List S1)(i:Nat):jt (.nc l) i=l[i]?:=rfl
def Iz (cells:List S1)(off:Nat):iq H (.nb cells off)=some (.nb cells off):=rfl
def IA (id gen off:Nat):iq H (.Y id gen off)=(H.nn id gen).map fun _=>.Y id gen off:=by
 simp only[iq]
def IB (t:TypeId)(f:Nat)(id gen off:Nat):mG P H t f (.Y id gen off)=(bx P t f).bind fun of=>(H.nn id gen).map fun _=>.Y id gen (off+of.1):=rfl
def IC (t:TypeId)(f:Nat)(cells:List S1)(off:Nat):mG P H t f (.nb cells off)=(bx P t f).bind fun of=>some (.nb cells (off+of.1)):=rfl
def cq (H:S2)(L:List S7)(e:TypeId)(lo hi:Nat)(v:S1)(cs:List S1):Prop :=
 (v=.lit (.slice none 0 0)/\cs=[])\/∃i g,lo<=i/\i<hi/\v=.V (H.C+i) g 0 cs.length 1/\L[i]?=some (.L g e cs)
def cq.nil :cq H L e lo hi (.lit (.slice none 0 0)) []:=.inl ⟨rfl,rfl⟩
def cq.na {L':List S7}{lo' hi':Nat}(h:cq H L e lo hi v cs)(hl:lo'<=lo)(hh:hi<=hi')(hk:∀i g,lo<=i->i<hi->L[i]?=some (.L g e cs)->L'[i]?=L[i]?):
  cq H L' e lo' hi' v cs:=by
 rcases h with h|⟨i,g,h1,h2,h3,h4⟩
 ·exact .inl h
 ·exact .inr ⟨i,g,U,U,h3,by rw[hk i g h1 h2 h4];exact h4⟩
def zi {i g:Nat}(h:L[i]?=some (.L g e cs)):(ext H L).nn (H.C+i) g=some (e,cs):=by
 have hi:i<L.length:=by
  rcases PZ i L.length with h'|h'
  ·exact h'
  ·rw[PN h']at h;cases h
 rw[uR H L i g hi,h];simp[oF]
def ID {t:TypeId}{x:S1}{z:List S1}(ht:P.underlying t=some (.slice e))(hz:P.cellsOf e=1)(hzero:bH P e=some z)(hx:x.one=true)
  (hb:(cs.length+1)*P.bytesOf e<=2 ^ 47/\cs.length+1<=2 ^ 47) (ho:cq H L e lo hi v cs) (hlo:lo<=L.length) (hhi:hi<=L.length):
  ∃v' L',bf P (ext H (L++[.L 0 e [x]])) (H.C+(L.length+1)) t t v (.V (H.C+L.length) 0 0 1 1)=some (v',ext H L')/\cq H L' e lo L'.length v' (cs++[x])/\L.length<=L'.length /\
   (∀k,k<L.length->(∀g n,v≠.V (H.C+k) g 0 n 1)->L'[k]?=L[k]?):=by
 have hsrc:bR (ext H (L++[.L 0 e [x]])) 1 (.V (H.C+L.length) 0 0 1 1)=some (1,[x]):=by
  unfold bR;have:=zi (H:=H) (L:=L++[S7.L 0 e [x]]) (i:=L.length) (g:=0) (e:=e) (cs:=[x]) SX;simp[this]
 rcases ho with ⟨rfl,rfl⟩|⟨i,g,h1,h2,rfl,h4⟩
 ·refine⟨.V (H.C+(L.length+1)) 0 0 1 1,L++[.L 0 e [x]]++[.L 0 e [x]],?_,.inr ⟨L.length+1,0,U,SX,SX,SX⟩,SX,fun k hk _=>?_⟩
  ·unfold bf;rw[ht];simp only[hzero,hz,Option.bind_some,hsrc,Ix,if_false];have h1:1*P.bytesOf e<=2 ^ 47/\1<=2 ^ 47:=(by simpa using hb);rw[PG h1,yU H _ (L.length+1) _ SX];rfl
  ·rw[List.append_assoc,PJ hk]
 ·have hi':i<L.length:=U
  refine⟨.V (H.C+i) (g+1) 0 (cs.length+1) 1,(L++[S7.L 0 e [x]]).set i (S7.L (g+1) e (cs++[x])),?_,.inr ⟨i,g+1,h1,by simp;omega,SX,?_⟩,SX,fun k hk hne=>?_⟩
  ·unfold bf;rw[ht];simp only[hzero,hz,Option.bind_some,hsrc];have hl:=zi (H:=H) (L:=L++[S7.L 0 e [x]]) (i:=i) (g:=g) (e:=e) (cs:=cs) (by rw[PJ hi'];exact h4);simp only[hl,Option.bind_some];rw[PG ⟨trivial,trivial,U,hb.1,hb.2,by simp[hx]⟩];rw[uQ H _ i _ (by simp;omega)];simp
  ·rw[PO (by simp;omega)]
  ·have:i≠k:=(by rintro rfl;exact hne _ _ rfl);rw[PY this,PJ hk]
def cq.fz {S:Nat->Prop}{cs':List S1}{nx:Nat}(h:cq H L e lo hi v cs)(hS:∀i,S (H.C+i))(hl:cs'.length=cs.length)
  (hc:∀i (h:i<cs.length) (h':i<cs'.length),Fz S (ext H L) nx cs[i] cs'[i]):Fz S (ext H L) nx v (.M cs'.length cs'):=by
 rcases h with ⟨rfl,rfl⟩|⟨i,g,_,_,rfl,h4⟩
 ·obtain rfl:=PH hl;exact .nil
 ·rw[hl];have hi:i<L.length:=by
   rcases PZ i L.length with h'|h'
   ·exact h'
   ·rw[PN h']at h4;cases h4
  refine .np (hS i) (by rw[dT H L i hi];exact h4) U fun j hj h2 h'=>?_;simp only[Nat.zero_add]at h2 ⊢;exact hc j h2 h'
end Go.Hx
namespace Go.Hx
variable {P:Program} {G:Nat->Option (List S1)} {H:S2}
variable {O:List (List S1)}{cs cs':List S1}{L L':List S7}{g hi id lo nx:Nat}{S:Nat->Prop}{u v v':S1}{H2:S2}{e e' e0 e1:TypeId}
def vb (P:Program)(s d:TypeId)(x:Bool)(y:Option TypeDesc)(v:S1):Option S1 :=
 if x=true then (match y,v with
  |some (.int k'),.lit (.int _ a)=>some (.lit (.int k' (k'.wrap a)))
  |_,_=>iT P s d v) else iT P s d v
def IE (s d:TypeId)(v:S1):iT P s d v=vb P s d (P.underlying s).isSome (P.underlying d) v:=by
 unfold vb;split
 ·rename_i hs;split
  ·rename_i k' k a hd;exact FR hs hd
  ·rfl
 ·rfl
def IF (s d:TypeId)(k k':IntKind)(a:Int):vb P s d true (some (.int k')) (.lit (.int k a))=some (.lit (.int k' (k'.wrap a))):=rfl
def zj (P:Program)(d:Option TypeDesc)(cells:List S1)(i:Int):Option S1:=match d with
 |some (.array n e)=>if 0<=i/\i<(n:Int) then dO P e cells (i.toNat*P.cellsOf e) else none
 |_=>none
def IG (t:TypeId)(cells:List S1)(k:IntKind)(i:Int):nZ P t (.agg cells) (.lit (.int k i))=zj P (P.underlying t) cells i:=rfl
def IH (n:Nat)(e:TypeId)(cells:List S1)(i:Int):zj P (some (.array n e)) cells i=if 0<=i/\i<(n:Int) then dO P e cells (i.toNat*P.cellsOf e) else none:=rfl
def ag {c:List S1}(h:H.get id=some (.L g e c)):H.nn id g=some (e,c):=by
 unfold S2.nn;rw[h];simp
def ar (a:Nat)(x:S7):(H.upd a x).C=H.C:=rfl
def dU (h:id<H.C):(ext H L).nn id g=H.nn id g:=by
 unfold S2.nn;rw[eG H L id h]
def iX (H:S2)(L:List S7)(e1 e0:TypeId)(v:S1)(O:List (List S1)):Prop :=
 ∃cs:List S1,cq H L e1 0 L.length v cs/\cs.length=O.length/\∀(j:Nat) (r:List S1) (c:S1),O[j]?=some r->cs[j]?=some c->cq H L e0 0 L.length c r
theorem iX.nil :iX H L e1 e0 (.lit (.slice none 0 0)) []:=⟨[],.nil,rfl,fun j r c h=>by simp at h⟩
def cq.lt {i n z:Nat}(h:cq H L e lo hi (.V (H.C+i) g 0 n z) cs):i<L.length/\L[i]?=some (.L g e cs)/\n=cs.length/\z=1:=by
 rcases h with ⟨h,_⟩|⟨j,g2,_,_,h3,h4⟩
 ·cases h
 ·have:=S1.V.inj h3;obtain rfl:i=j:=U
  obtain⟨_,rfl,_,rfl,rfl⟩:=this;refine⟨?_,h4,rfl,rfl⟩;rcases PZ i L.length with h|h
  ·exact h
  ·rw[PN h]at h4;cases h4
def cq.qV {lo' hi':Nat}(hv:cq H L e lo hi v cs)(hu:cq H L e' lo' hi' u cs')(hne:e≠e')(hh:hi'<=L.length)
  (hp:∀k,k<L.length->(∀g n,v≠.V (H.C+k) g 0 n 1)->L'[k]?=L[k]?):cq H L' e' lo' hi' u cs':=by
 refine hu.na S0 S0 fun i g h1 h2 h3=>hp i U fun g' n he=>?_;rcases hv with ⟨rfl,_⟩|⟨j,g2,_,_,rfl,h4⟩
 ·cases he
 ·have hj:j=i:=by
   have:=S1.V.inj he;omega
  subst hj;rw[h3]at h4;cases h4;exact hne rfl
def cq.j9 (hv:cq H L e lo hi v cs):v.one=true:=by
 rcases hv with ⟨rfl,_⟩|⟨_,_,_,_,rfl,_⟩<;>rfl
def cq.eg (hv:cq H L e lo hi v cs):v.cells=[v]:=by
 rcases hv with ⟨rfl,_⟩|⟨_,_,_,_,rfl,_⟩<;>rfl
def cq.other {lo' hi':Nat}(hv:cq H L e lo hi v cs)(hu:cq H L e' lo' hi' u cs')(hne:e≠e')(hh:hi'<=L.length)
  (hp:∀k,k<L.length->(∀g n,v≠.V (H.C+k) g 0 n 1)->L'[k]?=L[k]?):cq H L' e' lo' hi' u cs':=hv.qV hu hne hh hp
theorem cq.one (hv:cq H L e lo hi v cs):v.one=true:=hv.j9
theorem cq.cells (hv:cq H L e lo hi v cs):v.cells=[v]:=hv.eg
theorem iX.na (h:iX H L e1 e0 v O)(hl:L.length<=L'.length)(hk:∀i,i<L.length->L'[i]?=L[i]?):iX H L' e1 e0 v O:=by
 obtain⟨cs,c1,c2,c3⟩:=h;exact⟨cs,c1.na S0 hl fun i _ _ hi _=>hk i hi,c2,fun j r c hr hc=>(c3 j r c hr hc).na S0 hl fun i _ _ hi _=>hk i hi⟩
theorem iX.fz {rows':List (List S1)}(h:iX H L e1 e0 v O)(hS:∀i,S (H.C+i))(hl:rows'.length=O.length)
  (hr:∀(j:Nat) (r r':List S1),O[j]?=some r->rows'[j]?=some r'->r'.length=r.length/\∀i (h:i<r.length) (h':i<r'.length),Fz S (ext H L) nx r[i] r'[i]):
  Fz S (ext H L) nx v (.M rows'.length (rows'.map fun r=>.M r.length r)):=by
 obtain⟨cs,h1,h2,h3⟩:=h;have:=h1.fz (S:=S) (nx:=nx) (cs':=rows'.map fun r=>.M r.length r) hS (by simp[h2,hl]) fun i hi hi'=>by
  simp only[PK];have hi2:i<O.length:=U
  have hi3:i<rows'.length:=U
  obtain⟨a1,a2⟩:=hr i O[i] rows'[i] (PB hi2) (PB hi3);exact(h3 i O[i] cs[i] (PB hi2) (PB hi)).fz (S:=S) (nx:=nx) (cs':=rows'[i]) hS a1 a2
 rw[PR]at this;exact this
def iX.app {x:S1}{r:List S1}{t:TypeId}{z:List S1}(ht:P.underlying t=some (.slice e1))(hz:P.cellsOf e1=1)(hzero:bH P e1=some z)(hby:P.bytesOf e1=24)(hne:e1≠e0)
  (hb:O.length<2 ^ 40) (h:iX H L e1 e0 v O) (hx:cq H L e0 0 L.length x r):
  ∃v' L',bf P (ext H (L++[.L 0 e1 [x]])) (H.C+(L.length+1)) t t v (.V (H.C+L.length) 0 0 1 1)=some (v',ext H L')/\iX H L' e1 e0 v' (O++[r])/\L.length<=L'.length:=by
 obtain⟨cs,h1,h2,h3⟩:=h;obtain⟨v',L',hA,hO,hL,hp⟩:=ID (t:=t) ht hz hzero hx.j9 (by rw[hby,h2];omega) h1 (RY _) S0;refine⟨v',L',hA,⟨cs++[x],hO,by simp[h2],fun j r' c hr hc=>?_⟩,hL⟩;have key:∀u l,cq H L e0 0 L.length u l->cq H L' e0 0 L'.length u l:=fun u l hu=>(h1.qV hu hne S0 hp).na S0 hL fun _ _ _ _ _=>rfl;rcases PZ j O.length with hj|hj
 ·rw[PJ hj]at hr;rw[PJ U]at hc;exact key _ _ (h3 j r' c hr hc)
 ·rw[PW hj]at hr;rw[PW U]at hc;have hj0:j-O.length=0:=by
   rcases QN (j-O.length) with h|h
   ·exact h
   ·rw[PN (by simp;omega)]at hr;cases hr
  have hj1:j-cs.length=0:=U
  rw[hj0]at hr;rw[hj1]at hc;cases hr;cases hc;exact key _ _ hx
def jG (H:S2)(L L':List S7):ext (ext H L) L'=ext H (L++L'):=by
 unfold ext;simp only[List.length_append];congr 1
 ·funext j
  by_cases h1:H.C+L.length<=j/\j<H.C+L.length+L'.length
  ·rw[PG h1,PG U,PW U];congr 1;omega
  ·rw[PC h1];by_cases h2:H.C<=j/\j<H.C+L.length
   ·rw[PG h2,PG U,PJ U]
   ·rw[PC h2,PC U]
 ·omega
def II (t:TypeId)(id g o l z:Nat):iy P t (.V id g o l z)=if jC (P.underlying t)=true then [id] else []:=by
 unfold iy;cases h:P.underlying t with
 |none=>rfl
 |some d=>cases d<;>rfl
structure S6 (H H2:S2):Prop where
 C:H.C<=H2.C
 nf:∀id,id<H.C->H2.get id=H.get id
def S6.refl (H:S2):S6 H H:=⟨S0,fun _ _=>rfl⟩
theorem S6.trans {H H3:S2}(a:S6 H H2)(b:S6 H2 H3):S6 H H3 :=
 ⟨Qm a.C b.C,fun id h=>(b.nf id (PL h a.C)).trans (a.nf id h)⟩
theorem S6.ext (H:S2)(L:List S7):S6 H (ext H L):=⟨by simp[bB],fun id h=>eG H L id h⟩
def IJ {H:S2}(hc:TI H)(ho:S6 H H2):TC (fun id=>H.C<=id) H2 H where
 gone id hs:=by
  cases h:H.get id with
  |none=>rfl
  |some b=>have:=hc.lt id b h;omega
 kept id b hs hb:=by
  have hlt:id<H.C:=Rz hs;rw[ho.nf id hlt]at hb;have hbb:=hc.below id b hb;refine⟨hlt,b,hb,?_⟩;have hno:∀i,i<H.C->¬H.C<=i:=fun i h=>Nat.not_le_of_lt h;cases b with
  |ni=>trivial
  |mp=>rfl
  |L g e cells=>exact⟨rfl,rfl,rfl,fun i h _=>.refl (hbb i h) hno⟩
  |loop st pend n env ps asg body=>exact⟨rfl,rfl,rfl,rfl,rfl,rfl,rfl,fun t ht=>.refl (hbb t ht) hno⟩
 none id hs hb:=by
  rw[ho.nf id (Rz hs)]at hb;exact hb
def av.bQ (hG:dG G)(hc:TI H)(ho:S6 H H2){K:S8->S2->Prop}(hv:Fz (fun id=>H.C<=id) H2 H.C v v')(hk:K (.ret v') H):av P G H K v H2 :=
 ⟨v',H,.freeze hG (IJ hc ho) hv,S0,hk⟩
def Fz.nf {H:S2}(h:Below H.C v)(hn:H.C<=nx):Fz (fun id=>H.C<=id) H2 nx v v:=by
 induction h with
 |lit v=>exact .lit v
 |M _ ih=>exact .M rfl fun i h _=>ih i h
 |nb _ ih=>exact .nb rfl fun i h _=>ih i h
 |agg _ ih=>exact .agg rfl fun i h _=>ih i h
 |nc _ ih=>exact .nc rfl fun i h _=>ih i h
 |nl _ _ ih1 ih2=>exact .nl rfl rfl (fun i h _=>ih1 i h) fun i h _=>ih2 i h
 |V h=>exact .V U (U)
 |Y h=>exact .Y U (U)
 |ng h=>exact .ng U (U)
def Fz.put {H:S2}{d:Nat}{ρ ρ':Env}(h:∀t,Fz S H nx (ρ t) (ρ' t))(hv:Fz S H nx v v'):∀t,Fz S H nx (aD ρ (some d) v t) (aD ρ' (some d) v' t):=by
 intro t;simp only[aD];split
 ·exact hv
 ·exact h t
def Fz.az {H:S2}(O:List (List Int)):Fz S H nx (.M O.length (O.map af)) (.M O.length (O.map af)) :=
 .M rfl fun i h _=>by simp only[PK];exact .cO _
def Fz.env {H:S2}{args args':List S1}(hl:args'.length=args.length)(h:∀i (h:i<args.length) (h':i<args'.length),Fz S H nx args[i] args'[i]):∀t,Fz S H nx (eQ args t) (eQ args' t):=by
 intro t;rw[uO,uO];by_cases ht:t<args.length
 ·rw[PB ht,PB U];exact h t ht (U)
 ·rw[PN U,PN U];exact .lit _
end Go.Hx
namespace Go.Hx
open Go.ChangeShapes Go.WideShapes Go.RowKit
variable {P:Program} {W:World} {H:Type} {enc:TypeId × Value->H} {spare:Nat->Bool} {held:Bool}
variable {φ:DataW H->List S1->Prop}{α:Type}{t:TypeId}
def dz.mono {ψ:DataW H->List S1->Prop}(h:dz enc P W spare held t φ)(hm:∀d as,φ d as->ψ d as):dz enc P W spare held t ψ:=fun fuel cs x hx =>
 let ⟨as,h1,h2⟩:=h fuel cs x hx;⟨as,h1,hm _ _ h2⟩
def qC (k:IntKind)(l:List Int):List S1:=l.map fun n=>.lit (.int k n)
def yy {f:α->List S1}{q:α->Prop}(hφ:∀d as,φ d as->∃a,as=f a/\q a):∀ {O:List (List S1)} {ds:List (DataW H)},uI φ ds O ->
  ∃l:List α,O=l.map f/\∀a,a∈l->q a:=by
 intro O
 induction O with
 |nil=>intro ds _;exact⟨[],rfl,fun a h=>by cases h⟩
 |cons r O ih =>
  intro ds h;obtain⟨h1,h2⟩:=h;cases ds with
  |nil=>simp at h1
  |cons d ds =>
   obtain⟨a,ha,hq⟩:=hφ _ _ (h2 0 SX SX);obtain⟨l,hl,hq2⟩:=ih (ds:=ds) ⟨by simpa using h1,fun i hi hi'=>h2 (i+1) (by simpa using hi) (by simpa using hi')⟩;refine⟨a :: l,by simp only[List.map_cons,<- hl];simp only[P2]at ha;rw[ha],fun b hb=>?_⟩;rcases List.mem_cons.1 hb with rfl|hb
   ·exact hq
   ·exact hq2 b hb
def D2 {β:Type}(f:α->β)(l:List α):(l.map fun a=>[f a]).flatten=l.map f:=by
 induction l with
 |nil=>rfl
 |cons a l ih=>simp only[List.map_cons,List.flatten_cons,ih];rfl
def uJ {e:TypeId}{k:IntKind}(ht:P.underlying t=some (.slice e))(he:P.underlying e=some (.int k))(hc:P.cellsOf e=1):
  dz enc P W spare held t fun _ as=>∃l:List Int,as=[.M l.length (qC k l)]/\l.length<=maxLen/\∀c,c∈l->(Lit.int k c).wf=true :=
 (yx ht U (gW he)).mono fun d as h=>by
  rcases h with ⟨_,rfl⟩|⟨ds,rest,O,_,rfl,hr,_,hl⟩
  ·exact⟨[],rfl,SY,fun c h=>by cases h⟩
  ·obtain⟨l,rfl,hq⟩:=yy (f:=fun n=>[S1.lit (.int k n)]) (q:=fun n=>(Lit.int k n).wf=true) (fun d as ⟨n,_,h2,h3⟩=>⟨n,h2,h3⟩) hr;refine⟨l,?_,by simpa using hl,hq⟩;rw[PR];congr 2;exact D2 _ l
def yz {r:Reach}{b:Nat}{v:Value}{d:DataW H}{ps:List MemPlace}(hop:dz enc P W spare held t φ)
  (ht:(∃fs,P.underlying t=some (.struct fs))\/∃n e,P.underlying t=some (.array n e)) (hval:Value.okWide P W r b t v) (hd:DataW.Trod enc P W 0 spare held t v d ps):
  ∃as,S4 P ig bZ W (.agg as) v/\φ d as:=by
 obtain⟨cs,rfl⟩:∃cs,v=.agg cs:=by
  unfold Value.okWide at hval;rcases ht with ⟨fs,ht⟩|⟨n,e,ht⟩
  ·rw[ht]at hval;obtain⟨cs,h,_⟩:=hval;exact⟨cs,h⟩
  ·rw[ht]at hval;obtain⟨cs,h,_⟩:=hval;exact⟨cs,h⟩
 obtain⟨fuel,hf⟩:=hd;obtain⟨as,hr,hφ⟩:=hop _ _ _ hf;refine⟨as,?_,hφ⟩;have:=S4.agg (P:=P) (Γ:=ig) (H:=bZ) (w:=W) (cells:=as) (cs:=cs.toList) hr.1 hr.2;simpa using this
def wf_u8 {n:Int}(h:(Lit.int .u8 n).wf=true):0<=n/\n<=255:=by
 simpa[Lit.wf,IntKind.min,IntKind.max,IntKind.signed,IntKind.bits] using h
end Go.Hx
namespace Go.Hx
attribute [go_sem] List.replicate_one List.flatten_cons List.flatten_nil List.length_append List.append_nil Nat.sub_zero Bool.not_true Bool.not_false
attribute [go_sem] Bool.true_eq_false List.map_eq_nil_iff uT Int.le_refl decide_true decide_false eq_self List.getElem?_map
attribute [go_sem] Et Eu Ew Ex Ey Ez EA EB
attribute [go_sem] EC ED EF EG EJ EI EK EL
attribute [go_sem] EM EN EO ER Ei Ej Ek El
attribute [go_sem] Em En Eo Ep Er Es noGoto_normal noGoto_exit
attribute [go_sem] noGoto_ret noGoto_panic lq qJ uN fj yE Ee
attribute [go_sem] Ef E8 E9 FZ FV FW FX FY
attribute [go_sem] List.getElem?_toArray Option.bind_some F1 F2 F3 F4 F5 F6
attribute [go_sem] F7 F8 F9 Ga Gb Gc Gd Ge
attribute [go_sem] Gf Gg Gh Gi Gj Gk Gl Gm
attribute [go_sem] Gn Gp Gq Gr Gs GX mL GY
attribute [go_sem] GZ G1 zf G2 G3 G4 G5 G6
attribute [go_sem] G7 G8 G9 Hf Hg Hh Hi List.set_cons_zero
attribute [go_sem] List.set_cons_succ Hl Ho Ht Hv HA HB HC
attribute [go_sem] HD HE HF HG HH HI HJ HK
attribute [go_sem] HL HM HN HO HP HQ HR
attribute [go_sem] oS u7 HS HT HU HV HW
attribute [go_sem] HX HY HZ H8 Ia Ib Ic Ie
attribute [go_sem] If Ig Ih Ii Ij Ik Il Im
attribute [go_sem] Io Ip Iq Ir Is It Iu Iv
attribute [go_sem] Iw fS aY aa Int.toNat_natCast Int.natCast_nonneg af List.all_cons
attribute [go_sem] List.all_nil Bool.and_true Nat.mul_one Gt Gu Gv Gw Gx
attribute [go_sem] Gy Gz GA GB GC GE
attribute [go_sem] GG GH GJ GI
attribute [go_sem] GK GL GM GN List.take_succ_cons List.take_zero
attribute [go_sem] List.take_nil List.drop_succ_cons List.drop_zero List.drop_nil List.forall_mem_cons List.not_mem_nil List.mem_cons List.mem_singleton
attribute [go_sem] or_false false_or or_true true_or not_or false_implies implies_true forall_const
attribute [go_sem] Fc Fe Ff Fg Fh Fi Fj Fk
attribute [go_sem] Fl Fm Fo Fp Fq Fs Ft Fu
attribute [go_sem] Fv Fw Fx Fy FA Bool.false_eq_true FB FC
attribute [go_sem] FD FE FF FG FH FI
attribute [go_sem] FJ FK builtin_len builtin_append builtin_copy builtin_min builtin_max yH
attribute [go_sem] yI yJ FL FM yK yL yM yQ
attribute [go_sem] yR yS FN bB uP yT yU uR
attribute [go_sem] FT uQ FU FS List.map_cons List.map_nil if_true if_false
attribute [go_sem] ne_eq not_false_eq_true not_true_eq_false true_and and_true false_and and_false List.length_cons
attribute [go_sem] List.length_nil Nat.zero_add Nat.add_zero Option.isSome_some List.append_assoc List.cons_append List.nil_append Option.map_some
attribute [go_sem] Option.map_none dR uO List.getElem?_cons_zero List.getElem?_cons_succ List.getElem?_nil Option.getD_some Option.getD_none
attribute [go_sem] ES ET EU EV EW EX EY EZ
attribute [go_sem] Iy Iz IA Int.natCast_zero Int.cast_ofNat_Int IG IH II
attribute [go_sem] FO FQ IE IF IB IC aM Nat.le_refl
end Go.Hx
namespace Go.Hx
variable {P:Program} {G:Nat->Option (List S1)} {H H':S2}
variable {O:List (List S1)}{cs cs' z:List S1}{id lo lo' n nx:Nat}{S:Nat->Prop}{v x:S1}{b:S7}{e e0 e1 t:TypeId}
def S2.cut (H:S2)(n:Nat):S2:=⟨fun j=>if j<n then H.get j else none,H.C⟩
def IK (h:id<n):(H.cut n).get id=H.get id:=by simp[S2.cut,h]
theorem S6.cut {B:S2}(h:S6 B H):S6 B (H.cut B.C):=⟨h.C,fun id hi=>(IK hi).trans (h.nf id hi)⟩
open Classical in
def Fz.dead {H:S2}(h:Below nx v):Fz S H nx v v:=by
 induction h with
 |lit v=>exact .lit v
 |M _ ih=>exact .M rfl fun i h _=>ih i h
 |nb _ ih=>exact .nb rfl fun i h _=>ih i h
 |agg _ ih=>exact .agg rfl fun i h _=>ih i h
 |nc _ ih=>exact .nc rfl fun i h _=>ih i h
 |nl _ _ ih1 ih2=>exact .nl rfl rfl (fun i h _=>ih1 i h) fun i h _=>ih2 i h
 | @V id _ _ _ _ h=>by_cases hs:S id;exact .deadOwn h hs;exact .V h hs
 | @Y id _ _ h=>by_cases hs:S id;exact .deadPtr h hs;exact .Y h hs
 | @ng id h=>by_cases hs:S id;exact .deadYld h hs;exact .ng h hs
def au (lo:Nat)(H:S2)(e:TypeId)(v:S1)(cs:List S1):Prop :=
 (v=.lit (.slice none 0 0)/\cs=[])\/∃id g,lo<=id/\id<H.C/\v=.V id g 0 cs.length 1/\H.get id=some (.L g e cs)
def au.nil :au lo H e (.lit (.slice none 0 0)) []:=.inl ⟨rfl,rfl⟩
def au.na (h:au lo H e v cs)(hl:lo'<=lo)(hn:H.C<=H'.C)(hk:∀id g,lo<=id->id<H.C->H.get id=some (.L g e cs)->v=.V id g 0 cs.length 1->H'.get id=H.get id):au lo' H' e v cs:=by
 rcases h with h|⟨id,g,h1,h2,h3,h4⟩
 ·exact .inl h
 ·exact .inr ⟨id,g,U,U,h3,by rw[hk id g h1 h2 h4 h3];exact h4⟩
def au.over (h:au lo H e v cs)(ho:S6 H H'):au lo H' e v cs:=h.na S0 ho.C fun id _ _ h2 _ _=>ho.nf id h2
theorem au.one (h:au lo H e v cs):v.one=true:=by
 rcases h with ⟨rfl,_⟩|⟨_,_,_,_,rfl,_⟩<;>rfl
theorem au.cells (h:au lo H e v cs):v.cells=[v]:=by
 rcases h with ⟨rfl,_⟩|⟨_,_,_,_,rfl,_⟩<;>rfl
def au.fz (h:au lo H e v cs)(hS:∀i,lo<=i->S i)(hl:cs'.length=cs.length)
  (hc:∀i (h:i<cs.length) (h':i<cs'.length),Fz S H nx cs[i] cs'[i]):Fz S H nx v (.M cs'.length cs'):=by
 rcases h with ⟨rfl,rfl⟩|⟨id,g,h1,_,rfl,h4⟩
 ·obtain rfl:=PH hl;exact .nil
 ·rw[hl];refine .np (hS id h1) h4 U fun j hj h2 h'=>?_;simp only[Nat.zero_add]at h2 ⊢;exact hc j h2 h'
def au.dI {l:List Int}(h:au lo H e v (ints l))(hS:∀i,lo<=i->S i):Fz S H nx v (af l):=by
 have:=h.fz (S:=S) (nx:=nx) (cs':=ints l) hS rfl fun i hi _=>by simp only[ints,PK];exact .lit _
 rw[aY]at this;exact this
def au.new :au H.C (ext H [.L 0 e cs]) e (.V H.C 0 0 cs.length 1) cs :=
 .inr ⟨H.C,0,S0,by simp[bB],rfl,by simpa using dT H [.L 0 e cs] 0 SX⟩
def cE (h:id<H.C):(ext H [b]).get id=H.get id:=eG H [b] id h
def cf :(ext H [b]).get H.C=some b:=by simpa using dT H [b] 0 (SX)
def qX (h:n=H.C):H.lay n b=some (ext H [b]):=by subst h;exact uP H b
def qY {src:List S1}(ht:P.underlying t=some (.slice e))(hz:P.cellsOf e=1)(hzero:bH P e=some z)(hx:src.all S1.one=true)
  (hb:(cs.length+src.length)*P.bytesOf e<=2 ^ 47/\cs.length+src.length<=2 ^ 47) (ho:au lo H e v cs) (hlo:lo<=H.C) (hn:n=H.C):
  ∃v' H',bf P H n t t v (.M src.length src)=some (v',H')/\au lo H' e v' (cs++src)/\H.C<=H'.C/\(∀k,k<H.C->(∀g n,v≠.V k g 0 n 1)->H'.get k=H.get k):=by
 have hsrc:bR H 1 (.M src.length src)=some (src.length,src):=by
  unfold bR;simp
 by_cases h0:src.length=0
 ·have e0:src=[]:=PH h0;subst e0;refine⟨v,H,?_,?_,S0,fun _ _ _=>rfl⟩
  ·rcases ho with ⟨rfl,rfl⟩|⟨i,g,h1,h2,rfl,h4⟩
   ·unfold bf;rw[ht];simp only[hzero,hz,Option.bind_some];rw[hsrc];rfl
   ·unfold bf;rw[ht];have hl:=ag h4;simp only[hzero,hz,Option.bind_some,hsrc,hl];rw[PG ⟨trivial,trivial,U,hb.1,hb.2,rfl⟩];simp
  ·rw[List.append_nil];exact ho
 rcases ho with ⟨rfl,rfl⟩|⟨i,g,h1,h2,rfl,h4⟩
 ·refine⟨.V H.C 0 0 src.length 1,ext H [.L 0 e src],?_,.inr ⟨H.C,0,hlo,by simp[bB],SX,by simpa using cf⟩,by simp[bB],fun k hk _=>cE hk⟩;unfold bf;rw[ht];simp only[hzero,hz,Option.bind_some,hsrc];rw[PC h0,PG (by simpa using hb),qX hn,hn];rfl
 ·refine⟨.V i (g+1) 0 (cs.length+src.length) 1,H.upd i (.L (g+1) e (cs++src)),?_,.inr ⟨i,g+1,h1,h2,SX,by rw[ab,PG rfl]⟩,S0,fun k hk hne=>?_⟩
  ·unfold bf;rw[ht];have hl:=ag h4;simp only[hzero,hz,Option.bind_some,hsrc,hl];rw[PG ⟨trivial,trivial,U,hb.1,hb.2,hx⟩,PC h0];simp
  ·rw[ab,PC];rintro rfl;exact hne _ _ rfl
def fT (ht:P.underlying t=some (.slice e))(hz:P.cellsOf e=1)(hzero:bH P e=some z)(hx:x.one=true)
  (hb:(cs.length+1)*P.bytesOf e<=2 ^ 47/\cs.length+1<=2 ^ 47) (ho:au lo H e v cs) (hlo:lo<=H.C) (hn:n=H.C+1):
  ∃v' H',bf P (ext H [.L 0 e [x]]) n t t v (.V H.C 0 0 1 1)=some (v',H')/\au lo H' e v' (cs++[x])/\H.C<=H'.C/\(∀k,k<H.C->(∀g n,v≠.V k g 0 n 1)->H'.get k=H.get k):=by
 have hsrc:bR (ext H [.L 0 e [x]]) 1 (.V H.C 0 0 1 1)=some (1,[x]):=by
  unfold bR;have:=ag (H:=ext H [.L 0 e [x]]) (g:=0) (cf (b:=.L 0 e [x]));simp[this]
 have hne:(ext H [S7.L 0 e [x]]).C=H.C+1:=rfl;rcases ho with ⟨rfl,rfl⟩|⟨i,g,h1,h2,rfl,h4⟩
 ·refine⟨.V (H.C+1) 0 0 1 1,ext (ext H [.L 0 e [x]]) [.L 0 e [x]],?_,.inr ⟨H.C+1,0,U,by simp[bB],SX,?_⟩,by simp[bB];omega,fun k hk _=>?_⟩
  ·unfold bf;rw[ht];simp only[hzero,hz,Option.bind_some,hsrc];rw[PC SY,PG (by simpa using hb),qX (by rw[hn,hne]),hn];rfl
  ·rw[<- hne];exact cf
  ·rw[cE (by rw[hne];omega),cE hk]
 ·have h4':(ext H [.L 0 e [x]]).get i=some (.L g e cs):=by rw[cE h2];exact h4
  refine⟨.V i (g+1) 0 (cs.length+1) 1,(ext H [.L 0 e [x]]).upd i (.L (g+1) e (cs++[x])),?_,.inr ⟨i,g+1,h1,by rw[ar,hne];omega,SX,by rw[ab,PG rfl]⟩,by rw[ar,hne];omega,fun k hk hne=>?_⟩
  ·unfold bf;rw[ht];have hl:=ag h4';simp only[hzero,hz,Option.bind_some,hsrc,hl];rw[PG ⟨trivial,trivial,U,hb.1,hb.2,by simp[hx]⟩];simp
  ·rw[ab,PC,cE hk];rintro rfl;exact hne _ _ rfl
def dJ (lo:Nat)(H:S2)(e1 e0:TypeId)(v:S1)(O:List (List S1)):Prop :=
 ∃cs:List S1,au lo H e1 v cs/\cs.length=O.length/\∀(j:Nat) (r:List S1) (c:S1),O[j]?=some r->cs[j]?=some c->au lo H e0 c r
theorem dJ.nil :dJ lo H e1 e0 (.lit (.slice none 0 0)) []:=⟨[],.nil,rfl,fun j r c h=>by simp at h⟩
theorem dJ.over (h:dJ lo H e1 e0 v O)(ho:S6 H H'):dJ lo H' e1 e0 v O:=by
 obtain⟨cs,c1,c2,c3⟩:=h;exact⟨cs,c1.over ho,c2,fun j r c hr hc=>(c3 j r c hr hc).over ho⟩
theorem dJ.fz {rows':List (List S1)}(h:dJ lo H e1 e0 v O)(hS:∀i,lo<=i->S i)(hl:rows'.length=O.length)
  (hr:∀(j:Nat) (r r':List S1),O[j]?=some r->rows'[j]?=some r'->r'.length=r.length/\∀i (h:i<r.length) (h':i<r'.length),Fz S H nx r[i] r'[i]):
  Fz S H nx v (.M rows'.length (rows'.map fun r=>.M r.length r)):=by
 obtain⟨cs,h1,h2,h3⟩:=h;have:=h1.fz (S:=S) (nx:=nx) (cs':=rows'.map fun r=>.M r.length r) hS (by simp[h2,hl]) fun i hi hi'=>by
  simp only[PK];have hi2:i<O.length:=U
  have hi3:i<rows'.length:=U
  obtain⟨a1,a2⟩:=hr i O[i] rows'[i] (PB hi2) (PB hi3);exact(h3 i O[i] cs[i] (PB hi2) (PB hi)).fz (S:=S) (nx:=nx) (cs':=rows'[i]) hS a1 a2
 rw[PR]at this;exact this
def au.qV {e':TypeId}{u:S1}(hv:au lo H e v cs)(hu:au lo' H e' u cs')(hne:e≠e')(hn:H.C<=H'.C)
  (hp:∀k,k<H.C->(∀g n,v≠.V k g 0 n 1)->H'.get k=H.get k):au lo' H' e' u cs':=by
 refine hu.na S0 hn fun i g h1 h2 h3 _=>hp i h2 fun g' n he=>?_;rcases hv with ⟨rfl,_⟩|⟨j,g2,_,_,rfl,h4⟩
 ·cases he
 ·have:=S1.V.inj he;obtain rfl:j=i:=this.1;rw[h3]at h4;cases h4;exact hne rfl
def dJ.app {r:List S1}(ht:P.underlying t=some (.slice e1))(hz:P.cellsOf e1=1)(hzero:bH P e1=some z)(hby:P.bytesOf e1=24)(hne:e1≠e0)
  (hb:O.length<2 ^ 40) (h:dJ lo H e1 e0 v O) (hlo:lo<=H.C) (hx:au lo H e0 x r) (hn:n=H.C+1):
  ∃v' H',bf P (ext H [.L 0 e1 [x]]) n t t v (.V H.C 0 0 1 1)=some (v',H')/\dJ lo H' e1 e0 v' (O++[r])/\H.C<=H'.C/\(∀k,k<H.C->k<lo->H'.get k=H.get k):=by
 obtain⟨cs,h1,h2,h3⟩:=h;obtain⟨v',H',hA,hO,hL,hp⟩:=fT (t:=t) ht hz hzero hx.one (by rw[hby,h2];omega) h1 hlo hn;refine⟨v',H',hA,⟨cs++[x],hO,by simp[h2],fun j r' c hr hc=>?_⟩,hL,fun k hk hkl=>hp k hk fun g n he=>?_⟩
 ·have key:∀u l,au lo H e0 u l->au lo H' e0 u l:=fun u l hu=>h1.qV hu hne hL hp;rcases PZ j O.length with hj|hj
  ·rw[PJ hj]at hr;rw[PJ U]at hc;exact key _ _ (h3 j r' c hr hc)
  ·rw[PW hj]at hr;rw[PW U]at hc;have hj0:j-O.length=0:=by
    rcases QN (j-O.length) with h|h
    ·exact h
    ·rw[PN (by simp;omega)]at hr;cases hr
   have hj1:j-cs.length=0:=U;rw[hj0]at hr;rw[hj1]at hc;cases hr;cases hc;exact key _ _ hx
 ·rcases h1 with ⟨rfl,_⟩|⟨i,g2,a1,_,rfl,_⟩
  ·cases he
  ·have:=S1.V.inj he;omega
attribute [go_sem] Int.reduceToNat Int.reduceLE Int.reduceLT Int.reduceAdd Int.reduceSub Int.reduceMul Int.reduceEq Int.reduceNe Nat.reduceEqDiff Nat.reducePow Nat.reduceDiv Nat.reduceMod Nat.reduceAdd Nat.reduceMul Nat.reduceSub Nat.reduceLT Nat.reduceLeDiff reduceIte reduceCtorEq
end Go.Hx
namespace Go.Hx
variable {P:Program} {G:Nat->Option (List S1)} {Γ Γ':aq} {H H' H1 H2:S2} {w w':World}
variable {g id:Nat}{v v':S1}{K:S8->S2->Prop}{e:TypeId}
inductive TG (id g:Nat):S1->S1->Prop
  |same (v:S1):TG id g v v
  |hole:TG id g (.V id g 0 0 1) (.V id (g+1) 0 0 1)
  |M {len:Nat} {c c':List S1} (hl:c'.length=c.length) (h:∀i (h:i<c.length) (h':i<c'.length),TG id g c[i] c'[i]):TG id g (.M len c) (.M len c')
  |agg {c c':List S1} (hl:c'.length=c.length) (h:∀i (h:i<c.length) (h':i<c'.length),TG id g c[i] c'[i]):TG id g (.agg c) (.agg c')
def TG.sound {cells:List S1}(E:Ta Γ H1 w Γ H2 w)(hn:H1.C<=H2.C)(hg1:H1.get id=some (.L g e cells))(hg2:H2.get id=some (.L (g+1) e []))
     (hb:TG id g v v'):∀ {cv:Value},S4 P Γ H1 w v cv->S4 P Γ H2 w v' cv:=by
  induction hb with
  |same v=>exact fun h=>h.aV E hn
  |hole =>
    intro cv h;cases h with
    |V h =>
      obtain⟨h0,h1,h2,h3⟩:=h;have h4:=(h3 _ _ _ hg1).2 rfl;refine .V ⟨PL h0 hn,h1,by rw[hg2];simp,fun g' e' c' h=>?_⟩;rw[hg2]at h;cases h;refine⟨S0,fun _=>?_⟩;cases hΓ:Γ id with
      |none=>rw[hΓ]at h4;exact h4
      |some y =>
        obtain⟨b,base,n⟩:=y;rw[hΓ]at h4;obtain⟨a,cap,a1,a2,a3,a4⟩:=h4;exact⟨a,cap,a1,a2,SX,a4⟩
  |M hl hc ih =>
    intro cv h;cases h with
    |nj a cap =>
      rename_i c';obtain rfl:=PH (l:=c') (by simpa using hl);exact .nj a cap
    |M hb hlt hlen hcs hcell hrel=>exact .M hb hlt hlen U hcell fun i a b=>ih i U a (hrel i U b)
  |agg hl hc ih =>
    intro cv h;cases h with
    |agg hcs hrel=>exact .agg U fun i a b=>ih i U a (hrel i U b)
def xN {cells:List S1}(hg:H.get id=some (.L g e cells)):Ta Γ H w Γ (H.upd id (.L (g+1) e [])) w :=
  ⟨rfl,rfl,rfl,S0,fun b _ ho=>⟨rfl,ho⟩,fun j _ _ x' hx=>by
    rw[ab]at hx;by_cases hj:j=id
    · rw[PG hj]at hx;cases hx;exact⟨_,by rw[hj];exact hg,by simp[S7.le]⟩
    · rw[PC hj]at hx;exact⟨x',hx,S7.le_refl _ _ _⟩,fun _ _=>rfl,.refl _,.refl _ _⟩
def Dg {cells:List S1}(R:S9 P G Γ H w)(hg:H.get id=some (.L g e cells)):S9 P G Γ (H.upd id (.L (g+1) e [])) w:=by
  have E:Ta Γ H w Γ (H.upd id (.L (g+1) e [])) w:=xN hg;have hne:∀j b,(H.upd id (.L (g+1) e [])).get j=some b->(∀g e c,b≠.L g e c)->H.get j=some b:=fun j b h hb=>by
    rw[ab]at h;by_cases hj:j=id
    · rw[PG hj]at h;cases h;exact absurd rfl (hb _ _ _)
    · rw[PC hj]at h;exact h
  refine
    { L:=fun j g1 e1 c1 h1=>?_
      loop:=fun j st pend n env ps asg body h1=>?_
      mp:=fun j es h1=>R.mp j es (hne j _ h1 fun _ _ _ h=>by cases h)
      ni:=fun j h1=>R.ni j (hne j _ h1 fun _ _ _ h=>by cases h)
      inj:=R.inj
      nv:=fun j x hx=>?_
      lt:=R.lt
      C:=fun j y hy=>?_
      nr:=fun g cells h=>(R.nr g cells h).aV E (Nat.le_refl _)
      gsz:=R.gsz }
  · rw[ab]at h1;by_cases hj:j=id
    · rw[PG hj]at h1;cases h1;have h2:=R.L id g e cells hg;rw[hj];cases hΓ:Γ id with
      |none=>rfl
      |some y =>
        obtain⟨b,base,n⟩:=y;rw[hΓ]at h2;obtain⟨c,a1,a2,a3,_⟩:=h2;exact⟨c,a1,a2,by simp only[List.length_nil];omega,fun i h=>absurd h (PS _)⟩
    · rw[PC hj]at h1;have h2:=R.L j g1 e1 c1 h1;cases hΓ:Γ j with
      |none=>rw[hΓ]at h2;exact h2
      |some y =>
        obtain⟨b,base,n⟩:=y;rw[hΓ]at h2;obtain⟨c,a1,a2,a3,a4⟩:=h2;exact⟨c,a1,a2,a3,fun i h=>let ⟨cv,b1,b2⟩:=a4 i h;⟨cv,b1,b2.aV E S0⟩⟩
  · obtain⟨b,rr,a1,a2,a3,a4,a5,a6,a7,a8,a9⟩:=R.loop j st pend n env ps asg body (hne j _ h1 fun _ _ _ h=>by cases h);exact⟨b,rr,a1,a2,a3,a4,a5,a6,a7,a8,fun t ht=>(a9 t ht).aV E S0⟩
  · rw[ab];split
    · exact⟨_,rfl⟩
    · exact R.nv j x hx
  · rw[ab]at hy;rw[ar];by_cases hj:j=id
    · rw[hj];exact R.C id _ hg
    · rw[PC hj]at hy;exact R.C j y hy
def av.hole (hG:dG G)(ho:S6 H H2){cells:List S1}(hid:H.C<=id)(hg:H2.get id=some (.L g e cells)){v2:S1}
    (hv:Fz (fun j=>H.C<=j/\j≠id) H2 H2.C v v') (hb:TG id g v' v2)
    (hk:∀H',H'.C=H2.C->(∀j,j<H.C->H'.get j=H.get j)->H'.get id=some (.L (g+1) e [])->K (.ret v2) H'):av P G H K v H2:=by
  obtain⟨H1,hH1⟩:∃H1:S2,H1=⟨fun j=>if j=id\/j<H.C then H2.get j else none,H2.C⟩:=⟨_,rfl⟩
  have g1:H1.get id=some (.L g e cells):=by rw[hH1];exact(PG (.inl rfl)).trans hg
  refine⟨v2,H1.upd id (.L (g+1) e []),fun Γ w R=>?_,by rw[ar,hH1];exact ho.C,hk _ (by rw[ar,hH1]) (fun j hj=>?_) (by rw[ab,PG rfl])⟩
  · have hc:=R.nl;have F : TC (fun j=>H.C≤j∧j≠id) H2 H1:=by
      refine⟨fun j hj=>?_,fun j b hj hb=>?_,fun j hj hn=>?_⟩
      · rw[hH1];exact PC fun h=>h.elim hj.2 fun h=>by have:=hj.1;omega
      · have hjj : j=id∨j<H.C:=by
          by_cases h:j=id
          · exact .inl h
          · exact .inr (Rz fun h2=>hj ⟨h2,h⟩)
        have h1:H1.get j=some b:=(by rw[hH1];exact(PG hjj).trans hb);have hnx:H1.C=H2.C:=(by rw[hH1]);have hbb:=hc.below j b hb;refine⟨by rw[hnx];exact hc.lt j b hb,b,h1,?_⟩;rw[hnx];cases b with
        |ni=>trivial
        |mp=>rfl
        |L g e cells=>exact⟨rfl,rfl,rfl,fun i h _=>.dead (hbb i h)⟩
        |loop st pend n env ps asg body=>exact⟨rfl,rfl,rfl,rfl,rfl,rfl,rfl,fun t ht=>.dead (hbb t ht)⟩
      · rw[hH1];show (if j=id\/j<H.C then H2.get j else none)=none;split
        · exact hn
        · rfl
    have R1:S9 P G (cY (fun j=>H.C<=j/\j≠id) Γ) H1 w:=F.rel hG R;have E1:Ta Γ H2 w (cY (fun j=>H.C<=j/\j≠id) Γ) H1 w:=F.aV;have E2:Ta (cY (fun j=>H.C<=j/\j≠id) Γ) H1 w (cY (fun j=>H.C<=j/\j≠id) Γ) (H1.upd id (.L (g+1) e [])) w:=xN g1;refine⟨_,Dg R1 g1,E1.trans (by rw[hH1];exact Nat.le_refl _) E2,fun cv h=>?_⟩;have hv':Fz (fun j=>H.C<=j/\j≠id) H2 H1.C v v':=(by rw[hH1];exact hv);exact hb.sound E2 S0 g1 (by rw[ab,PG rfl]) (hv'.sound R F h)
  · rw[ab,PC U,hH1];exact(PG (.inr hj)).trans (ho.nf j hj)
inductive TJ (H:S2):S1->S1->Prop
  |same (v:S1):TJ H v v
  |V {id g o z:Nat} {e:TypeId} {cells:List S1} (hg:H.get id=some (.L g e cells)):TJ H (.V id g o 0 z) (.M 0 [])
  |M {len:Nat} {c c':List S1} (hl:c'.length=c.length) (h:∀i (h:i<c.length) (h':i<c'.length),TJ H c[i] c'[i]):TJ H (.M len c) (.M len c')
  |agg {c c':List S1} (hl:c'.length=c.length) (h:∀i (h:i<c.length) (h':i<c'.length),TJ H c[i] c'[i]):TJ H (.agg c) (.agg c')
def TJ.sound (hb:TJ H v v'):∀ {cv:Value},S4 P Γ H w v cv->S4 P Γ H w v' cv:=by
  induction hb with
  |same v=>exact fun h=>h
  | @V id g o z e cells hg =>
    intro cv h;cases h with
    |V h =>
      obtain⟨_,_,_,h3⟩:=h;have h4:=(h3 _ _ _ hg).2 rfl;cases hΓ:Γ id with
      |none =>
        rw[hΓ]at h4;obtain⟨_,_,rfl⟩:=h4;exact .nj none 0
      |some y =>
        obtain⟨b,base,n⟩:=y;rw[hΓ]at h4;obtain⟨a,cap,rfl,_⟩:=h4;exact .nj _ _
  |M hl hc ih =>
    intro cv h;cases h with
    |nj a cap =>
      rename_i c';obtain rfl:=PH (l:=c') (by simpa using hl);exact .nj a cap
    |M hb hlt hlen hcs hcell hrel=>exact .M hb hlt hlen U hcell fun i a b=>ih i U a (hrel i U b)
  |agg hl hc ih =>
    intro cv h;cases h with
    |agg hcs hrel=>exact .agg U fun i a b=>ih i U a (hrel i U b)
def ae.emp {f:FuncId}{args args':List S1}(hl:args'.length=args.length)(hv:∀i (h:i<args.length) (h':i<args'.length),TJ H args[i] args'[i])
    (h:ae P G f args' H K):ae P G f args H K :=
  ⟨h.1,fun Γ w cargs R hr=>h.2 Γ w cargs R ⟨by have:=hr.1;omega,fun i a b=>(hv i U a).sound (hr.2 i U b)⟩⟩
end Go.Hx
