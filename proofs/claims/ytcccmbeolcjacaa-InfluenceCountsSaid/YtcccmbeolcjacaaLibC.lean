/-
  An evaluator of code on abstract states, made for the kernel. Own work: no program stands in this text.
-/
import Derived.Test.YtcccmbeolcjacaaLibB
import Derived.ProofKit
import Derived.SevenTiedAt
import Derived.RecoverIn
import Derived.MakeChecks
import Derived.OpenShut
set_option linter.all false
namespace Go.Hx
inductive BT (α:Type) where
 |nil
 |node (v:Option α) (l r:BT α)
inductive TK where
 |L (gen:Nat) (elem:TypeId) (cells:List Ty)
 |loop (st:LoopState) (pend:Option Code) (n:Nat) (env:BT Ty) (ps:Array Tmp) (asg body:Code)
 |mp (es:List (Int × Int))
structure EH where
 hp:BT TK
 nx:Nat
inductive RR where
 |ev (x:AX) (env:BT Ty) (h:EH)
 |ret (v:Ty) (h:EH)
 |panic (h:EH)
abbrev R:=Option RR
noncomputable def dM:BT Ty->Nat->Option Ty :=
 BT.rec (motive:=fun _=>Nat->Option Ty) (fun _=>none) (fun v _ _ gl gr n =>
  Nat.rec (motive:=fun _=>Option Ty) v (fun m _=>Nat.rec (motive:=fun _=>Option Ty) (gl (Nat.div m 2)) (fun _ _=>gr (Nat.div m 2)) (Nat.mod m 2)) n)
noncomputable def aW:BT TK->Nat->Option TK :=
 BT.rec (motive:=fun _=>Nat->Option TK) (fun _=>none) (fun v _ _ gl gr n =>
  Nat.rec (motive:=fun _=>Option TK) v (fun m _=>Nat.rec (motive:=fun _=>Option TK) (gl (Nat.div m 2)) (fun _ _=>gr (Nat.div m 2)) (Nat.mod m 2)) n)
noncomputable def rA:Nat->Nat->Ty->(BT Ty->R)->R :=
 Nat.rec (motive:=fun _=>Nat->Ty->(BT Ty->R)->R) (fun _ _ _=>none) (fun _ ih n x k =>
  Nat.rec (motive:=fun _=>R) (k (.node (some x) .nil .nil)) (fun m _=>Nat.rec (motive:=fun _=>R) (ih (Nat.div m 2) x fun l=>k (.node none l .nil)) (fun _ _=>ih (Nat.div m 2) x fun r=>k (.node none .nil r)) (Nat.mod m 2)) n)
noncomputable def kF:BT Ty->Nat->Ty->(BT Ty->R)->R :=
 BT.rec (motive:=fun _=>Nat->Ty->(BT Ty->R)->R) (rA 20) (fun v l r sl sr n x k =>
  Nat.rec (motive:=fun _=>R) (k (.node (some x) l r)) (fun m _=>Nat.rec (motive:=fun _=>R) (sl (Nat.div m 2) x fun l=>k (.node v l r)) (fun _ _=>sr (Nat.div m 2) x fun r=>k (.node v l r)) (Nat.mod m 2)) n)
noncomputable def rB:Nat->Nat->TK->(BT TK->R)->R :=
 Nat.rec (motive:=fun _=>Nat->TK->(BT TK->R)->R) (fun _ _ _=>none) (fun _ ih n x k =>
  Nat.rec (motive:=fun _=>R) (k (.node (some x) .nil .nil)) (fun m _=>Nat.rec (motive:=fun _=>R) (ih (Nat.div m 2) x fun l=>k (.node none l .nil)) (fun _ _=>ih (Nat.div m 2) x fun r=>k (.node none .nil r)) (Nat.mod m 2)) n)
noncomputable def fw:BT TK->Nat->TK->(BT TK->R)->R :=
 BT.rec (motive:=fun _=>Nat->TK->(BT TK->R)->R) (rB 20) (fun v l r sl sr n x k =>
  Nat.rec (motive:=fun _=>R) (k (.node (some x) l r)) (fun m _=>Nat.rec (motive:=fun _=>R) (sl (Nat.div m 2) x fun l=>k (.node v l r)) (fun _ _=>sr (Nat.div m 2) x fun r=>k (.node v l r)) (Nat.mod m 2)) n)
noncomputable def cL (n:Nat)(k:Nat->R):R:=Nat.rec (motive:=fun _=>R) (k 0) (fun m _=>k (Nat.succ m)) n
noncomputable def lE (i:Int)(k:Int->R):R:=Int.rec (motive:=fun _=>R) (fun n=>cL n fun n=>k (.ofNat n)) (fun n=>cL n fun n=>k (.negSucc n)) i
noncomputable def vd (b:Bool)(k:Bool->R):R:=Bool.rec (motive:=fun _=>R) (k false) (k true) b
noncomputable def fy:List Ty->(List Ty->R)->R :=
 List.rec (motive:=fun _=>(List Ty->R)->R) (fun k=>k []) (fun x _ ih k=>ih fun l=>k (x :: l))
noncomputable def rC:List (Int × Int)->(List (Int × Int)->R)->R :=
 List.rec (motive:=fun _=>(List (Int × Int)->R)->R) (fun k=>k []) (fun p _ ih k=>Prod.casesOn (motive:=fun _=>R) p fun a b=>lE a fun a=>lE b fun b=>ih fun l=>k ((a,b) :: l))
noncomputable def ve (v:Value)(k:Value->R):R:=match v with
 |.int i n=>lE n fun n=>k (.int i n)
 |.bool b=>vd b fun b=>k (.bool b)
 |v=>k v
noncomputable def vf (v:Value)(k:Ty->R):R:=ve v fun v=>k (.lit v)
noncomputable def vg (n:Nat)(cs:List Ty)(k:Ty->R):R:=cL n fun n=>fy cs fun cs=>k (.M n cs)
noncomputable def vh (a b c d e:Nat)(k:Ty->R):R:=cL a fun a=>cL b fun b=>cL c fun c=>cL d fun d=>cL e fun e=>k (.V a b c d e)
noncomputable def vj (a b c:Nat)(k:Ty->R):R:=cL a fun a=>cL b fun b=>cL c fun c=>k (.Y a b c)
noncomputable def vk (cs:List Ty)(n:Nat)(k:Ty->R):R:=cL n fun n=>fy cs fun cs=>k (.nc cs n)
noncomputable def vl (cs:List Ty)(k:Ty->R):R:=fy cs fun cs=>k (.agg cs)
noncomputable def vm (cs:List Ty)(k:Ty->R):R:=fy cs fun cs=>k (.nf cs)
noncomputable def vn (f:FuncId)(a b:List Ty)(k:Ty->R):R:=cL f fun f=>fy a fun a=>fy b fun b=>k (.nl f a b)
noncomputable def vo (n:Nat)(k:Ty->R):R:=cL n fun n=>k (.ng n)
noncomputable def ja:Ty->(Ty->R)->R:=fun v=>Ty.casesOn (motive_1:=fun _=>(Ty->R)->R) v vf vg vh vj vk vl vm vn vo
noncomputable def aC (env:BT Ty):Env:=fun t=>Option.casesOn (motive:=fun _=>Ty) (dM env t) (.lit undef) fun v=>v
noncomputable def TK.jb:TK->TE
 |.L g e c=>.L g e c
 |.loop st p n env ps a b=>.loop st p n (aC env) ps a b
 |.mp es=>.mp es
noncomputable def ao (h:EH):Tz:=⟨fun j=>(aW h.hp j).map TK.jb,h.nx⟩
noncomputable def eK (env:BT Ty)(d:Option Tmp)(v:Ty)(k:BT Ty->R):R :=
 Option.casesOn (motive:=fun _=>R) d (k env) fun d=>kF env d v k
noncomputable def vp (G:Nat->Option (List Ty))(g:Nat)(k:Ty->R):R :=
 Option.casesOn (motive:=fun _=>R) (G g) (k (.lit (.pointer (some ⟨g,0,none⟩)))) fun cells=>fy cells fun cells=>k (.nc cells 0)
noncomputable def vq (env:BT Ty)(t:Tmp)(k:Ty->R):R:=Option.casesOn (motive:=fun _=>R) (dM env t) (k (.lit undef)) k
noncomputable def b7 (G:Nat->Option (List Ty))(env:BT Ty)(x:Operand)(k:Ty->R):R :=
 Operand.casesOn (motive:=fun _=>R) x (fun t=>vq env t k) (fun v=>k (.lit v)) (fun g=>vp G g k) (fun f=>k (.nl f [] []))
noncomputable def kG (G:Nat->Option (List Ty))(env:BT Ty)(l:List Operand):(List Ty->R)->R :=
 List.rec (motive:=fun _=>(List Ty->R)->R) (fun k=>k []) (fun x _ ih k=>b7 G env x fun x=>ih fun l=>k (x :: l)) l
inductive OR where
 |fail
 |val (v:Ty)
 |nk (v:Ty) (r g:Nat) (e:TypeId) (cells:List Ty) (fresh:Bool)
 |effM (v:Ty) (r:Nat) (es:List (Int × Int)) (fresh:Bool)
noncomputable def OR.opt (o:Option Ty):OR:=Option.casesOn (motive:=fun _=>OR) o .fail .val
noncomputable def ph (k:IntKind)(i:Int):Int :=
 match k with
 |.i64=>Int.casesOn (motive:=fun _=>Int) i
   (fun n=>Bool.casesOn (motive:=fun _=>Int) (Nat.ble n 9223372036854775807) (IntKind.i64.wrap (.ofNat n)) (.ofNat n))
   (fun n=>Bool.casesOn (motive:=fun _=>Int) (Nat.ble n 9223372036854775807) (IntKind.i64.wrap (.negSucc n)) (.negSucc n))
 |k=>k.wrap i
noncomputable def pj (a b:Int):Bool :=
 Int.casesOn (motive:=fun _=>Bool) a
  (fun m=>Int.casesOn (motive:=fun _=>Bool) b (fun n=>Nat.ble (Nat.succ m) n) fun _=>false)
  (fun m=>Int.casesOn (motive:=fun _=>Bool) b (fun _=>true) fun n=>Nat.ble (Nat.succ n) m)
noncomputable def po (a b:Int):Bool :=
 Int.casesOn (motive:=fun _=>Bool) a
  (fun m=>Int.casesOn (motive:=fun _=>Bool) b (fun n=>Nat.beq m n) fun _=>false)
  (fun m=>Int.casesOn (motive:=fun _=>Bool) b (fun _=>false) fun n=>Nat.beq m n)
noncomputable def vr (P:Program)(h:EH)(t:TypeId)(a:Ty):Option Ty :=
 match a with
 |.Y id gen off=>match aW h.hp id with
  |some (.L g _ cells)=>Bool.casesOn (motive:=fun _=>Option Ty) (Nat.beq g gen) none (dQ P t cells off)
  |_=>none
 |.nc cells off=>dQ P t cells off
 |_=>none
noncomputable def mW (P:Program)(h:EH)(t:TypeId)(a v:Ty):OR :=
 match a with
 |.Y id gen off=>match aW h.hp id with
  |some (.L g e cells)=>Bool.casesOn (motive:=fun _=>OR) (Nat.beq g gen) .fail
    (if v.cells.length=P.cellsOf t/\v.cells.all Ty.one=true/\off+v.cells.length<=cells.length then .nk (.lit undef) id g e (setAt cells off v.cells) false else .fail)
  |_=>.fail
 |_=>.fail
noncomputable def pq (h:EH)(f:FP)(r:Option (Ty × Tz)):OR :=
 match r with
 |none=>.fail
 |some (v,H')=>match f.nk with
  | []=>.val v
  |r :: _=>match H'.get r with
   |some (.L g e c)=>.nk v r g e c (Nat.beq r h.nx)
   |some (.mp es)=>.effM v r es (Nat.beq r h.nx)
   |_=>.fail
noncomputable def vt (h:EH)(k:Ty->EH->R)(o:OR):R :=
 OR.casesOn (motive:=fun _=>R) o none (fun v=>ja v fun v=>k v h)
  (fun v r g e c fresh=>cL r fun r=>cL g fun g=>fy c fun c=>fw h.hp r (TK.L g e c) fun hp=>ja v fun v=>k v ⟨hp,Bool.casesOn (motive:=fun _=>Nat) fresh h.nx (Nat.succ h.nx)⟩)
  (fun v r es fresh=>cL r fun r=>rC es fun es=>fw h.hp r (TK.mp es) fun hp=>ja v fun v=>k v ⟨hp,Bool.casesOn (motive:=fun _=>Nat) fresh h.nx (Nat.succ h.nx)⟩)
structure GD where
 z:Ty
 ok:Ty->Bool
structure EP where
 P:Program
 G:Nat->Option (List Ty)
 gd:FuncId->Option GD
  /-- What is known already of a function's calls. -/
 known:FuncId->Option (List (List Ty × Ty))
  /-- What a call of a function without a body comes to. -/
 ext:FuncId->Option (List Ty->Option Ty):=fun _=>none
noncomputable def bH (f:Ty->Option (Ty × List Nat))(l:List Ty):Option (List Ty × List Nat) :=
 List.rec (motive:=fun _=>Option (List Ty × List Nat)) (some ([],[])) (fun x _ r=>match f x,r with
  |some (y,a),some (l,b)=>some (y :: l,a++b)
  |_,_=>none) l
noncomputable def fZ (h:EH)(fuel:Nat):Ty->Option (Ty × List Nat) :=
 Nat.rec (motive:=fun _=>Ty->Option (Ty × List Nat)) (fun _=>none) (fun _ ih v=>match v with
  |.lit v=>some (.lit v,[])
  |.M n c=>(bH ih c).map fun p=>(.M n p.1,p.2)
  |.nc c o=>(bH ih c).map fun p=>(.nc p.1 o,p.2)
  |.agg c=>(bH ih c).map fun p=>(.agg p.1,p.2)
  |.nf c=>(bH ih c).map fun p=>(.nf p.1,p.2)
  |.nl f a b=>match bH ih a,bH ih b with
   |some p,some q=>some (.nl f p.1 q.1,p.2++q.2)
   |_,_=>none
  |.V id g o l z=>match aW h.hp id with
   |some (.L g' _ cells)=>if g'=g/\o+l*z<=cells.length then (bH ih ((cells.drop o).take (l*z))).map fun p=>(.M l p.1,id :: p.2) else none
   |_=>none
  |.Y id g o=>match aW h.hp id with
   |some (.L g' _ (x :: cells))=>if g'=g then (bH ih (x :: cells)).map fun p=>(.nc p.1 o,id :: p.2) else none
   |_=>none
  |.ng _=>none) fuel
noncomputable def jc (f:Ty->Option Ty)(l:List Ty):Option (List Ty) :=
 List.rec (motive:=fun _=>Option (List Ty)) (some []) (fun x _ r=>match f x,r with
  |some y,some l=>some (y :: l)
  |_,_=>none) l
noncomputable def lF (h:EH)(fuel:Nat):Ty->Option Ty :=
 Nat.rec (motive:=fun _=>Ty->Option Ty) (fun _=>none) (fun _ ih v=>match v with
  |.lit v=>some (.lit v)
  |.agg c=>(jc ih c).map .agg
  |.nf c=>(jc ih c).map .nf
  |.V id g o l z=>match aW h.hp id with
   |some (.L g' _ cells)=>if g'=g/\o+l*z<=cells.length then (jc ih ((cells.drop o).take (l*z))).map (.M l) else none
   |_=>none
  |_=>none) fuel
noncomputable def eZ (f:Ty->Ty->Bool)(a:List Ty):List Ty->Bool :=
 List.rec (motive:=fun _=>List Ty->Bool) (fun b=>match b with|[]=>true|_=>false) (fun x _ ih b=>match b with
  | []=>false
  |y :: b=>match f x y with|true=>ih b|false=>false) a
noncomputable def vu (ih:Ty->Ty->Bool)(a b:Ty):Bool:=match a,b with
 |.lit (.int k x),.lit (.int k' y)=>decide (k=k') && po x y
 |.lit (.bool x),.lit (.bool y)=>x == y
 |.lit (.slice none 0 0),.lit (.slice none 0 0)=>true
 |.M n c,.M m d=>Nat.beq n m && eZ ih c d
 |.nc c n,.nc d m=>Nat.beq n m && eZ ih c d
 |.agg c,.agg d=>eZ ih c d
 |.nf c,.nf d=>eZ ih c d
 |.nl f a b,.nl g c d=>Nat.beq f g && (eZ ih a c && eZ ih b d)
 |_,_=>false
noncomputable def mX (fuel:Nat):Ty->Ty->Bool:=Nat.rec (motive:=fun _=>Ty->Ty->Bool) (fun _ _=>false) (fun _ ih=>vu ih) fuel
noncomputable def dX (l:List Nat)(n:Nat):Bool:=List.rec (motive:=fun _=>Bool) false (fun x _ ih=>Bool.rec (motive:=fun _=>Bool) ih true (Nat.beq x n)) l
noncomputable def vv (f:Nat->Bool)(l:List Nat):Bool:=List.rec (motive:=fun _=>Bool) true (fun x _ ih=>Bool.rec (motive:=fun _=>Bool) false ih (f x)) l
abbrev KF:=Ty->List Nat->Option (List Nat)
noncomputable def iF (f:KF)(l:List Ty):List Nat->Option (List Nat) :=
 List.rec (motive:=fun _=>List Nat->Option (List Nat)) (fun acc=>some acc) (fun x _ ih acc=>match f x acc with
  |some acc=>ih acc
  |none=>none) l
noncomputable def mY (h:EH)(lo:Nat)(kp:List Nat)(rc:KF)(id:Nat)(acc:List Nat):Option (List Nat) :=
 match Nat.blt id lo with
 |true=>match dX kp id with
  |true=>some acc
  |false=>none
 |false=>match dX acc id with
  |true=>some acc
  |false=>match aW h.hp id with
   |some (.L _ _ cells)=>iF rc cells (id :: acc)
   |_=>none
noncomputable def jd (h:EH)(lo:Nat)(kp:List Nat)(fuel:Nat):KF :=
 Nat.rec (motive:=fun _=>KF) (fun _ _=>none) (fun _ ih v acc=>match v with
  |.lit _=>some acc
  |.M 0 []=>some acc
  |.agg c=>iF ih c acc
  |.nf c=>iF ih c acc
  |.nl _ a b=>match iF ih a acc with
   |some acc=>iF ih b acc
   |none=>none
  |.V id _ _ _ _=>mY h lo kp ih id acc
  |.Y id _ _=>mY h lo kp ih id acc
  |_=>none) fuel
abbrev CF:=Ty->List Nat->(List Nat->R)->R
noncomputable def je (f:CF)(l:List Ty):List Nat->(List Nat->R)->R :=
 List.rec (motive:=fun _=>List Nat->(List Nat->R)->R) (fun acc k=>k acc) (fun x _ ih acc k=>f x acc fun acc=>ih acc k) l
noncomputable def rD (f:CF)(acc:List Nat)(k:List Nat->R)(b:Option TK):R:=match b with
 |some (.L _ _ cells)=>je f cells acc k
 |_=>k acc
noncomputable def vw (h:EH)(f:CF)(v:Ty)(acc:List Nat)(k:List Nat->R):R:=match v with
 |.M _ c=>je f c acc k
 |.nc c _=>je f c acc k
 |.agg c=>je f c acc k
 |.nf c=>je f c acc k
 |.nl _ a b=>je f a acc fun acc=>je f b acc k
 |.V id _ _ _ _=>rD f acc k (aW h.hp id)
 |.Y id _ _=>rD f acc k (aW h.hp id)
 |_=>k acc
noncomputable def rE (h:EH)(fuel:Nat):CF:=Nat.rec (motive:=fun _=>CF) (fun _ acc k=>k acc) (fun _ ih v acc k=>match jd h 0 [] 40 v acc with
 |some acc=>k acc
 |none=>vw h ih v acc k) fuel
noncomputable def iG (h:EH)(kp:List Nat)(fuel:Nat):Ty->Option (Ty × List Nat) :=
 Nat.rec (motive:=fun _=>Ty->Option (Ty × List Nat)) (fun _=>none) (fun _ ih v=>match v with
  |.lit v=>some (.lit v,[])
  |.M n c=>(bH ih c).map fun p=>(.M n p.1,p.2)
  |.nc c o=>(bH ih c).map fun p=>(.nc p.1 o,p.2)
  |.agg c=>(bH ih c).map fun p=>(.agg p.1,p.2)
  |.nf c=>(bH ih c).map fun p=>(.nf p.1,p.2)
  |.nl f a b=>match bH ih a,bH ih b with
   |some p,some q=>some (.nl f p.1 q.1,p.2++q.2)
   |_,_=>none
  |.V id g o l z=>match dX kp id with
   |true=>some (.V id g o l z,[])
   |false=>match aW h.hp id with
    |some (.L g' _ cells)=>if g'=g/\o+l*z<=cells.length then (bH ih ((cells.drop o).take (l*z))).map fun p=>(.M l p.1,id :: p.2) else none
    |_=>none
  |.Y id g o=>match dX kp id with
   |true=>some (.Y id g o,[])
   |false=>match aW h.hp id with
    |some (.L g' _ (x :: cells))=>if g'=g then (bH ih (x :: cells)).map fun p=>(.nc p.1 o,id :: p.2) else none
    |_=>none
  |.ng _=>none) fuel
noncomputable def vy (h:EH)(l:List Nat)(k:BT TK->R):BT TK->R :=
 List.rec (motive:=fun _=>BT TK->R) (fun t=>k t) (fun id _ ih t=>match aW h.hp id with
  |some b=>fw t id b ih
  |none=>none) l
noncomputable def vz (a b:Value):Bool:=match a,b with
 |.int k x,.int k' y=>decide (k=k') && po x y
 |.bool x,.bool y=>x == y
 |.slice none 0 0,.slice none 0 0=>true
 |.pointer none,.pointer none=>true
 |_,_=>false
noncomputable def vA (ih:Ty->Ty->Bool)(a b:Ty):Bool:=match a,b with
 |.lit x,.lit y=>vz x y
 |.M n c,.M m d=>Nat.beq n m && eZ ih c d
 |.agg c,.agg d=>eZ ih c d
 |.nf c,.nf d=>eZ ih c d
 |.nl f a b,.nl g c d=>Nat.beq f g && (eZ ih a c && eZ ih b d)
 |.V a b c d e,.V a' b' c' d' e'=>Nat.beq a a' && (Nat.beq b b' && (Nat.beq c c' && (Nat.beq d d' && Nat.beq e e')))
 |.Y a b c,.Y a' b' c'=>Nat.beq a a' && (Nat.beq b b' && Nat.beq c c')
 |_,_=>false
noncomputable def vB (fuel:Nat):Ty->Ty->Bool:=Nat.rec (motive:=fun _=>Ty->Ty->Bool) (fun _ _=>false) (fun _ ih=>vA ih) fuel
noncomputable def vC (a b:Option TK):Bool:=match a,b with
 |some (.L g e c),some (.L g' e' c')=>Nat.beq g g' && (Nat.beq e e' && eZ (vB 40) c c')
 |_,_=>false
noncomputable def vD (h':EH)(lv:List Nat)(t:BT TK)(k:BT TK->R)(id:Nat):R:=match dX lv id with
 |true=>match aW h'.hp id with
  |some b=>fw t id b k
  |none=>none
 |false=>fw t id (.L 0 0 []) k
noncomputable def rF (h':EH)(lv:List Nat)(lo n:Nat):BT TK->(BT TK->R)->R :=
 Nat.rec (motive:=fun _=>BT TK->(BT TK->R)->R) (fun t k=>k t) (fun i ih t k=>cL (Nat.add lo i) (vD h' lv t fun t=>ih t k)) n
noncomputable def rG (k:BT Ty->R)(l:List Ty):Nat->BT Ty->R :=
 List.rec (motive:=fun _=>Nat->BT Ty->R) (fun _ t=>k t) (fun v _ ih i t=>kF t i v fun t=>cL (Nat.succ i) fun i=>ih i t) l
noncomputable def mZ (h:EH):Option Nat->Bool
 |none=>true
 |some id=>match aW h.hp id with|some (.loop ..)=>true|_=>false
abbrev iH:=Option Nat->Nat->Code->BT Ty->EH->R
section step
variable (E:EP) (ih:iH)
noncomputable def rH (nx:Nat)(v:Ty)(h':EH):R:=Bool.rec (motive:=fun _=>R) none (ja v fun v=>some (.ret v h')) (Nat.ble nx h'.nx)
noncomputable def zt (rs:List ResultVar)(nx:Nat)(r:R):R:=match r with
 |some (.ev .normal env h')=>match dH E.P (ao h') (aC env) rs with
  |some vs=>rH nx (fY vs) h'
  |none=>none
 |some (.ev .ret env h')=>match dH E.P (ao h') (aC env) rs with
  |some vs=>rH nx (fY vs) h'
  |none=>none
 |some (.ev .panic _ h')=>Bool.rec (motive:=fun _=>R) none (some (.panic h')) (Nat.ble nx h'.nx)
 |_=>none
def zu (fn : Func) (c : Code) : Bool := fits fn.ntmps c && !(fn.name == "runtime.NumGoroutine")
noncomputable def rI (fn:Func)(c:Code)(args:List Ty)(h:EH):R :=
 Bool.rec (motive:=fun _=>R) none (Bool.rec (motive:=fun _=>R) none (rG (fun env=>zt E fn.results.toList h.nx (ih none fn.ntmps c env h)) args 0 .nil) (Nat.ble args.length fn.ntmps)) (zu fn c)
noncomputable def kH (f:FuncId)(args:List Ty)(h:EH):R :=
 Option.rec (motive:=fun _=>R) none (fun fn=>Option.rec (motive:=fun _=>R) none (fun c=>rI E ih fn c args h) fn.body) (E.P.funcs[f]?)
noncomputable def vE (f:FuncId)(args:List Ty):Option Ty:=match kH E ih f args ⟨.nil,0⟩ with
 |some (.ret v h')=>lF h' 40 v
 |_=>none
noncomputable def rJ (args:List Ty)(l:List (List Ty × Ty)):Option Ty :=
 List.rec (motive:=fun _=>Option Ty) none (fun p _ ih=>Bool.casesOn (motive:=fun _=>Option Ty) (eZ (mX 40) p.1 args) ih (some p.2)) l
noncomputable def vF (f:FuncId)(args:List Ty):Option (Option Ty):=match kH E ih f args ⟨.nil,0⟩ with
 |some (.ret v h')=>match lF h' 40 v with
  |some u=>some (some u)
  |none=>none
 |some (.panic _)=>some none
 |_=>none
noncomputable def zw (z:GD)(h:EH)(r:Option (Option Ty)):R:=match r with
 |some (some u)=>Bool.rec (motive:=fun _=>R) none (some (.ret (.nf [u,.lit (.int .i64 0)]) h)) (z.ok u)
 |some none=>some (.ret (.nf [z.z,.lit (.int .i64 6)]) h)
 |none=>none
noncomputable def zx (z:GD)(args:List Ty)(h:EH):R:=match args with
 | [.nl g [] cap]=>match bH (fZ h 40) cap with
  |some p=>Bool.rec (motive:=fun _=>R) none (zw z h (vF E ih g p.1)) (p.2.all fun r=>Nat.blt r h.nx)
  |none=>none
 |_=>none
noncomputable def rK (k:BT Ty->R):List Tmp->List Ty->BT Ty->R
 |p :: ps,v :: vs,e=>kF e p v fun e=>rK k ps vs e
 | [],[],e=>k e
 |_,_,_=>none
noncomputable def pt (id:Nat)(st:LoopState)(pend:Option Code)(b:Bool)(h2:EH):R:=match aW h2.hp id with
 |some (.loop _ _ n env ps asg body)=>fw h2.hp id (TK.loop st pend n env ps asg body) fun hp=>some (.ret (.lit (.bool b)) ⟨hp,h2.nx⟩)
 |_=>none
noncomputable def endRound (id:Nat)(r:R):R:=match r with
 |some (.ev .normal _ h2)=>pt id .ready none true h2
 |some (.ev .ret _ h2)=>pt id .done (some .ret) false h2
 |some (.ev (.exit i) _ h2)=>pt id .done (some (.exit i)) false h2
 |_=>none
noncomputable def zy (id n:Nat)(body:Code)(r:R):R:=match r with
 |some (.ev .normal e h1)=>match aW h1.hp id with
  |some (.loop .ready pend n2 env2 ps2 asg2 body2)=>fw h1.hp id (TK.loop .busy pend n2 env2 ps2 asg2 body2) fun hp1=>endRound id (ih (some id) n body e ⟨hp1,h1.nx⟩)
  |_=>none
 |_=>none
def zz (v:Option Ty)(b n:Nat):Bool:=match v with
 |none=>true
 |some _=>Nat.blt b n
noncomputable def okB:BT Ty->Nat->Nat->Nat->Bool :=
 BT.rec (motive:=fun _=>Nat->Nat->Nat->Bool) (fun _ _ _=>true) (fun v _ _ fl fr a b n=>zz v b n && (fl (Nat.mul 2 a) (Nat.add a b) n && fr (Nat.mul 2 a) (Nat.add (Nat.mul 2 a) b) n))
noncomputable def zA (env:BT Ty)(n:Nat)(ps:Array Tmp)(asg body:Code):Bool:=okB env 1 0 n && (fits n asg && (fits n body && ps.toList.all fun p=>decide (p<n)))
noncomputable def vG (id:Nat)(args:List Ty)(h:EH):R :=
 match aW h.hp id with
 |some (.loop .ready _ n env ps asg body) =>
  Bool.rec (motive:=fun _=>R) none (rK (fun e=>zy ih id n body (ih (some id) n asg e h)) ps.toList args env) (zA env n ps asg body)
 |_=>none
noncomputable def zB (f:FuncId)(args:List Ty)(h:EH)(l:List (List Ty × Ty)):R :=
 match bH (fZ h 40) args with
 |none=>none
 |some p=>match rJ p.1 l with
  |some v=>some (.ret v h)
  |none=>kH E ih f args h
noncomputable def vI (f:FuncId)(first cap args:List Ty)(h:EH):R :=
 match E.gd f with
 |none=>fy (first++args++cap) fun args=>match E.known f with
  |none=>kH E ih f args h
  |some l=>zB E ih f args h l
 |some z=>fy (first++args++cap) fun args=>zx E ih z args h
noncomputable def zC (e:List Ty->Option Ty)(fc args:List Ty)(h:EH):R:=match fc with
 | []=>fy args fun args=>match e args with
  |some r=>ja r fun r=>some (.ret r h)
  |none=>none
 |_=>none
noncomputable def rL (fv:Ty)(args:List Ty)(h:EH):R :=
 match fv with
 |.nl f first cap=>match E.ext f with
  |none=>vI E ih f first cap args h
  |some e=>zC e (first++cap) args h
 |.ng id=>vG ih id args h
 |_=>none
noncomputable def zD (rd:Option Nat)(d:Option Tmp)(k:BT Ty->EH->R)(env:BT Ty)(r:R):R:=match r with
 |some (.ret v h')=>Bool.casesOn (motive:=fun _=>R) (mZ h' rd) none (eK env d v fun env=>k env h')
 |some (.panic h')=>Bool.casesOn (motive:=fun _=>R) (mZ h' rd) none (some (.ev .panic env h'))
 |_=>none
noncomputable def cQ (d:Option Tmp)(k:BT Ty->EH->R)(env:BT Ty)(o:OR)(h:EH):R:=vt h (fun v h=>eK env d v fun env=>k env h) o
noncomputable def px (d:Option Tmp)(k:BT Ty->EH->R)(env:BT Ty)(h:EH)(kd:IntKind)(i:Int):R:=lE i fun i=>eK env d (.lit (.int kd i)) fun env=>k env h
noncomputable def jf (d:Option Tmp)(k:BT Ty->EH->R)(env:BT Ty)(h:EH)(b:Bool):R:=vd b fun b=>eK env d (.lit (.bool b)) fun env=>k env h
abbrev bL:=EP->iH->Option Nat->Option Tmp->(BT Ty->EH->R)->BT Ty->EH->R
end step
noncomputable def kI (x:Operand):bL:=fun E _ _ d k env h=>b7 E.G env x fun v=>eK env d v fun env=>k env h
noncomputable def rN (e:TypeId)(x:Operand):bL:=fun E _ _ d k env h=>b7 E.G env x fun v=>cQ d k env (.nk (.Y h.nx 0 0) h.nx 0 e v.cells true) h
noncomputable def rO (t:TypeId)(parts:Array (Nat × Operand)):bL:=fun E _ _ d k env h =>
 kG E.G env (parts.toList.map (·.2)) fun vs=>cQ d k env (.opt (my E.P t ((parts.toList.map (·.1)).zip vs))) h
noncomputable def rP (t:TypeId)(len:Nat)(parts:Array (Nat × Operand)):bL:=fun E _ _ d k env h =>
 kG E.G env (parts.toList.map (·.2)) fun vs=>cQ d k env (pq h ⟨[h.nx],[]⟩ (ix E.P (ao h) h.nx t len ((parts.toList.map (·.1)).zip vs))) h
noncomputable def rQ (t:TypeId)(a:Operand):bL:=fun E _ _ d k env h=>b7 E.G env a fun a=>cQ d k env (.opt (vr E.P h t a)) h
noncomputable def rR (t:TypeId)(a x:Operand):bL:=fun E _ _ d k env h =>
 Bool.rec (motive:=fun _=>R) none (b7 E.G env a fun a=>b7 E.G env x fun v=>cQ d k env (mW E.P h t a v) h) (E.P.underlying t).isSome
abbrev iI:=IntKind->Int->Int->Option Tmp->(BT Ty->EH->R)->BT Ty->EH->R
noncomputable def I5:iI:=fun kd a b d k env h=>px d k env h kd (ph kd (Int.add a b))
noncomputable def I6:iI:=fun kd a b d k env h=>px d k env h kd (ph kd (Int.sub a b))
noncomputable def I7:iI:=fun kd a b d k env h=>px d k env h kd (ph kd (Int.mul a b))
noncomputable def I9:iI:=fun _ a b d k env h=>jf d k env h (pj a b)
noncomputable def Ja:iI:=fun _ a b d k env h=>jf d k env h (pj b a)
noncomputable def Jb:iI:=fun _ a b d k env h=>jf d k env h (pj b a).not
noncomputable def Jc:iI:=fun _ a b d k env h=>jf d k env h (pj a b).not
noncomputable def Jd:iI:=fun _ a b d k env h=>jf d k env h (po a b)
noncomputable def Je:iI:=fun _ a b d k env h=>jf d k env h (po a b).not
noncomputable def py (op:BinOp):Option iI:=match op with
 |.add=>some I5|.sub=>some I6|.mul=>some I7|.lss=>some I9|.gtr=>some Ja|.leq=>some Jb|.geq=>some Jc|.eql=>some Jd|.neq=>some Je
 |_=>none
def lG:IntKind->Nat
 |.i8=>0|.i16=>1|.i32=>2|.i64=>3|.u8=>4|.u16=>5|.u32=>6|.u64=>7
noncomputable def rS (E:EP)(op:BinOp)(t:TypeId)(x y:Operand)(a b:Ty)(d:Option Tmp)(k:BT Ty->EH->R)(env:BT Ty)(h:EH):R:=cQ d k env (.opt (bg E.P op t x y a b)) h
noncomputable def zE (E:EP)(op:BinOp)(t:TypeId)(x y:Operand)(a b:Ty)(d:Option Tmp)(k:BT Ty->EH->R)(env:BT Ty)(h:EH):R:=match gy (ao h) op a b with
 |none=>rS E op t x y a b d k env h
 |some true=>Bool.rec (motive:=fun _=>R) none (jf d k env h (op == .neq)) (jI (E.P.underlying t))
 |some false=>none
noncomputable def zF (E:EP)(op:BinOp)(t:TypeId)(x y:Operand)(a b:Ty)(d:Option Tmp)(k:BT Ty->EH->R)(env:BT Ty)(h:EH):R :=
 match a,b with
 |.lit (.int kd a),.lit (.int kd' b)=>Bool.rec (motive:=fun _=>R) (rS E op t x y (.lit (.int kd a)) (.lit (.int kd' b)) d k env h) (Option.rec (motive:=fun _=>R) (rS E op t x y (.lit (.int kd a)) (.lit (.int kd' b)) d k env h) (fun f=>f kd a b d k env h) (py op)) (Nat.beq (lG kd) (lG kd'))
 |a,b=>zE E op t x y a b d k env h
noncomputable def rT (op:BinOp)(t:TypeId)(x y:Operand)(_:TypeId):bL:=fun E _ _ d k env h=>b7 E.G env x fun a=>b7 E.G env y fun b=>zF E op t x y a b d k env h
noncomputable def rU (fn:Fn)(first cap:Array Operand):bL:=fun E _ _ d k env h =>
 match fn with
 |.func f=>kG E.G env first.toList fun a=>kG E.G env cap.toList fun b=>eK env d (.nl f a b) fun env=>k env h
 |_=>none
noncomputable def rV (t:TypeId)(x i:Operand):bL:=fun E _ _ d k env h=>b7 E.G env x fun x=>b7 E.G env i fun i=>cQ d k env (.opt (mR E.P (ao h) t x i)) h
noncomputable def lH (E:EP)(env:BT Ty)(h:EH)(o:Op):OR:=pq h (bn E.P E.G (aC env) h.nx o) (ah E.P E.G (aC env) (ao h) h.nx o)
noncomputable def fa (o:Op):bL:=fun E _ _ d k env h=>cQ d k env (lH E env h o) h
noncomputable def vJ (x:Operand):bL:=fun E _ _ _ _ env h=>match aj E.G (aC env) x with
 |.lit (.iface _ _)=>some (.ev .panic env h)
 |_=>none
noncomputable def vK (fv:Operand)(args:Array Operand):bL:=fun E ih rd d k env h =>
 kG E.G env args.toList fun args=>b7 E.G env fv fun fv=>zD rd d k env (rL E ih fv args h)
noncomputable def pA:bL:=fun _ _ _ _ _ _ _=>none
noncomputable def pB {α:Type}(_:α):bL:=pA
noncomputable def m9 {α β:Type}(_:α)(_:β):bL:=pA
noncomputable def Jf {α β γ:Type}(_:α)(_:β)(_:γ):bL:=pA
noncomputable def Jg {α β γ δ:Type}(_:α)(_:β)(_:γ)(_:δ):bL:=pA
noncomputable def pD (v:Ty)(r:Nat)(fresh:Bool)(b:Option TE):OR:=match b with
 |some (.L g e c)=>.nk v r g e c fresh
 |_=>.fail
noncomputable def rW (r:Nat)(fresh:Bool)(o:Option (Ty × Tz)):OR:=match o with
 |some (v,H')=>pD v r fresh (H'.get r)
 |none=>.fail
noncomputable def rX (c a b:Operand):bL:=fun E _ _ d k env h=>b7 E.G env c fun c=>match c with
 |.lit (.bool t)=>Bool.rec (motive:=fun _=>R) (b7 E.G env b fun v=>eK env d v fun env=>k env h) (b7 E.G env a fun v=>eK env d v fun env=>k env h) t
 |_=>none
noncomputable def rY (e:TypeId):bL:=fun E _ _ d k env h=>match bC E.P e with
 |some z=>cQ d k env (.nk (.Y h.nx 0 0) h.nx 0 e z true) h
 |none=>none
noncomputable def rZ (x:Operand):bL:=fun E _ _ d k env h=>b7 E.G env x fun x=>cQ d k env (.opt (iz (ao h) x)) h
noncomputable def r6 (op:UnOp)(_:TypeId)(x:Operand):bL:=fun E _ _ d k env h=>b7 E.G env x fun x=>cQ d k env (.opt (oz E.P op x)) h
noncomputable def r7 (s t:TypeId)(x:Operand):bL:=fun E _ _ d k env h=>b7 E.G env x fun x=>cQ d k env (.opt (iy E.P (ao h) s t x)) h
noncomputable def Jh (t:TypeId)(x:Operand):bL:=fa (.makeInterface t x)
noncomputable def r8 (t:TypeId)(l c:Operand):bL:=fun E _ _ d k env h=>b7 E.G env l fun l=>b7 E.G env c fun c=>cQ d k env (rW h.nx true (gY E.P (ao h) h.nx t l c)) h
noncomputable def vL (G:Nat->Option (List Ty))(env:BT Ty)(x:Option Operand)(k:Option Ty->R):R:=match x with
 |none=>k none
 |some x=>b7 G env x fun v=>k (some v)
noncomputable def r9 (t:TypeId)(x:Operand)(l u m:Option Operand):bL:=fun E _ _ d k env h=>match m with
 |none=>b7 E.G env x fun x=>vL E.G env l fun l=>vL E.G env u fun u=>cQ d k env (.opt (jy E.P (ao h) t x l u)) h
 |some _=>none
noncomputable def sd (t:TypeId)(x:Operand)(f:Nat):bL:=fun E _ _ d k env h=>b7 E.G env x fun x=>cQ d k env (.opt (mQ E.P (ao h) t f x)) h
noncomputable def se (t:TypeId)(x:Operand)(f:Nat):bL:=fun E _ _ d k env h=>b7 E.G env x fun x=>cQ d k env (.opt (yM E.P t f x)) h
noncomputable def sf (t:TypeId)(x i:Operand):bL:=fun E _ _ d k env h=>b7 E.G env x fun x=>b7 E.G env i fun i=>cQ d k env (.opt (oA E.P t x i)) h
noncomputable def sg (t:Operand)(i:Nat):bL:=fun E _ _ d k env h=>b7 E.G env t fun t=>cQ d k env (.opt (jC t i)) h
noncomputable def sh (t:TypeId)(x:Operand):bL:=fun E _ _ d k env h=>b7 E.G env x fun x=>cQ d k env (.opt (jz E.P (ao h) t x)) h
noncomputable def zG (E:EP)(t u:TypeId)(s x:Ty)(d:Option Tmp)(k:BT Ty->EH->R)(env:BT Ty)(h:EH):R:=match s with
 |.V id g o l z=>match bd E.P (ao h) h.nx t u s x with
  |some (.V _ g' o' l' z',H')=>Bool.rec (motive:=fun _=>R) (cQ d k env (pD (.V id g' o' l' z') id false (H'.get id)) h) (cQ d k env (.val (.V id g o l z)) h) (Nat.beq g' g)
  |_=>none
 |s=>match bd E.P (ao h) h.nx t u s x with
  |some (.V id' g' o' l' z',H')=>cQ d k env (pD (.V id' g' o' l' z') h.nx true (H'.get h.nx)) h
  |some (.lit v,_)=>cQ d k env (.val (.lit v)) h
  |_=>none
noncomputable def sj (t u:TypeId)(s x:Operand):bL:=fun E _ _ d k env h=>b7 E.G env s fun s=>b7 E.G env x fun x=>zG E t u s x d k env h
noncomputable def na (c:Call)(b:Builtin):bL:=match b,c.argTypes.toList,c.args.toList with
 |.len,[t],[x]=>sh t x
 |.append,[t,u],[s,x]=>sj t u s x
 |_,_,_=>fa (.call c)
noncomputable def zH (c:Call):bL:=match c.callee with
 |.value fv=>vK fv c.args
 |.builtin b=>na c b
 |_=>pA
noncomputable def Ji (t:TypeId)(m a x:Operand):bL:=fa (.insert t m a x)
noncomputable def Jj (t:TypeId)(x:Option Operand):bL:=fa (.makeMap t x)
noncomputable def Jk (t:TypeId)(x i:Operand)(ok:Bool):bL:=fa (.lookup t x i ok)
noncomputable def Jl (t:TypeId)(m a x:Operand):bL:=fa (.mapUpdate t m a x)
noncomputable def Jm (t:TypeId)(m a:Operand):bL:=fa (.mapEntry t m a)
noncomputable def Jn (t:TypeId)(m a x:Operand):bL:=fa (.entryStore t m a x)
noncomputable def sk:Op->bL :=
 Op.rec (motive:=fun _=>bL) kI kI rX rY rN rO rP Ji rQ rR pB pB rZ rT r6 r7 m9 Jh rU
  Jj m9 r8 r9 sd se rV sf Jk Jl Jm Jn m9 m9 pB Jg sg zH pB pB vJ m9 Jf m9
section step
variable (E:EP) (ih:iH)
noncomputable def vM (all:Array Oper)(ρ:Env)(yes no:R)(jw:Nat × Bool):R :=
 match (all[jw.1]?).bind (·.dst) with
 |some d=>match ρ d with
  |.lit (.bool b)=>Bool.rec (motive:=fun _=>R) no yes (b == jw.2)
  |.lit _=>no
  |_=>none
 |none=>no
noncomputable def nf (all:Array Oper)(ρ:Env)(g:Option (Nat × Bool))(yes no:R):R:=Option.rec (motive:=fun _=>R) yes (vM all ρ yes no) g
noncomputable def ng (rd:Option Nat)(all:Array Oper)(l:List Oper):BT Ty->EH->R :=
 List.rec (motive:=fun _=>BT Ty->EH->R) (fun env h=>some (.ev .normal env h)) (fun o _ ihr env h =>
  nf all (aC env) o.guard (sk o.op E ih rd o.dst ihr env h) (eK env o.dst (.lit undef) fun env=>ihr env h)) l
def Jo (bs:List Nat)(o:Oper):Nat:=(qS o).foldl (fun b j=>b |||(2 ^ j |||cJ bs j)) 0
def kJ:List Oper->List Nat->List Nat
 | [],bs=>bs
 |o :: l,bs=>kJ l (bs++[Jo bs o])
def pE (bs:List Nat):Nat->Nat
 |0=>0
 |k+1=>if cJ bs k=2 ^ k-1 then pE bs k else k+1
def vO (b:Nat)(f:FP)(acc:List (Nat × FP)):Bool:=acc.all fun p=>b.testBit p.1 ||(f.nk.all fun r=>!p.2.rs.contains r) && p.2.nk.all fun r=>!f.rs.contains r
noncomputable def zI (e:List Ty->Option Ty)(fc args:List Ty)(h:EH)(k:Ty->FP->EH->R):R:=match fc with
 | []=>fy args fun args=>match e args with
  |some v=>k v ⟨[],[]⟩ h
  |none=>none
 |_=>none
noncomputable def zJ (h h':EH)(kp fz:List Nat)(v:Ty)(k:Ty->FP->EH->R):R :=
 match Nat.ble h.nx h'.nx,vv (fun id=>vC (aW h.hp id) (aW h'.hp id)) kp,jd h' h.nx kp 40 v [] with
 |true,true,some lv=>rF h' lv h.nx (Nat.sub h'.nx h.nx) h.hp fun hp=>cL h'.nx fun nx=>k v ⟨Ev.lu h.nx nx,kp++fz⟩ ⟨hp,nx⟩
 |_,_,_=>none
noncomputable def zK (f:FuncId)(kp fz:List Nat)(all:List Ty)(h:EH)(k:Ty->FP->EH->R)(hp:BT TK):R:=match kH E ih f all ⟨hp,h.nx⟩ with
 |some (.ret v h')=>zJ h h' kp fz v k
 |_=>none
noncomputable def zL (f:FuncId)(all:List Ty)(h:EH)(k:Ty->FP->EH->R)(kp:List Nat):R:=match bH (iG h kp 40) all with
 |some p=>Bool.rec (motive:=fun _=>R) none (vy h kp (zK E ih f kp p.2 p.1 h k) .nil) (p.2.all fun r=>Nat.blt r h.nx)
 |none=>none
noncomputable def ss (f:FuncId)(all:List Ty)(h:EH)(k:Ty->FP->EH->R):R:=je (rE h 40) all [] (zL E ih f all h k)
noncomputable def zM (f:FuncId)(all:List Ty)(h:EH)(k:Ty->FP->EH->R)(l:List (List Ty × Ty)):R:=match bH (fZ h 40) all with
 |none=>ss E ih f all h k
 |some p=>match rJ p.1 l with
  |some v=>Bool.rec (motive:=fun _=>R) none (k v ⟨[],p.2⟩ h) (p.2.all fun r=>Nat.blt r h.nx)
  |none=>ss E ih f all h k
noncomputable def zQ (f:FuncId)(first cap args:List Ty)(h:EH)(k:Ty->FP->EH->R):R:=match E.gd f with
 |some _=>none
 |none=>fy (first++args++cap) fun all=>match E.known f with
  |none=>ss E ih f all h k
  |some l=>zM E ih f all h k l
noncomputable def vQ (fv:Ty)(args:List Ty)(h:EH)(k:Ty->FP->EH->R):R:=match fv with
 |.nl f first cap=>match E.ext f with
  |none=>zQ E ih f first cap args h k
  |some e=>zI e (first++cap) args h k
 |_=>none
abbrev ni:=List (Nat × FP)->BT Ty->EH->R
noncomputable def su (d:Option Tmp)(b i:Nat)(acc:List (Nat × FP))(k:ni)(env:BT Ty)(f:FP)(o:OR)(h:EH):R :=
 Bool.casesOn (motive:=fun _=>R) (vO b f acc) none (vt h (fun v h=>eK env d v fun env=>k (dU i f acc) env h) o)
noncomputable def zR (d:Option Tmp)(b i:Nat)(acc:List (Nat × FP))(k:ni)(env:BT Ty)(v:Ty)(f:FP)(h:EH):R :=
 Bool.casesOn (motive:=fun _=>R) (vO b f acc) none (ja v fun v=>eK env d v fun env=>k (dU i f acc) env h)
noncomputable def sy (o:Oper)(b i:Nat)(acc:List (Nat × FP))(k:ni)(env:BT Ty)(h:EH):R:=match o.op with
 |.call c=>match c.callee with
  |.value fv=>kG E.G env c.args.toList fun args=>b7 E.G env fv fun fv=>vQ E ih fv args h (zR o.dst b i acc k env)
  |_=>su o.dst b i acc k env (bn E.P E.G (aC env) h.nx (.call c)) (lH E env h (.call c)) h
 |.panic _=>none
 |op=>su o.dst b i acc k env (bn E.P E.G (aC env) h.nx op) (lH E env h op) h
noncomputable def sA (all:Array Oper)(tail:BT Ty->EH->R)(l:List Oper):List Nat->Nat->ni :=
 List.rec (motive:=fun _=>List Nat->Nat->ni) (fun _ _ _ env h=>tail env h) (fun o _ ihr bs i acc env h=>match bs with
  | []=>none
  |b :: bs=>nf all (aC env) o.guard (sy E ih o b i acc (ihr bs (i+1)) env h) (eK env o.dst (.lit undef) fun env=>ihr bs (i+1) acc env h)) l
noncomputable def sB (rd:Option Nat)(ops:Array Oper)(bs:List Nat)(K:Nat)(env:BT Ty)(h:EH):R :=
 Bool.casesOn (motive:=fun _=>R) (mK ops (bs.take K) K) none (sA E ih ops (ng E ih rd ops (ops.toList.drop K)) (ops.toList.take K) (bs.take K) 0 [] env h)
noncomputable def pF (rd:Option Nat)(n:Nat)(b:Code)(r:R):R:=match r with
 |some (.ev .normal e h)=>ih rd n b e h
 |r=>r
noncomputable def vR (id:Nat)(r:R):R:=match r with
 |some (.ev (.exit i) e h)=>Bool.casesOn (motive:=fun _=>R) (Nat.beq i id) (some (.ev (.exit i) e h)) (some (.ev .normal e h))
 |r=>r
noncomputable def nj (r:R):R:=match r with
 |some (.ev (.goto _) _ _)=>none
 |r=>r
noncomputable def vS (v:Ty)(x y:R):R:=match v with
 |.lit (.bool b)=>Bool.casesOn (motive:=fun _=>R) b y x
 |_=>none
noncomputable def endLoop (env:BT Ty)(h2:EH)(pend:Option Code)(hp3:BT TK):R:=match pend with
 |none=>some (.ev .normal env ⟨hp3,h2.nx⟩)
 |some .ret=>some (.ev .ret env ⟨hp3,h2.nx⟩)
 |some (.exit i)=>some (.ev (.exit i) env ⟨hp3,h2.nx⟩)
 |_=>none
noncomputable def zS (rd:Option Nat)(env:BT Ty)(id:Nat)(r:R):R:=match r with
 |some (.ret _ h2)=>Bool.casesOn (motive:=fun _=>R) (mZ h2 rd) none (match aW h2.hp id with
  |some (.loop .busy ..)=>none
  |some (.loop _ pend n2 env2 ps2 asg2 body2)=>fw h2.hp id (TK.loop .exhausted pend n2 env2 ps2 asg2 body2) fun hp3=>endLoop env h2 pend hp3
  |_=>none)
 |some (.panic h2)=>Bool.casesOn (motive:=fun _=>R) (mZ h2 rd) none (some (.ev .panic env h2))
 |_=>none
noncomputable def vT (rd:Option Nat)(n:Nat)(env:BT Ty)(h:EH)(ps:Array Tmp)(asg body:Code)(v:Ty):R:=match v with
 |.nl g first cap=>fw h.hp h.nx (TK.loop .ready none n env ps asg body) fun hp1=>zS rd env h.nx (fy (first++[.ng h.nx]++cap) fun args=>kH E ih g args ⟨hp1,Nat.succ h.nx⟩)
 |_=>none
end step
abbrev fK:=EP->iH->Option Nat->Nat->BT Ty->EH->R
noncomputable def zT:fK:=fun _ _ _ _ env h=>some (.ev .normal env h)
noncomputable def Jp (_:Nat):fK:=zT
noncomputable def Jq (i:Nat):fK:=fun _ _ _ _ env h=>some (.ev (.exit i) env h)
noncomputable def Jr:fK:=fun _ _ _ _ env h=>some (.ev .ret env h)
noncomputable def Js (_:Nat):fK:=fun _ _ _ _ _ _=>none
noncomputable def Jt (_:String):fK:=fun _ _ _ _ _ _=>none
noncomputable def Ju (_:Nat)(ops:Array Oper)(dr:Bool):fK:=fun E ih rd _ env h =>
 Bool.rec (motive:=fun _=>R) (ng E ih rd ops ops.toList env h) (sB E ih rd ops (kJ ops.toList []) (pE (kJ ops.toList []) ops.toList.length) env h) dr
noncomputable def Jv (a b:Code):fK:=fun _ ih rd n env h=>pF ih rd n b (ih rd n a env h)
noncomputable def Jw (x:Operand)(a b:Code):fK:=fun E ih rd n env h=>vS (aj E.G (aC env) x) (ih rd n a env h) (ih rd n b env h)
noncomputable def Jx (id:Nat)(b:Code):fK:=fun _ ih rd n env h=>vR id (ih rd n b env h)
noncomputable def Jy (b:Code):fK:=fun _ ih rd n env h=>nj (pF ih rd n (.loop b) (ih rd n b env h))
noncomputable def Jz (b:Code):fK:=fun _ ih rd n env h=>nj (ih rd n b env h)
noncomputable def JA (f:Operand)(ps:Array Tmp)(asg body:Code):fK:=fun E ih rd n env h=>vT E ih rd n env h ps asg body (aj E.G (aC env) f)
noncomputable def JB:Code->fK:=fun c=>Code.casesOn (motive:=fun _=>fK) c zT Ju Jv Jw Jx Jy JA Jq Jz Jp Js Jr Jt
noncomputable def zU (E:EP)(ih:iH)(rd:Option Nat)(n:Nat)(c:Code)(env:BT Ty)(h:EH):R:=JB c E ih rd n env h
noncomputable def zV (E:EP)(fuel:Nat):iH:=Nat.rec (motive:=fun _=>iH) (fun _ _ _ _ _=>none) (fun _ ih=>zU E ih) fuel
noncomputable def zW (E:EP)(fuel:Nat)(f:FuncId)(args:List Ty):Option Ty:=vE E (zV E fuel) f args
end Go.Hx
namespace Go.Hx
variable {P:Program} {G:Nat->Option (List Ty)}
variable {k:BT Ty->EH->R}{h:EH}{E:EP}{kd:IntKind}{o:Op}{d:Option Tmp}{r:RR}{v:Ty}{t:TypeId}{H':Tz}
def ga (n:Nat)(k:Nat->R):cL n k=k n:=by cases n<;>rfl
def sC (n:Int)(k:Int->R):lE n k=k n:=by
 cases n with
 |ofNat n=>show cL n (fun n=>k (.ofNat n))=_;rw[ga]
 |negSucc n=>show cL n (fun n=>k (.negSucc n))=_;rw[ga]
def zX (n:Bool)(k:Bool->R):vd n k=k n:=by cases n<;>rfl
def gH (l:List Ty):∀(k:List Ty->R),fy l k=k l:=by
 induction l with
 |nil=>intro k;rfl
 |cons x l ih=>intro k;exact ih _
def JC (v:Value)(k:Value->R):ve v k=k v:=by
 unfold ve;split
 ·rw[sC]
 ·rw[zX]
 ·rfl
def JD (l:List (Int × Int)):∀(k:List (Int × Int)->R),rC l k=k l:=by
 induction l with
 |nil=>intro k;rfl
 |cons p l ih =>
  intro k;obtain⟨a,b⟩:=p;show (lE a fun a=>lE b fun b=>rC l fun l=>k ((a,b) :: l))=_;rw[sC,sC,ih]
def nk (v:Ty)(k:Ty->R):ja v k=k v:=by
 cases v with
 |lit v=>show vf v k=_;unfold vf;rw[JC]
 |M n cs=>show vg n cs k=_;unfold vg;rw[ga,gH]
 |V a b c d e=>show vh a b c d e k=_;unfold vh;simp only[ga]
 |Y a b c=>show vj a b c k=_;unfold vj;simp only[ga]
 |nc cs n=>show vk cs n k=_;unfold vk;rw[ga,gH]
 |agg cs=>show vl cs k=_;unfold vl;rw[gH]
 |nf cs=>show vm cs k=_;unfold vm;rw[gH]
 |nl f a b=>show vn f a b k=_;unfold vn;simp only[ga,gH]
 |ng n=>show vo n k=_;unfold vo;rw[ga]
def sD (n:Nat):dM .nil n=none:=rfl
def JE (v:Option Ty)(l r:BT Ty):dM (.node v l r) 0=v:=rfl
def jg (v:Option Ty)(l r:BT Ty)(m:Nat):dM (.node v l r) (m+1)=if m % 2=0 then dM l (m / 2) else dM r (m / 2):=by
 show Nat.rec (motive:=fun _=>Option Ty) (dM l (m / 2)) (fun _ _=>dM r (m / 2)) (m % 2)=_;rcases QZ m with h|h<;>rw[h]<;>rfl
def vU (n:Nat):aW .nil n=none:=rfl
def jM (v:Option TK)(l r:BT TK)(m:Nat):aW (.node v l r) (m+1)=if m % 2=0 then aW l (m / 2) else aW r (m / 2):=by
 show Nat.rec (motive:=fun _=>Option TK) (aW l (m / 2)) (fun _ _=>aW r (m / 2)) (m % 2)=_;rcases QZ m with h|h<;>rw[h]<;>rfl
def kK {m n:Nat}(h:m % 2=n % 2):m / 2=n / 2↔m=n:=U
def JF:∀(f n:Nat) (x:Ty) (k:BT Ty->R) (r:RR),rA f n x k=some r->∃t,k t=some r/\∀m,dM t m=if m=n then some x else none:=by
 intro f
 induction f with
 |zero=>intro n x k r h;cases h
 |succ f ih =>
  intro n x k r h;cases n with
  |zero =>
   refine⟨_,h,fun m=>?_⟩;cases m with
   |zero=>rfl
   |succ m=>rw[jg];simp[sD]
  |succ n =>
   have h':Nat.rec (motive:=fun _=>R) (rA f (n / 2) x fun l=>k (.node none l .nil)) (fun _ _=>rA f (n / 2) x fun r=>k (.node none .nil r)) (n % 2)=some r:=h;rcases QZ n with h2|h2<;>rw[h2]at h'
   ·obtain⟨t,h3,h4⟩:=ih _ _ _ _ h';refine⟨_,h3,fun m=>?_⟩;cases m with
    |zero=>rw[PX U];rfl
    |succ m =>
     rw[jg,h4,sD];split
     ·rename_i hm;simp only[QW,kK (hm.trans h2.symm)]
     ·rename_i hm;rw[PX];rintro hmn;have:m=n:=U;exact hm (this ▸ h2)
   ·obtain⟨t,h3,h4⟩:=ih _ _ _ _ h';refine⟨_,h3,fun m=>?_⟩;cases m with
    |zero=>rw[PX U];rfl
    |succ m =>
     rw[jg,h4,sD];split
     ·rename_i hm;rw[PX];rintro hmn;have:m=n:=U;omega
     ·rename_i hm;have hm':m % 2=n % 2:=U;simp only[QW,kK hm']
def vV:∀(t:BT Ty) (n:Nat) (x:Ty) (k:BT Ty->R) (r:RR),kF t n x k=some r->∃t',k t'=some r/\∀m,dM t' m=if m=n then some x else dM t m:=by
 intro t
 induction t with
 |nil=>intro n x k r h;exact JF 20 n x k r h
 |node v l r ihl ihr =>
  intro n x k rr h;cases n with
  |zero =>
   refine⟨_,h,fun m=>?_⟩;cases m with
   |zero=>rfl
   |succ m=>rw[jg,jg];simp
  |succ n =>
   have h':Nat.rec (motive:=fun _=>R) (kF l (n / 2) x fun l=>k (.node v l r)) (fun _ _=>kF r (n / 2) x fun r=>k (.node v l r)) (n % 2)=some rr:=h;rcases QZ n with h2|h2<;>rw[h2]at h'
   ·obtain⟨t,h3,h4⟩:=ihl _ _ _ _ h';refine⟨_,h3,fun m=>?_⟩;cases m with
    |zero=>rw[PX U];rfl
    |succ m =>
     rw[jg,jg,h4];split
     ·rename_i hm;simp only[QW,kK (hm.trans h2.symm)]
     ·rename_i hm;rw[PX];rintro hmn;have:m=n:=U;exact hm (this ▸ h2)
   ·obtain⟨t,h3,h4⟩:=ihr _ _ _ _ h';refine⟨_,h3,fun m=>?_⟩;cases m with
    |zero=>rw[PX U];rfl
    |succ m =>
     rw[jg,jg,h4];split
     ·rename_i hm;rw[PX];rintro hmn;have:m=n:=U;omega
     ·rename_i hm;have hm':m % 2=n % 2:=U;simp only[QW,kK hm']
def JG:∀(f n:Nat) (x:TK) (k:BT TK->R) (r:RR),rB f n x k=some r->∃t,k t=some r/\∀m,aW t m=if m=n then some x else none:=by
 intro f
 induction f with
 |zero=>intro n x k r h;cases h
 |succ f ih =>
  intro n x k r h;cases n with
  |zero =>
   refine⟨_,h,fun m=>?_⟩;cases m with
   |zero=>rfl
   |succ m=>rw[jM];simp[vU]
  |succ n =>
   have h':Nat.rec (motive:=fun _=>R) (rB f (n / 2) x fun l=>k (.node none l .nil)) (fun _ _=>rB f (n / 2) x fun r=>k (.node none .nil r)) (n % 2)=some r:=h;rcases QZ n with h2|h2<;>rw[h2]at h'
   ·obtain⟨t,h3,h4⟩:=ih _ _ _ _ h';refine⟨_,h3,fun m=>?_⟩;cases m with
    |zero=>rw[PX U];rfl
    |succ m =>
     rw[jM,h4,vU];split
     ·rename_i hm;simp only[QW,kK (hm.trans h2.symm)]
     ·rename_i hm;rw[PX];rintro hmn;have:m=n:=U;exact hm (this ▸ h2)
   ·obtain⟨t,h3,h4⟩:=ih _ _ _ _ h';refine⟨_,h3,fun m=>?_⟩;cases m with
    |zero=>rw[PX U];rfl
    |succ m =>
     rw[jM,h4,vU];split
     ·rename_i hm;rw[PX];rintro hmn;have:m=n:=U;omega
     ·rename_i hm;have hm':m % 2=n % 2:=U;simp only[QW,kK hm']
def kL:∀(t:BT TK) (n:Nat) (x:TK) (k:BT TK->R) (r:RR),fw t n x k=some r->∃t',k t'=some r/\∀m,aW t' m=if m=n then some x else aW t m:=by
 intro t
 induction t with
 |nil=>intro n x k r h;exact JG 20 n x k r h
 |node v l r ihl ihr =>
  intro n x k rr h;cases n with
  |zero =>
   refine⟨_,h,fun m=>?_⟩;cases m with
   |zero=>rfl
   |succ m=>rw[jM,jM];simp
  |succ n =>
   have h':Nat.rec (motive:=fun _=>R) (fw l (n / 2) x fun l=>k (.node v l r)) (fun _ _=>fw r (n / 2) x fun r=>k (.node v l r)) (n % 2)=some rr:=h;rcases QZ n with h2|h2<;>rw[h2]at h'
   ·obtain⟨t,h3,h4⟩:=ihl _ _ _ _ h';refine⟨_,h3,fun m=>?_⟩;cases m with
    |zero=>rw[PX U];rfl
    |succ m =>
     rw[jM,jM,h4];split
     ·rename_i hm;simp only[QW,kK (hm.trans h2.symm)]
     ·rename_i hm;rw[PX];rintro hmn;have:m=n:=U;exact hm (this ▸ h2)
   ·obtain⟨t,h3,h4⟩:=ihr _ _ _ _ h';refine⟨_,h3,fun m=>?_⟩;cases m with
    |zero=>rw[PX U];rfl
    |succ m =>
     rw[jM,jM,h4];split
     ·rename_i hm;rw[PX];rintro hmn;have:m=n:=U;omega
     ·rename_i hm;have hm':m % 2=n % 2:=U;simp only[QW,kK hm']
def sE (env:BT Ty)(t:Tmp):aC env t=(dM env t).getD (.lit undef):=by
 unfold aC;cases dM env t<;>rfl
def zY {env env':BT Ty}{d:Nat}(h:∀m,dM env' m=if m=d then some v else dM env m):aC env'=aD (aC env) (some d) v:=by
 funext t
 simp only[sE,h,aD];split<;>rfl
def jN {env:BT Ty}{k:BT Ty->R}(h:eK env d v k=some r):∃env',k env'=some r/\aC env'=aD (aC env) d v:=by
 cases d with
 |none=>exact⟨env,h,rfl⟩
 |some d =>
  obtain⟨t,h1,h2⟩:=vV _ _ _ _ _ h;exact⟨t,h1,zY h2⟩
def cw (env:BT Ty)(x:Operand)(k:Ty->R):b7 G env x k=k (aj G (aC env) x):=by
 cases x with
 |tmp t =>
  show vq env t k=_;unfold vq;simp only[aj,sE];cases dM env t<;>rfl
 |const v=>rfl
 |global g =>
  show vp G g k=_;unfold vp;simp only[aj];cases G g with
  |none=>rfl
  |some c=>exact gH _ _
 |func f=>rfl
def nr (env:BT Ty)(l:List Operand):∀(k:List Ty->R),kG G env l k=k (l.map (aj G (aC env))):=by
 induction l with
 |nil=>intro k;rfl
 |cons x l ih =>
  intro k;show b7 G env x (fun x=>kG G env l fun l=>k (x :: l))=_;rw[cw,ih];rfl
def zZ (env:BT Ty)(x:Option Operand)(k:Option Ty->R):vL G env x k=k (x.map (aj G (aC env))):=by
 cases x with
 |none=>rfl
 |some x=>exact cw _ _ _
def nt (o:OR)(h:EH)(v:Ty)(H':Tz):Prop :=
 match o with
 |.fail=>False
 |.val u=>v=u/\H'=ao h
 |.nk u r g e c fr=>v=u/\H'=⟨fun j=>if j=r then some (.L g e c) else (ao h).get j,if fr then h.nx+1 else h.nx⟩
 |.effM u r es fr=>v=u/\H'=⟨fun j=>if j=r then some (.mp es) else (ao h).get j,if fr then h.nx+1 else h.nx⟩
def sF {hp:BT TK}{r nx:Nat}{b:TK}(hs:∀m,aW hp m=if m=r then some b else aW h.hp m):ao ⟨hp,nx⟩=⟨fun j=>if j=r then some b.jb else (ao h).get j,nx⟩:=by
 unfold ao;congr 1
 funext j
 show Option.map TK.jb (aW hp j)=_;rw[hs];split<;>rfl
def z7 {o:Option Ty}(hr:nt (.opt o) h v H'):o=some v/\H'=ao h:=by
 cases o with
 |none=>exact hr.elim
 |some u=>exact⟨by rw[hr.1],hr.2⟩
def vW (k:IntKind)(i:Int):ph k i=k.wrap i:=by
 unfold ph;split
 ·have hr:∀j:Int,-9223372036854775808<=j->j<=9223372036854775807->IntKind.i64.wrap j=j:=fun j h1 h2=>PW j U;cases i with
  |ofNat n =>
   show Bool.casesOn (motive:=fun _=>Int) (Nat.ble n 9223372036854775807) _ _=_;cases hb:Nat.ble n 9223372036854775807 with
   |false=>rfl
   |true =>
    have:=Ru hb;exact(hr (Int.ofNat n) (by simp only[Sk];omega) (by simp only[Sk];omega)).symm
  |negSucc n =>
   show Bool.casesOn (motive:=fun _=>Int) (Nat.ble n 9223372036854775807) _ _=_;cases hb:Nat.ble n 9223372036854775807 with
   |false=>rfl
   |true =>
    have:=Ru hb;exact(hr (Int.negSucc n) U U).symm
 ·rfl
def sG (a b:Int):pj a b=decide (a<b):=by
 cases a with
 |ofNat m=>cases b with
  |ofNat n =>
   show Nat.ble (m+1) n=_;rw[RQ,Nat.ble_eq,Rt];simp;omega
  |negSucc n =>
   show false=_
   symm
   rw[RG];simp only[Sk];omega
 |negSucc m=>cases b with
  |ofNat n =>
   show true=_
   symm
   rw[Rt];simp only[Sk];omega
  |negSucc n =>
   show Nat.ble (n+1) m=_;rw[RQ,Nat.ble_eq,Rt];omega
def sH (a b:Int):po a b=decide (a=b):=by
 cases a with
 |ofNat m=>cases b with
  |ofNat n =>
   show Nat.beq m n=_;rw[RQ,Rt];constructor
   ·intro h;rw[Qg h]
   ·intro h;rw[Int.ofNat.inj h];exact RO n
  |negSucc n =>
   show false=_
   symm
   rw[RG];intro h;cases h
 |negSucc m=>cases b with
  |ofNat n =>
   show false=_
   symm
   rw[RG];intro h;cases h
  |negSucc n =>
   show Nat.beq m n=_;rw[RQ,Rt];constructor
   ·intro h;rw[Qg h]
   ·intro h;rw[Int.negSucc.inj h];exact RO n
def vX {env:BT Ty}{i:Int}(hr:px d k env h kd i=some r):∃env',aC env'=aD (aC env) d (.lit (.int kd i))/\k env' h=some r:=by
 unfold px at hr;rw[sC]at hr;obtain⟨env',h1,h2⟩:=jN hr;exact⟨env',h2,h1⟩
def lI {env:BT Ty}{b:Bool}(hr:jf d k env h b=some r):∃env',aC env'=aD (aC env) d (.lit (.bool b))/\k env' h=some r:=by
 unfold jf at hr;rw[zX]at hr;obtain⟨env',h1,h2⟩:=jN hr;exact⟨env',h2,h1⟩
def z9 (a b:Int):(decide (b<a)).not=decide (a<=b):=by
 rw[RQ];simp
def JH {op:BinOp}{x y:Operand}{f:iI}(hf:py op=some f){a b:Int}{env:BT Ty}
  (hr:f kd a b d k env h=some r):
  ∃v env',bg P op t x y (.lit (.int kd a)) (.lit (.int kd b))=some v/\aC env'=aD (aC env) d v/\k env' h=some r:=by
 unfold py at hf;split at hf
 ·cases hf;obtain⟨env',h1,h2⟩:=vX hr;exact⟨_,env',yQ,by rw[h1,vW];rfl,h2⟩
 ·cases hf;obtain⟨env',h1,h2⟩:=vX hr;exact⟨_,env',yR,by rw[h1,vW];rfl,h2⟩
 ·cases hf;obtain⟨env',h1,h2⟩:=vX hr;exact⟨_,env',yS,by rw[h1,vW];rfl,h2⟩
 ·cases hf;obtain⟨env',h1,h2⟩:=lI hr;exact⟨_,env',yT,by rw[h1,sG],h2⟩
 ·cases hf;obtain⟨env',h1,h2⟩:=lI hr;exact⟨_,env',yV,by rw[h1,sG],h2⟩
 ·cases hf;obtain⟨env',h1,h2⟩:=lI hr;exact⟨_,env',yU,by rw[h1,sG,z9],h2⟩
 ·cases hf;obtain⟨env',h1,h2⟩:=lI hr;exact⟨_,env',yW,by rw[h1,sG,z9],h2⟩
 ·cases hf;obtain⟨env',h1,h2⟩:=lI hr;exact⟨_,env',yX,by rw[h1,sH],h2⟩
 ·cases hf;obtain⟨env',h1,h2⟩:=lI hr;exact⟨_,env',yY,by rw[h1,sH],h2⟩
 ·cases hf
def JI {a b:IntKind}(h:Nat.beq (lG a) (lG b)=true):a=b:=by
 have:=Qg h;cases a<;>cases b<;>first|rfl|simp[lG]at this
def JJ {a:Ty}(hr:vr P h t a=some v):ei P (ao h) t a=some v:=by
 unfold vr at hr;split at hr
 ·rename_i id gen off;split at hr
  ·rename_i g e cells hg;show (match (ao h).get id with|some (.L g _ cells)=>if g=gen then dQ P t cells off else none|_=>none)=some v;have:(ao h).get id=some (.L g e cells):=(by show Option.map TK.jb (aW h.hp id)=_;rw[hg];rfl);rw[this];cases hb:Nat.beq g gen with
   |false=>rw[hb]at hr;cases hr
   |true =>
    rw[hb]at hr;simp only;rw[PZ (Qg hb)];exact hr
  ·cases hr
 ·exact hr
 ·cases hr
def JK {a x:Ty}(hr:nt (mW P h t a x) h v H'):v=.lit undef/\fU P (ao h) t a x=some H':=by
 unfold mW at hr;split at hr
 ·rename_i id gen off;split at hr
  ·rename_i g e cells hg;have hget:(ao h).get id=some (.L g e cells):=(by show Option.map TK.jb (aW h.hp id)=_;rw[hg];rfl);cases hb:Nat.beq g gen with
   |false=>rw[hb]at hr;exact hr.elim
   |true =>
    rw[hb]at hr;simp only at hr;split at hr
    ·rename_i hc;refine⟨hr.1,?_⟩;have hgg:=Qg hb;show (match (ao h).get id with|some (.L g e cells)=>if g=gen/\x.cells.length=P.cellsOf t/\x.cells.all Ty.one=true/\off+x.cells.length<=cells.length then some ((ao h).upd id (.L g e (setAt cells off x.cells))) else none|_=>none)=some H';rw[hget];simp only;rw[PZ ⟨hgg,hc⟩,hr.2];rfl
    ·exact hr.elim
  ·exact hr.elim
 ·exact hr.elim
def VH (h:EH):Prop:=∀id b,aW h.hp id=some b->id<h.nx
def VH.wf (hv:VH h):ew (ao h):=fun id b hb=>by
 have hb':Option.map TK.jb (aW h.hp id)=some b:=hb;cases hg:aW h.hp id with
 |none=>rw[hg]at hb';cases hb'
 |some x=>exact hv id x hg
def lJ (o:OR)(h:EH):Prop :=
 match o with
 |.nk _ r _ _ _ fr=>if fr then r=h.nx else r<h.nx
 |.effM _ r _ fr=>if fr then r=h.nx else r<h.nx
 |_=>True
def Aa {k:Ty->EH->R}{o:OR}(hv:VH h)(hok:lJ o h)(hr:vt h k o=some r):∃v h',nt o h v (ao h')/\VH h'/\k v h'=some r:=by
 cases o with
 |fail=>cases hr
 |val v =>
  have hr':ja v (fun v=>k v h)=some r:=hr;rw[nk]at hr';exact⟨v,h,⟨rfl,rfl⟩,hv,hr'⟩
 |nk v r' g e c fr =>
  have hr':(cL r' fun r'=>cL g fun g=>fy c fun c=>fw h.hp r' (.L g e c) fun hp=>ja v fun v=>k v ⟨hp,Bool.casesOn (motive:=fun _=>Nat) fr h.nx (Nat.succ h.nx)⟩)=some r:=hr;rw[ga,ga,gH]at hr';obtain⟨hp,h1,h2⟩:=kL _ _ _ _ _ hr';rw[nk]at h1;refine⟨v,_,⟨rfl,?_⟩,?_,h1⟩
  ·rw[sF h2];cases fr<;>rfl
  ·intro id b hb;rw[h2]at hb;cases fr with
   |false =>
    have hlt:r'<h.nx:=hok;show id<h.nx;split at hb
    ·omega
    ·exact hv id b hb
   |true =>
    have hlt:r'=h.nx:=hok;show id<h.nx+1;split at hb
    ·omega
    ·have:=hv id b hb;omega
 |effM v r' es fr =>
  have hr':(cL r' fun r'=>rC es fun es=>fw h.hp r' (.mp es) fun hp=>ja v fun v=>k v ⟨hp,Bool.casesOn (motive:=fun _=>Nat) fr h.nx (Nat.succ h.nx)⟩)=some r:=hr;rw[ga,JD]at hr';obtain⟨hp,h1,h2⟩:=kL _ _ _ _ _ hr';rw[nk]at h1;refine⟨v,_,⟨rfl,?_⟩,?_,h1⟩
  ·rw[sF h2];cases fr<;>rfl
  ·intro id b hb;rw[h2]at hb;cases fr with
   |false =>
    have hlt:r'<h.nx:=hok;show id<h.nx;split at hb
    ·omega
    ·exact hv id b hb
   |true =>
    have hlt:r'=h.nx:=hok;show id<h.nx+1;split at hb
    ·omega
    ·have:=hv id b hb;omega
def Plain (P:Program)(G:Nat->Option (List Ty))(o:Op)(d:Option Tmp)(k:BT Ty->EH->R)(env:BT Ty)(h:EH)(r:RR):Prop :=
 ∃v env' h',ah P G (aC env) (ao h) h.nx o=some (v,ao h')/\VH h'/\aC env'=aD (aC env) d v/\k env' h'=some r
def hT {env:BT Ty}{x:OR}(hv:VH h)(hok:lJ x h)(hrel:∀v H',nt x h v H'->ah P G (aC env) (ao h) h.nx o=some (v,H'))
  (hr:cQ d k env x h=some r):Plain P G o d k env h r:=by
 obtain⟨v,h',h1,h2,h3⟩:=Aa hv hok hr;obtain⟨env',h4,h5⟩:=jN h3;exact⟨v,env',h',hrel _ _ h1,h2,h5,h4⟩
def pG {env:BT Ty}(hv:VH h)(hrel:ah P G (aC env) (ao h) h.nx o=some (v,ao h))
  (hr:eK env d v (fun env=>k env h)=some r):Plain P G o d k env h r:=by
 obtain⟨env',h4,h5⟩:=jN hr;exact⟨v,env',h,hrel,hv,h5,h4⟩
def Ab (o:Option Ty)(h:EH):lJ (.opt o) h:=by cases o<;>trivial
def gf {env:BT Ty}{x:Option Ty}(hv:VH h)(hrel:ah P G (aC env) (ao h) h.nx o=x.map fun v=>(v,ao h))
  (hr:cQ d k env (.opt x) h=some r):Plain P G o d k env h r :=
 hT hv (Ab _ _) (fun v H' hx=>by
  obtain⟨h1,h2⟩:=z7 hx;rw[hrel,h1,h2];rfl) hr
def Ac (ρ:Env)(id:Nat)(o:Op):(bn P G ρ id o).nk=[]\/∃r,(bn P G ρ id o).nk=[r]:=by
 have hid:∀v:Ty,aF v=[]\/∃r,aF v=[r]:=fun v=>by cases v<;>first|exact .inl rfl|exact .inr ⟨_,rfl⟩
 have hb:∀(b:Builtin) (ats:List TypeId) (args:List Ty),(gC P id b ats args).nk=[]\/∃r,(gC P id b ats args).nk=[r]:=fun b ats args=>by
  unfold gC;split
  ·split
   ·exact hid _
   ·exact .inr ⟨_,rfl⟩
  ·exact hid _
  ·exact hid _
  ·exact .inl rfl
  ·exact .inl rfl
 have hidM:∀v:Ty,cY v=[]\/∃r,cY v=[r]:=fun v=>by cases v<;>first|exact .inl rfl|exact .inr ⟨_,rfl⟩
 unfold bn;split<;>first|exact .inl rfl|exact .inr ⟨_,rfl⟩|exact hid _|exact hidM _|skip
 split
 ·exact hb _ _ _
 ·exact .inl rfl
def sI {env:BT Ty}(hv:VH h):lJ (lH E env h o) h/\∀v H',nt (lH E env h o) h v H'->ah E.P E.G (aC env) (ao h) h.nx o=some (v,H'):=by
 unfold lH pq;split
 ·exact⟨trivial,fun _ _ h=>h.elim⟩
 ·rename_i u H2 hop;obtain⟨e,al,h1,h2,h3,h4,h5,_⟩:=uL (hv.wf) hop;split
  ·rename_i hf;refine⟨trivial,fun v H' hx=>?_⟩;have he:e=none:=by
    cases e with
    |none=>rfl
    |some kb =>
     have h3':=(h3 kb.1 kb.2 rfl).1;have hf':(bn E.P E.G (aC env) (ao h).C o).nk=[]:=hf;rw[hf']at h3';cases h3'
   have hal:al=false:=by
    cases al with
    |false=>rfl
    |true =>
     obtain⟨b,hb⟩:=h4 rfl;rw[he]at hb;cases hb
   obtain⟨rfl,rfl⟩:=hx;subst he;subst hal;rw[hop];congr 2;have h1':H2.get=(ao h).get:=h1;have h2':H2.C=(ao h).C:=h2;cases H2;simp only at h1' h2';rw[h1',h2']
  ·rename_i r l hf;split
   ·rename_i g e' c hg;have hf':(bn E.P E.G (aC env) (ao h).C o).nk=r :: l:=hf;have hl:l=[]:=by
     rcases Ac (P:=E.P) (G:=E.G) (aC env) (ao h).C o with h6|⟨r',h6⟩
     ·rw[hf']at h6;cases h6
     ·rw[hf']at h6;cases h6;rfl
    subst hl;have key:H2=⟨fun j=>if j=r then some (.L g e' c) else (ao h).get j,if al then (ao h).C+1 else (ao h).C⟩/\(if al=true then r=h.nx else r<h.nx):=by
     cases e with
     |none =>
      have hal:al=false:=by
       cases al with
       |false=>rfl
       |true=>obtain⟨b,hb⟩:=h4 rfl;cases hb
      subst hal;have h1':H2.get=(ao h).get:=h1;have h2':H2.C=(ao h).C:=h2;have hgr:(ao h).get r=some (.L g e' c):=(by rw[<- h1'];exact hg);refine⟨?_,hv.wf r _ hgr⟩;cases H2;simp only at h1' h2';rw[h1',h2'];congr 1
      funext j
      split
      ·rename_i hj;rw[hj,hgr]
      ·rfl
     |some kb =>
      obtain⟨kk,b⟩:=kb;obtain⟨h7,h8⟩:=h3 kk b rfl;rw[hf']at h7;have hkk:kk=r:=(by simpa using h7);subst hkk;have hb:b=.L g e' c:=by
       rw[h1]at hg;simp only[cZ,if_true]at hg;exact Option.some.inj hg
      subst hb;refine⟨?_,?_⟩
      ·cases H2;simp only at h1 h2;rw[h1,h2];rfl
      ·cases al with
       |true =>
        obtain⟨b,hb⟩:=h4 rfl;simp only[Option.some.injEq,Prod.mk.injEq]at hb;exact hb.1
       |false=>exact h5 _ (h8 rfl)
    have hbeq:Nat.beq r h.nx=al:=by
     cases al with
     |true=>rw[show r=h.nx from key.2];exact RO _
     |false =>
      have:r<h.nx:=key.2;cases hb:Nat.beq r h.nx with
      |false=>rfl
      |true=>have:=Qg hb;omega
    rw[hbeq];refine⟨?_,fun v H' hx=>?_⟩
    ·have:=key.2;cases al<;>exact this
    ·obtain⟨rfl,rfl⟩:=hx;rw[hop,key.1];rfl
   ·rename_i es hg;have hf':(bn E.P E.G (aC env) (ao h).C o).nk=r :: l:=hf;have hl:l=[]:=by
     rcases Ac (P:=E.P) (G:=E.G) (aC env) (ao h).C o with h6|⟨r',h6⟩
     ·rw[hf']at h6;cases h6
     ·rw[hf']at h6;cases h6;rfl
    subst hl;have key:H2=⟨fun j=>if j=r then some (.mp es) else (ao h).get j,if al then (ao h).C+1 else (ao h).C⟩/\(if al=true then r=h.nx else r<h.nx):=by
     cases e with
     |none =>
      have hal:al=false:=by
       cases al with
       |false=>rfl
       |true=>obtain⟨b,hb⟩:=h4 rfl;cases hb
      subst hal;have h1':H2.get=(ao h).get:=h1;have h2':H2.C=(ao h).C:=h2;have hgr:(ao h).get r=some (.mp es):=(by rw[<- h1'];exact hg);refine⟨?_,hv.wf r _ hgr⟩;cases H2;simp only at h1' h2';rw[h1',h2'];congr 1
      funext j
      split
      ·rename_i hj;rw[hj,hgr]
      ·rfl
     |some kb =>
      obtain⟨kk,b⟩:=kb;obtain⟨h7,h8⟩:=h3 kk b rfl;rw[hf']at h7;have hkk:kk=r:=(by simpa using h7);subst hkk;have hb:b=.mp es:=by
       rw[h1]at hg;simp only[cZ,if_true]at hg;exact Option.some.inj hg
      subst hb;refine⟨?_,?_⟩
      ·cases H2;simp only at h1 h2;rw[h1,h2];rfl
      ·cases al with
       |true =>
        obtain⟨b,hb⟩:=h4 rfl;simp only[Option.some.injEq,Prod.mk.injEq]at hb;exact hb.1
       |false=>exact h5 _ (h8 rfl)
    have hbeq:Nat.beq r h.nx=al:=by
     cases al with
     |true=>rw[show r=h.nx from key.2];exact RO _
     |false =>
      have:r<h.nx:=key.2;cases hb:Nat.beq r h.nx with
      |false=>rfl
      |true=>have:=Qg hb;omega
    rw[hbeq];refine⟨?_,fun v H' hx=>?_⟩
    ·have:=key.2;cases al<;>exact this
    ·obtain⟨rfl,rfl⟩:=hx;rw[hop,key.1];rfl
   ·exact⟨trivial,fun _ _ h=>h.elim⟩
def kM {ih:iH}{rd:Option Nat}{env:BT Ty}(hv:VH h)(hr:fa o E ih rd d k env h=some r):Plain E.P E.G o d k env h r :=
 hT hv (sI hv).1 (sI hv).2 hr
end Go.Hx
namespace Go.Hx
variable {E:EP} {ih:iH} {rd:Option Nat} {d:Option Tmp} {k:BT Ty->EH->R} {env:BT Ty} {h:EH} {r:RR}
variable {parts:Array (Nat × Operand)}{f g:Nat}{a i x:Operand}{P:Program}{v:Ty}{e t u:TypeId}{H H':Tz}
def Ad {c:List Ty}:lJ (.nk v h.nx g e c true) h:=rfl
def Ae (parts:Array (Nat × Operand))(f:Operand->Ty):(parts.toList.map (·.1)).zip ((parts.toList.map (·.2)).map f)=parts.toList.map fun p=>(p.1,f p.2):=by
 induction parts.toList with
 |nil=>rfl
 |cons p l ih=>simp only[List.map_cons,Rw,ih]
def vY {b:TE}(h:H.lay H.C b=some H'):H'=⟨fun j=>if j=H.C then some b else H.get j,H.C+1⟩:=by
 unfold Tz.lay at h;rw[PZ rfl]at h;exact(Option.some.inj h).symm
def Af {x:Option (Ty × Tz)}(hx:∀u H2,x=some (u,H2)->∃g e c,H2=⟨fun j=>if j=h.nx then some (.L g e c) else (ao h).get j,h.nx+1⟩):
  lJ (rW h.nx true x) h/\(nt (rW h.nx true x) h v H'->x=some (v,H')):=by
 unfold rW;split
 ·rename_i u H2;obtain⟨g,e,c,rfl⟩:=hx u H2 rfl;simp only[pD,if_true];refine⟨rfl,fun hr=>?_⟩;obtain⟨rfl,rfl⟩:=hr;rfl
 ·exact⟨trivial,fun hr=>hr.elim⟩
def JL (hv:VH h)(hr:kI x E ih rd d k env h=some r):Plain E.P E.G (.move x) d k env h r:=by
 unfold kI at hr;rw[cw]at hr;exact pG hv rfl hr
def JM (hv:VH h)(hr:kI x E ih rd d k env h=some r):Plain E.P E.G (.assign x) d k env h r:=by
 unfold kI at hr;rw[cw]at hr;exact pG hv rfl hr
def JN (hv:VH h)(hr:rN e x E ih rd d k env h=some r):Plain E.P E.G (.box e x) d k env h r:=by
 unfold rN at hr;rw[cw]at hr;refine hT hv Ad (fun v H' hx=>?_) hr;obtain⟨rfl,rfl⟩:=hx;show ((ao h).lay (ao h).C (.L 0 e (aj E.G (aC env) x).cells)).map (fun H'=>(Ty.Y h.nx 0 0,H'))=_;unfold Tz.lay;rw[PZ rfl];rfl
def JO (hv:VH h)(hr:rO t parts E ih rd d k env h=some r):Plain E.P E.G (.build t parts) d k env h r:=by
 unfold rO at hr;rw[nr,Ae]at hr;exact gf hv rfl hr
def JP {len:Nat}(hv:VH h)(hr:rP t len parts E ih rd d k env h=some r):Plain E.P E.G (.buildSlice t len parts) d k env h r:=by
 unfold rP at hr;rw[nr,Ae]at hr;have hform:∀u H2,ix E.P (ao h) h.nx t len (parts.toList.map fun p=>(p.1,aj E.G (aC env) p.2))=some (u,H2)->∃e c,H2=⟨fun j=>if j=h.nx then some (.L 0 e c) else (ao h).get j,h.nx+1⟩:=by
  intro u H2 hb;unfold ix at hb;split at hb
  ·split at hb
   ·simp only[P0,PU,Prod.mk.injEq]at hb;obtain⟨z,_,c,_,H3,hl,_,rfl⟩:=hb;exact⟨_,_,vY hl⟩
   ·cases hb
  ·cases hb
 refine hT hv ?_ (fun v H' hx=>?_) hr
 ·unfold pq;split
  ·trivial
  ·rename_i u H2 hb;obtain⟨e,c,rfl⟩:=hform _ _ hb;simp only[if_true,show Nat.beq h.nx h.nx=true from RO _];rfl
 ·unfold pq at hx;split at hx
  ·exact hx.elim
  ·rename_i u H2 hb;obtain⟨e,c,rfl⟩:=hform _ _ hb;simp only[if_true,show Nat.beq h.nx h.nx=true from RO _]at hx;obtain⟨rfl,rfl⟩:=hx;exact hb
def JQ (hv:VH h)(hr:rQ t a E ih rd d k env h=some r):Plain E.P E.G (.load t a) d k env h r:=by
 unfold rQ at hr;rw[cw]at hr;refine hT hv (Ab _ _) (fun v H' hx=>?_) hr;obtain⟨h1,rfl⟩:=z7 hx;show (ei E.P (ao h) t (aj E.G (aC env) a)).map _=_;rw[JJ h1];rfl
def JR {a:Ty}(hv:VH h):lJ (mW P h t a v) h:=by
 unfold mW;split
 ·rename_i id gen off;split
  ·rename_i g e cells hg;cases hb:Nat.beq g gen with
   |false=>trivial
   |true =>
    simp only;split
    ·show id<h.nx;exact hv _ _ hg
    ·trivial
  ·trivial
 ·trivial
def JS (hv:VH h)(hr:rR t a x E ih rd d k env h=some r):Plain E.P E.G (.store t a x) d k env h r:=by
 unfold rR at hr;cases hu:(E.P.underlying t).isSome with
 |false=>rw[hu]at hr;cases hr
 |true =>
  rw[hu]at hr;have hr':(b7 E.G env a fun a=>b7 E.G env x fun v=>cQ d k env (mW E.P h t a v) h)=some r:=hr;rw[cw,cw]at hr';refine hT hv ?_ (fun v H' hx=>?_) hr'
  ·exact JR hv
  ·obtain⟨rfl,h2⟩:=JK hx;show (if (E.P.underlying t).isSome then (fU E.P (ao h) t (aj E.G (aC env) a) (aj E.G (aC env) x)).map (fun H'=>(Ty.lit undef,H')) else none)=_;rw[PZ hu,h2];rfl
def Ag (P:Program)(G:Nat->Option (List Ty))(o:Op)(d:Option Tmp)(k:BT Ty->EH->R)(env:BT Ty)(h:EH)(r:RR):Prop :=
 ∃op t x y u env',o=.binOp op t x y u/\gy (ao h) op (aj G (aC env) x) (aj G (aC env) y)=some true/\jI (P.underlying t)=true/\aC env'=aD (aC env) d (.lit (.bool (op == .neq)))/\k env' h=some r
def JT {op:BinOp}{y:Operand}(hv:VH h)(hr:rT op t x y u E ih rd d k env h=some r):Plain E.P E.G (.binOp op t x y u) d k env h r\/Ag E.P E.G (.binOp op t x y u) d k env h r:=by
 unfold rT at hr;rw[cw,cw]at hr;have hop:ah E.P E.G (aC env) (ao h) h.nx (.binOp op t x y u)=(bg E.P op t x y (aj E.G (aC env) x) (aj E.G (aC env) y)).map fun v=>(v,ao h):=rfl;unfold zF at hr;split at hr
 ·rename_i kd a kd' b ha hb;rw[ha,hb]at hop;left;cases hk:Nat.beq (lG kd) (lG kd') with
  |false=>rw[hk]at hr;exact gf hv hop hr
  |true =>
   rw[hk]at hr;obtain rfl:=JI hk;have hr':Option.rec (motive:=fun _=>R) (rS E op t x y (.lit (.int kd a)) (.lit (.int kd b)) d k env h) (fun f=>f kd a b d k env h) (py op)=some r:=hr;cases hi:py op with
   |none =>
    rw[hi]at hr';exact gf hv hop hr'
   |some f =>
    rw[hi]at hr';obtain⟨v,env',h1,h2,h3⟩:=JH (P:=E.P) (t:=t) (x:=x) (y:=y) hi hr';refine⟨v,env',h,?_,hv,h2,h3⟩;rw[hop,h1];rfl
 ·unfold zE at hr;split at hr
  ·exact .inl (gf hv hop hr)
  ·rename_i hn;right;cases hs:jI (E.P.underlying t) with
   |false=>rw[hs]at hr;cases hr
   |true =>
    rw[hs]at hr;obtain⟨env',h1,h2⟩:=lI (show jf d k env h (op == .neq)=some r from hr);exact⟨op,t,x,y,u,env',rfl,hn,hs,h1,h2⟩
  ·cases hr
def JU {fn:Fn}{first cap:Array Operand}(hv:VH h)(hr:rU fn first cap E ih rd d k env h=some r):Plain E.P E.G (.makeFunc fn first cap) d k env h r:=by
 unfold rU at hr;split at hr
 ·rw[nr,nr]at hr;exact pG hv rfl hr
 ·cases hr
def JV (hv:VH h)(hr:rV t x i E ih rd d k env h=some r):Plain E.P E.G (.indexAddr t x i) d k env h r:=by
 unfold rV at hr;rw[cw,cw]at hr;refine gf hv ?_ hr;simp only[ah,mR];split
 ·rename_i heq;rw[heq]
 ·rename_i hne;split
  ·rename_i heq;exact absurd heq (hne _ _)
  ·rfl
def JW {c b:Operand}(hv:VH h)(hr:rX c a b E ih rd d k env h=some r):Plain E.P E.G (.pick c a b) d k env h r:=by
 unfold rX at hr;rw[cw]at hr;split at hr
 ·rename_i t hc;have hop:∀t',aj E.G (aC env) c=.lit (.bool t')->ah E.P E.G (aC env) (ao h) h.nx (.pick c a b)=some (if t' then aj E.G (aC env) a else aj E.G (aC env) b,ao h):=fun t' ht=>by
   simp only[ah,ht]
  cases t with
  |false =>
   have hr':(b7 E.G env b fun v=>eK env d v fun env=>k env h)=some r:=hr;rw[cw]at hr';exact pG hv (hop _ hc) hr'
  |true =>
   have hr':(b7 E.G env a fun v=>eK env d v fun env=>k env h)=some r:=hr;rw[cw]at hr';exact pG hv (hop _ hc) hr'
 ·cases hr
def JX (hv:VH h)(hr:rY e E ih rd d k env h=some r):Plain E.P E.G (.alloc e) d k env h r:=by
 unfold rY at hr;split at hr
 ·rename_i z hz;refine hT hv Ad (fun v H' hx=>?_) hr;obtain⟨rfl,rfl⟩:=hx;show ((bC E.P e).bind fun z=>((ao h).lay (ao h).C (.L 0 e z)).map fun H'=>(Ty.Y h.nx 0 0,H'))=_;rw[hz];show ((ao h).lay (ao h).C (.L 0 e z)).map _=_;unfold Tz.lay;rw[PZ rfl];rfl
 ·cases hr
def JY (hv:VH h)(hr:rZ x E ih rd d k env h=some r):Plain E.P E.G (.nilCheck x) d k env h r:=by
 unfold rZ at hr;rw[cw]at hr;exact gf hv rfl hr
def JZ {op:UnOp}(hv:VH h)(hr:r6 op t x E ih rd d k env h=some r):Plain E.P E.G (.unOp op t x) d k env h r:=by
 unfold r6 at hr;rw[cw]at hr;exact gf hv rfl hr
def J0 {s:TypeId}(hv:VH h)(hr:r7 s t x E ih rd d k env h=some r):Plain E.P E.G (.convert s t x) d k env h r:=by
 unfold r7 at hr;rw[cw]at hr;exact gf hv rfl hr
def J1 {t:Operand}{i:Nat}(hv:VH h)(hr:sg t i E ih rd d k env h=some r):Plain E.P E.G (.extract t i) d k env h r:=by
 unfold sg at hr;rw[cw]at hr;exact gf hv rfl hr
def J2 (hv:VH h)(hr:sf t x i E ih rd d k env h=some r):Plain E.P E.G (.index t x i) d k env h r:=by
 unfold sf at hr;rw[cw,cw]at hr;exact gf hv rfl hr
def J3 (hv:VH h)(hr:se t x f E ih rd d k env h=some r):Plain E.P E.G (.field t x f) d k env h r:=by
 unfold se at hr;rw[cw]at hr;refine gf hv ?_ hr;simp only[ah,yM];cases bz E.P t f with
 |none=>rfl
 |some of =>
  simp only[Option.bind_some];generalize aj E.G (aC env) x=v;cases v with
  |lit v=>cases v<;>rfl
  |_=>rfl
def J4 (hv:VH h)(hr:sd t x f E ih rd d k env h=some r):Plain E.P E.G (.fieldAddr t x f) d k env h r:=by
 unfold sd at hr;rw[cw]at hr;refine gf hv ?_ hr;simp only[ah,mQ];cases bz E.P t f with
 |none=>rfl
 |some of =>
  simp only[Option.bind_some];generalize aj E.G (aC env) x=v;cases v with
  |Y id gen off =>
   show Option.map _ ((ao h).Z id gen)=Option.map _ (Option.map _ ((ao h).Z id gen));rw[Option.map_map];rfl
  |_=>rfl
def J5 {l c:Operand}(hv:VH h)(hr:r8 t l c E ih rd d k env h=some r):Plain E.P E.G (.makeSlice t l c) d k env h r:=by
 unfold r8 at hr;rw[cw,cw]at hr;have hform:∀u H2,gY E.P (ao h) h.nx t (aj E.G (aC env) l) (aj E.G (aC env) c)=some (u,H2)->∃g e c,H2=⟨fun j=>if j=h.nx then some (.L g e c) else (ao h).get j,h.nx+1⟩:=by
  intro u H2 hb;unfold gY at hb;split at hb
  ·split at hb
   ·simp only[P0,PU,Prod.mk.injEq]at hb;obtain⟨z,_,H3,hl,_,rfl⟩:=hb;exact⟨_,_,_,vY hl⟩
   ·cases hb
  ·cases hb
 exact hT hv (Af (v:=.lit undef) (H':=ao h) hform).1 (fun v H' hx=>(Af hform).2 hx) hr
def J6 {l u m:Option Operand}(hv:VH h)(hr:r9 t x l u m E ih rd d k env h=some r):Plain E.P E.G (.slice t x l u m) d k env h r:=by
 unfold r9 at hr;split at hr
 ·rw[cw,zZ,zZ]at hr;exact gf hv rfl hr
 ·cases hr
def J7 {c:Call}(hb:c.callee=.builtin .len)(ht:c.argTypes.toList=[t])(ha:c.args.toList=[x])(hv:VH h)(hr:sh t x E ih rd d k env h=some r):Plain E.P E.G (.call c) d k env h r:=by
 unfold sh at hr;rw[cw]at hr;refine gf hv ?_ hr;simp only[ah,hb,ht,ha];rfl
def J8 {nx:Nat}{id o l z:Nat}{x:Ty}(hr:bd P H nx t u (.V id g o l z) x=some (v,H')):
  (v=.V id g o l z/\H'=H)\/∃l' e c,v=.V id (g+1) 0 l' z/\H'=H.upd id (.L (g+1) e c)/\∃e0 c0,H.Z id g=some (e0,c0):=by
 unfold bd at hr;split at hr
 ·split at hr
  ·simp only[P0]at hr;obtain⟨_,_,nx',_,ec,hl,hr⟩:=hr;split at hr
   ·split at hr
    ·simp only[Option.some.injEq,Prod.mk.injEq]at hr;exact .inl ⟨hr.1.symm,hr.2.symm⟩
    ·simp only[Option.some.injEq,Prod.mk.injEq]at hr;exact .inr ⟨_,_,_,hr.1.symm,hr.2.symm,ec.1,ec.2,hl⟩
   ·cases hr
  ·cases hr
 ·cases hr
def append_nil {s x:Ty}(hs:∀a b c d e,s≠.V a b c d e)(hr:bd P H H.C t u s x=some (v,H')):
  (v=.lit (.slice none 0 0)/\H'=H)\/∃l z e c,v=.V H.C 0 0 l z/\H'=⟨fun j=>if j=H.C then some (.L 0 e c) else H.get j,H.C+1⟩:=by
 unfold bd at hr;split at hr
 ·split at hr
  ·simp only[P0]at hr;obtain⟨_,_,nx',_,hr⟩:=hr;split at hr
   ·split at hr
    ·simp only[Option.some.injEq,Prod.mk.injEq]at hr;exact .inl ⟨hr.1.symm,hr.2.symm⟩
    ·split at hr
     ·simp only[PU,Prod.mk.injEq]at hr;obtain⟨H3,hl,h1,rfl⟩:=hr;exact .inr ⟨_,_,_,_,h1.symm,vY hl⟩
     ·cases hr
   ·exact absurd rfl (hs _ _ _ _ _)
   ·cases hr
  ·cases hr
 ·cases hr
def J9 {c:Call}{s:Operand}(hb:c.callee=.builtin .append)(ht:c.argTypes.toList=[t,u])(ha:c.args.toList=[s,x])(hv:VH h)(hr:sj t u s x E ih rd d k env h=some r):Plain E.P E.G (.call c) d k env h r:=by
 unfold sj at hr;rw[cw,cw]at hr;have hop:ah E.P E.G (aC env) (ao h) h.nx (.call c)=bd E.P (ao h) h.nx t u (aj E.G (aC env) s) (aj E.G (aC env) x):=by
  simp only[ah,hb,ht,ha];rfl
 generalize aj E.G (aC env) s=sv at hr hop;generalize aj E.G (aC env) x=xv at hr hop;unfold zG at hr;split at hr
 ·rename_i id g o l z;split at hr
  ·rename_i g' o' l' z' H' happ;rename_i id';have happ0:=happ;rcases J8 happ with ⟨h1,rfl⟩|⟨l2,e,c2,h1,rfl,e0,c0,hlive⟩
   ·simp only[Ty.V.injEq]at h1;obtain⟨rfl,rfl,rfl,rfl,rfl⟩:=h1;have hb2:Nat.beq g' g'=true:=RO _;rw[hb2]at hr;refine hT (x:=.val (.V id' g' o' l' z')) hv trivial (fun v H'' hx=>?_) hr;obtain⟨rfl,rfl⟩:=hx;rw[hop,happ0]
   ·simp only[Ty.V.injEq]at h1;obtain⟨rfl,rfl,rfl,rfl,rfl⟩:=h1;have hne:Nat.beq (g+1) g=false:=by
     cases hbq:Nat.beq (g+1) g with
     |false=>rfl
     |true=>have:=Qg hbq;omega
    rw[hne]at hr;have hr':cQ d k env (pD (.V id' (g+1) 0 l' z') id' false (((ao h).upd id' (.L (g+1) e c2)).get id')) h=some r:=hr;have hget:((ao h).upd id' (.L (g+1) e c2)).get id'=some (.L (g+1) e c2):=(by simp[Tz.upd]);rw[hget]at hr';refine hT (x:=.nk (.V id' (g+1) 0 l' z') id' (g+1) e c2 false) hv ?_ (fun v H'' hx=>?_) hr'
    ·show id'<h.nx;exact g9 hv.wf hlive
    ·obtain⟨rfl,rfl⟩:=hx;rw[hop,happ0];rfl
  ·cases hr
 ·rename_i hs;split at hr
  ·rename_i id' g' o' l' z' H' happ;rcases append_nil (H:=ao h) (fun a b c d e he=>hs a b c d e he) happ with ⟨h1,_⟩|⟨l2,z2,e,c2,h1,h2⟩
   ·cases h1
   ·have hget:H'.get h.nx=some (.L 0 e c2):=by
     rw[h2];show (if h.nx=h.nx then some (TE.L 0 e c2) else _)=_;rw[PZ rfl]
    rw[hget]at hr;refine hT (x:=.nk (.V id' g' o' l' z') h.nx 0 e c2 true) hv rfl (fun v H'' hx=>?_) hr;obtain⟨rfl,rfl⟩:=hx;rw[hop,happ,h2];rfl
  ·rename_i v H' happ;rcases append_nil (H:=ao h) (fun a b c d e he=>hs a b c d e he) happ with ⟨h1,h2⟩|⟨l2,z2,e,c2,h1,h2⟩
   ·refine hT (x:=.val (.lit v)) hv trivial (fun v H'' hx=>?_) hr;obtain⟨rfl,rfl⟩:=hx;rw[hop,happ,h2]
   ·cases h1
  ·cases hr
def Ka (c:Call)(b:Builtin):(∃t x,b=.len/\c.argTypes.toList=[t]/\c.args.toList=[x]/\na c b=sh t x) \/
  (∃t u s x,b=.append/\c.argTypes.toList=[t,u]/\c.args.toList=[s,x]/\na c b=sj t u s x)\/na c b=fa (.call c):=by
 unfold na;split
 ·rename_i t x h1 h2;exact .inl ⟨t,x,rfl,h1,h2,rfl⟩
 ·rename_i t u s x h1 h2;exact .inr (.inl ⟨t,u,s,x,rfl,h1,h2,rfl⟩)
 ·exact .inr (.inr rfl)
def Kc {o:Op}(hv:VH h)(hr:sk o E ih rd d k env h=some r):
  Plain E.P E.G o d k env h r\/Ag E.P E.G o d k env h r\/(∃fv args ats,o=.call ⟨.value fv,args,ats⟩/\vK fv args E ih rd d k env h=some r)\/(∃x,o=.panic x/\vJ x E ih rd d k env h=some r):=by
 cases o with
 |move x=>exact .inl (JL hv (show kI x E ih rd d k env h=some r from hr))
 |assign x=>exact .inl (JM hv (show kI x E ih rd d k env h=some r from hr))
 |pick c a b=>exact .inl (JW hv (show rX c a b E ih rd d k env h=some r from hr))
 |alloc e=>exact .inl (JX hv (show rY e E ih rd d k env h=some r from hr))
 |box e x=>exact .inl (JN hv (show rN e x E ih rd d k env h=some r from hr))
 |build t parts=>exact .inl (JO hv (show rO t parts E ih rd d k env h=some r from hr))
 |buildSlice t l parts=>exact .inl (JP hv (show rP t l parts E ih rd d k env h=some r from hr))
 |load t a=>exact .inl (JQ hv (show rQ t a E ih rd d k env h=some r from hr))
 |store t a x=>exact .inl (JS hv (show rR t a x E ih rd d k env h=some r from hr))
 |nilCheck x=>exact .inl (JY hv (show rZ x E ih rd d k env h=some r from hr))
 |binOp op t x y u=>exact(JT hv (show rT op t x y u E ih rd d k env h=some r from hr)).elim .inl fun h=>.inr (.inl h)
 |unOp op t x=>exact .inl (JZ hv (show r6 op t x E ih rd d k env h=some r from hr))
 |convert s t x=>exact .inl (J0 hv (show r7 s t x E ih rd d k env h=some r from hr))
 |makeInterface t x=>exact .inl (kM hv (show fa (.makeInterface t x) E ih rd d k env h=some r from hr))
 |insert t m a x=>exact .inl (kM hv (show fa (.insert t m a x) E ih rd d k env h=some r from hr))
 |makeMap t x=>exact .inl (kM hv (show fa (.makeMap t x) E ih rd d k env h=some r from hr))
 |lookup t x i ok=>exact .inl (kM hv (show fa (.lookup t x i ok) E ih rd d k env h=some r from hr))
 |mapUpdate t m a x=>exact .inl (kM hv (show fa (.mapUpdate t m a x) E ih rd d k env h=some r from hr))
 |mapEntry t m a=>exact .inl (kM hv (show fa (.mapEntry t m a) E ih rd d k env h=some r from hr))
 |entryStore t m a x=>exact .inl (kM hv (show fa (.entryStore t m a x) E ih rd d k env h=some r from hr))
 |makeFunc fn a b=>exact .inl (JU hv (show rU fn a b E ih rd d k env h=some r from hr))
 |makeSlice t l c=>exact .inl (J5 hv (show r8 t l c E ih rd d k env h=some r from hr))
 |slice t x l u m=>exact .inl (J6 hv (show r9 t x l u m E ih rd d k env h=some r from hr))
 |fieldAddr t x f=>exact .inl (J4 hv (show sd t x f E ih rd d k env h=some r from hr))
 |field t x f=>exact .inl (J3 hv (show se t x f E ih rd d k env h=some r from hr))
 |indexAddr t x i=>exact .inl (JV hv (show rV t x i E ih rd d k env h=some r from hr))
 |index t x i=>exact .inl (J2 hv (show sf t x i E ih rd d k env h=some r from hr))
 |extract t i=>exact .inl (J1 hv (show sg t i E ih rd d k env h=some r from hr))
 |panic x=>exact .inr (.inr (.inr ⟨x,rfl,hr⟩))
 |call c =>
  have hr':zH c E ih rd d k env h=some r:=hr;obtain⟨callee,args,ats⟩:=c;cases callee with
  |value fv=>exact .inr (.inr (.inl ⟨fv,args,ats,rfl,hr'⟩))
  |builtin b =>
   refine .inl ?_;have hr2:na ⟨.builtin b,args,ats⟩ b E ih rd d k env h=some r:=hr';rcases Ka ⟨.builtin b,args,ats⟩ b with ⟨t,x,rfl,h1,h2,h3⟩|⟨t,u,s,x,rfl,h1,h2,h3⟩|h3
   ·rw[h3]at hr2;exact J7 rfl h1 h2 hv hr2
   ·rw[h3]at hr2;exact J9 rfl h1 h2 hv hr2
   ·rw[h3]at hr2;exact kM hv hr2
  |invoke a b=>cases hr'
 |_=>cases hr
end Go.Hx
namespace Go.Hx
variable {k:BT Ty->R}{h:EH}{n:Nat}{r:RR}
def lK {f:Ty->Option (Ty × List Nat)}:∀ {l l':List Ty} {rs:List Nat},bH f l=some (l',rs) ->
  l'.length=l.length/\∀i (_:i<l.length) (_:i<l'.length),∃ri,f l[i]=some (l'[i],ri)/\∀r,r∈ri->r∈rs:=by
 intro l
 induction l with
 |nil =>
  intro l' rs h;simp only[bH,Option.some.injEq,Prod.mk.injEq]at h;obtain⟨rfl,rfl⟩:=h;exact⟨rfl,fun i h _=>absurd h (Qf _)⟩
 |cons x l ih =>
  intro l' rs h;have h':(match f x,bH f l with|some (y,a),some (l,b)=>some (y :: l,a++b)|_,_=>none)=some (l',rs):=h;split at h'
  ·rename_i y a l2 b h1 h2;simp only[Option.some.injEq,Prod.mk.injEq]at h';obtain⟨rfl,rfl⟩:=h';obtain⟨h3,h4⟩:=ih h2;refine⟨by simp[h3],fun i hi hi'=>?_⟩;cases i with
   |zero=>exact⟨a,h1,fun r hr=>RA _ hr⟩
   |succ i =>
    obtain⟨ri,h5,h6⟩:=h4 i (by simpa using hi) (by simpa using hi');exact⟨ri,h5,fun r hr=>Rh _ (h6 r hr)⟩
  ·cases h'
def kO {id g:Nat}{e:TypeId}{c:List Ty}(hg:aW h.hp id=some (.L g e c)):(ao h).get id=some (.L g e c):=by
 show Option.map TK.jb (aW h.hp id)=_;rw[hg];rfl
def Ah :∀(fuel:Nat) {v v':Ty} {rs:List Nat},fZ h fuel v=some (v',rs)->∀H2:Tz,(∀r,r∈rs->H2.get r=(ao h).get r)->Fz (fun _=>True) H2 0 v v':=by
 intro fuel
 induction fuel with
 |zero=>intro v v' rs h;cases h
 |succ f ih =>
  intro v v' rs hv H2 ha;have list:∀ {l l':List Ty} {rs':List Nat},bH (fZ h f) l=some (l',rs')->(∀r,r∈rs'->H2.get r=(ao h).get r) ->
    l'.length=l.length/\∀i (_:i<l.length) (_:i<l'.length),Fz (fun _=>True) H2 0 l[i] l'[i]:=fun hm ha'=>by
   obtain⟨h1,h2⟩:=lK hm;exact⟨h1,fun i hi hi'=>let ⟨ri,h3,h4⟩:=h2 i hi hi';ih h3 H2 fun r hr=>ha' r (h4 r hr)⟩
  cases v with
  |lit v =>
   have hv':some (Ty.lit v,[])=some (v',rs):=hv;simp only[Option.some.injEq,Prod.mk.injEq]at hv';obtain⟨rfl,rfl⟩:=hv';exact .lit _
  |M n c =>
   have hv':(bH (fZ h f) c).map (fun p=>(Ty.M n p.1,p.2))=some (v',rs):=hv;simp only[PU,Prod.mk.injEq]at hv';obtain⟨⟨c',rs'⟩,h1,rfl,rfl⟩:=hv';obtain⟨h2,h3⟩:=list h1 ha;exact .M h2 h3
  |nc c o =>
   have hv':(bH (fZ h f) c).map (fun p=>(Ty.nc p.1 o,p.2))=some (v',rs):=hv;simp only[PU,Prod.mk.injEq]at hv';obtain⟨⟨c',rs'⟩,h1,rfl,rfl⟩:=hv';obtain⟨h2,h3⟩:=list h1 ha;exact .nc h2 h3
  |agg c =>
   have hv':(bH (fZ h f) c).map (fun p=>(Ty.agg p.1,p.2))=some (v',rs):=hv;simp only[PU,Prod.mk.injEq]at hv';obtain⟨⟨c',rs'⟩,h1,rfl,rfl⟩:=hv';obtain⟨h2,h3⟩:=list h1 ha;exact .agg h2 h3
  |nf c =>
   have hv':(bH (fZ h f) c).map (fun p=>(Ty.nf p.1,p.2))=some (v',rs):=hv;simp only[PU,Prod.mk.injEq]at hv';obtain⟨⟨c',rs'⟩,h1,rfl,rfl⟩:=hv';obtain⟨h2,h3⟩:=list h1 ha;exact .nf h2 h3
  |nl g a b =>
   have hv':(match bH (fZ h f) a,bH (fZ h f) b with|some p,some q=>some (Ty.nl g p.1 q.1,p.2++q.2)|_,_=>none)=some (v',rs):=hv;split at hv'
   ·rename_i p q h1 h2;simp only[Option.some.injEq,Prod.mk.injEq]at hv';obtain⟨rfl,rfl⟩:=hv';obtain⟨h3,h4⟩:=list h1 fun r hr=>ha r (RA _ hr);obtain⟨h5,h6⟩:=list h2 fun r hr=>ha r (Rh _ hr);exact .nl h3 h5 h4 h6
   ·cases hv'
  |V id g o l z =>
   have hv':(match aW h.hp id with|some (.L g' _ cells)=>if g'=g/\o+l*z<=cells.length then (bH (fZ h f) ((cells.drop o).take (l*z))).map fun p=>(Ty.M l p.1,id :: p.2) else none|_=>none)=some (v',rs):=hv;split at hv'
   ·rename_i g' e cells hg;split at hv'
    ·rename_i hc;obtain⟨rfl,hle⟩:=hc;simp only[PU,Prod.mk.injEq]at hv';obtain⟨⟨c',rs'⟩,h1,rfl,rfl⟩:=hv';obtain⟨h2,h3⟩:=list h1 fun r hr=>ha r (QP _ hr);have hlen:((cells.drop o).take (l*z)).length=l*z:=(by simp;omega);refine .np trivial ((ha id (Q8 ..)).trans (kO hg)) (h2.trans hlen) fun i hi h2i hi'=>?_;have:=h3 i U hi';simpa using this
    ·cases hv'
   ·cases hv'
  |Y id g o =>
   have hv':(match aW h.hp id with|some (.L g' _ (x :: cells))=>if g'=g then (bH (fZ h f) (x :: cells)).map fun p=>(Ty.nc p.1 o,id :: p.2) else none|_=>none)=some (v',rs):=hv;split at hv'
   ·rename_i g' e x cells hg;split at hv'
    ·rename_i hc;subst hc;simp only[PU,Prod.mk.injEq]at hv';obtain⟨⟨c',rs'⟩,h1,rfl,rfl⟩:=hv';obtain⟨h2,h3⟩:=list h1 fun r hr=>ha r (QP _ hr);exact .pfrz trivial ((ha id (Q8 ..)).trans (kO hg)) Tu h2 h3
    ·cases hv'
   ·cases hv'
  |ng n=>cases hv
def Kd {f:Ty->Option Ty}:∀ {l l':List Ty},jc f l=some l'->l'.length=l.length/\∀i (_:i<l.length) (_:i<l'.length),f l[i]=some l'[i]:=by
 intro l
 induction l with
 |nil =>
  intro l' h;simp only[jc,Option.some.injEq]at h;subst h;exact⟨rfl,fun i h _=>absurd h (Qf _)⟩
 |cons x l ih =>
  intro l' h;have h':(match f x,jc f l with|some y,some l=>some (y :: l)|_,_=>none)=some l':=h;split at h'
  ·rename_i y l2 h1 h2;simp only[Option.some.injEq]at h';subst h';obtain⟨h3,h4⟩:=ih h2;refine⟨by simp[h3],fun i hi hi'=>?_⟩;cases i with
   |zero=>exact h1
   |succ i=>exact h4 i (by simpa using hi) (by simpa using hi')
  ·cases h'
def Ai :∀(fuel:Nat) {v v':Ty},lF h fuel v=some v'->TP (ao h) v v':=by
 intro fuel
 induction fuel with
 |zero=>intro v v' h;cases h
 |succ f ih =>
  intro v v' hv;have list:∀ {l l':List Ty},jc (lF h f) l=some l'->l'.length=l.length/\∀i (_:i<l.length) (_:i<l'.length),TP (ao h) l[i] l'[i]:=fun hm=>by
   obtain⟨h1,h2⟩:=Kd hm;exact⟨h1,fun i hi hi'=>ih (h2 i hi hi')⟩
  cases v with
  |lit v =>
   have hv':some (Ty.lit v)=some v':=hv;cases hv';exact .lit _
  |agg c =>
   have hv':(jc (lF h f) c).map Ty.agg=some v':=hv;simp only[PU]at hv';obtain⟨c',h1,rfl⟩:=hv';obtain⟨h2,h3⟩:=list h1;exact .agg h2 h3
  |nf c =>
   have hv':(jc (lF h f) c).map Ty.nf=some v':=hv;simp only[PU]at hv';obtain⟨c',h1,rfl⟩:=hv';obtain⟨h2,h3⟩:=list h1;exact .nf h2 h3
  |V id g o l z =>
   have hv':(match aW h.hp id with|some (.L g' _ cells)=>if g'=g/\o+l*z<=cells.length then (jc (lF h f) ((cells.drop o).take (l*z))).map (Ty.M l) else none|_=>none)=some v':=hv;split at hv'
   ·rename_i g' e cells hg;split at hv'
    ·rename_i hc;obtain⟨rfl,hle⟩:=hc;simp only[PU]at hv';obtain⟨c',h1,rfl⟩:=hv';obtain⟨h2,h3⟩:=list h1;have hlen:((cells.drop o).take (l*z)).length=l*z:=(by simp;omega);refine .V (kO hg) (h2.trans hlen) fun i hi h2i hi'=>?_;have:=h3 i U hi';simpa using this
    ·cases hv'
   ·cases hv'
  |_=>cases hv
def gI {f:Ty->Ty->Bool}(hf:∀x y,f x y=true->x=y):∀ {a b:List Ty},eZ f a b=true->a=b:=by
 intro a
 induction a with
 |nil=>intro b h;cases b with
  |nil=>rfl
  |cons=>cases h
 |cons x l ih =>
  intro b h;cases b with
  |nil=>cases h
  |cons y b =>
   have h':(match f x y with|true=>eZ f l b|false=>false)=true:=h;split at h'
   ·rename_i hxy;rw[hf _ _ hxy,ih h']
   ·cases h'
def Aj:∀(fuel:Nat) (a b:Ty),mX fuel a b=true->a=b:=by
 intro fuel
 induction fuel with
 |zero=>intro a b h;cases h
 |succ f ih =>
  intro a b h;have h':vu (mX f) a b=true:=h;unfold vu at h';split at h'
  ·simp only[Qj,decide_eq_true_eq,sH]at h';rw[h'.1,h'.2]
  ·simp only[beq_iff_eq]at h';rw[h']
  ·rfl
  ·simp only[Qj]at h';rw[Qg h'.1,gI ih h'.2]
  ·simp only[Qj]at h';rw[Qg h'.1,gI ih h'.2]
  ·rw[gI ih h']
  ·rw[gI ih h']
  ·simp only[Qj]at h';rw[Qg h'.1,gI ih h'.2.1,gI ih h'.2.2]
  ·cases h'
def Ak {args:List Ty}{v:Ty}:∀ {l:List (List Ty × Ty)},rJ args l=some v->(args,v)∈l:=by
 intro l
 induction l with
 |nil=>intro h;cases h
 |cons p l ih =>
  intro h;have h':Bool.casesOn (motive:=fun _=>Option Ty) (eZ (mX 40) p.1 args) (rJ args l) (some p.2)=some v:=h;cases he:eZ (mX 40) p.1 args with
  |true =>
   rw[he]at h';have:=gI (Aj 40) he;have h2:p.2=v:=Option.some.inj h';rw[<- this,<- h2];exact Q8 ..
  |false =>
   rw[he]at h';exact QP _ (ih h')
def Ke :∀ {l:List Ty} {i:Nat} {t:BT Ty},rG k l i t=some r->∃t',k t'=some r/\∀m,dM t' m=if i<=m/\m<i+l.length then l[m-i]? else dM t m:=by
 intro l
 induction l with
 |nil=>intro i t h;exact⟨t,h,fun m=>by rw[PX (by simp only[List.length_nil];omega)]⟩
 |cons x l ih =>
  intro i t h;have h':(kF t i x fun t=>cL (Nat.succ i) fun i=>rG k l i t)=some r:=h;obtain⟨t1,h1,h2⟩:=vV _ _ _ _ _ h';rw[ga]at h1;obtain⟨t',h3,h4⟩:=ih h1;refine⟨t',h3,fun m=>?_⟩;rw[h4,h2];simp only[List.length_cons,Nat.succ_eq_add_one];by_cases hm:m=i
  ·subst hm;rw[PX U,PZ rfl,PZ U];simp
  ·rw[PX hm];by_cases hm2:i+1<=m/\m<i+1+l.length
   ·rw[PZ hm2,PZ U];have:m-i=(m-(i+1))+1:=U;rw[this,List.getElem?_cons_succ]
   ·rw[PX hm2,PX U]
def Kf {l:List Ty}(h:rG k l 0 .nil=some r):∃t,k t=some r/\aC t=eX l:=by
 obtain⟨t,h1,h2⟩:=Ke h;refine⟨t,h1,funext fun m=>?_⟩;rw[sE,h2];unfold eX;split
 ·rfl
 ·rename_i hm;rw[P7 U,sD]
def Kg :∀ {ps:List Tmp} {vs:List Ty} {e:BT Ty},rK k ps vs e=some r->∃e',k e'=some r/\vs.length=ps.length/\aC e'=iE (aC e) (ps.zip vs):=by
 intro ps
 induction ps with
 |nil =>
  intro vs e h;cases vs with
  |nil=>exact⟨e,h,rfl,rfl⟩
  |cons=>cases h
 |cons p ps ih =>
  intro vs e h;cases vs with
  |nil=>cases h
  |cons v vs =>
   have h':(kF e p v fun e=>rK k ps vs e)=some r:=h;obtain⟨t1,h1,h2⟩:=vV _ _ _ _ _ h';obtain⟨e',h3,h4,h5⟩:=ih h1;refine⟨e',h3,by simp[h4],?_⟩;rw[h5,zY h2];rfl
def Kh :∀(t:BT Ty) (a b:Nat),okB t a b n=true->∀j v,dM t j=some v->a*j+b<n:=by
 intro t
 induction t with
 |nil=>intro a b _ j v h;cases h
 |node v l r ihl ihr =>
  intro a b h j u hj;have h':(zz v b n && (okB l (2*a) (a+b) n && okB r (2*a) (2*a+b) n))=true:=h;simp only[Qj]at h';obtain⟨h1,h2,h3⟩:=h';cases j with
  |zero =>
   rw[JE]at hj;rw[hj]at h1;have h4:b<n:=(by rw[<- SO];exact h1);omega
  |succ m =>
   rw[jg]at hj;split at hj
   ·rename_i hm;have:=ihl _ _ h2 _ _ hj;have h4:m=2*(m / 2):=U;generalize m / 2=q at this h4;subst h4;have h5:a*(2*q+1)=2*a*q+a:=(by rw[Nat.mul_add,Nat.mul_one,<- Tb,SU a 2]);omega
   ·rename_i hm;have:=ihr _ _ h3 _ _ hj;have h4:m=2*(m / 2)+1:=U;generalize m / 2=q at this h4;subst h4;have h5:a*(2*q+1+1)=2*a*q+2*a:=(by rw[show 2*q+1+1=2*q+2 from rfl,Nat.mul_add,<- Tb,SU a 2]);omega
def Ki {env:BT Ty}(h:okB env 1 0 n=true):cr (aC env) n=aC env:=by
 funext t
 unfold cr;split
 ·rfl
 ·rename_i ht;rw[sE];cases hg:dM env t with
  |none=>rfl
  |some v =>
   have:=Kh env 1 0 h t v hg;omega
end Go.Hx
namespace Go.Hx
variable {h:EH}{acc acc' kp l:List Nat}{id lo n:Nat}
def jh :dX l n=true↔n∈l:=by
 induction l with
 |nil=>exact⟨fun h=>absurd (show false=true from h) Tv,fun h=>absurd h (List.not_mem_nil)⟩
 |cons x l ih =>
  have h':dX (x :: l) n=Bool.rec (motive:=fun _=>Bool) (dX l n) true (Nat.beq x n):=rfl;rw[h',List.mem_cons];cases hb:Nat.beq x n with
  |true=>exact⟨fun _=>.inl (Qg hb).symm,fun _=>rfl⟩
  |false =>
   refine⟨fun h=>.inr (ih.1 h),?_⟩;rintro(rfl|h)
   ·rw[RO]at hb;cases hb
   ·exact ih.2 h
def Av (h:dX l n=false):n ∉ l:=fun hm=>by rw[jh.2 hm]at h;cases h
def KC {f:Nat->Bool}(h:vv f l=true):∀n,n∈l->f n=true:=by
 induction l with
 |nil=>intro n hn;cases hn
 |cons x l ih =>
  have h':Bool.rec (motive:=fun _=>Bool) false (vv f l) (f x)=true:=h;cases hx:f x with
  |false=>rw[hx]at h';cases h'
  |true =>
   rw[hx]at h';intro n hn;rcases List.mem_cons.1 hn with rfl|hn
   ·exact hx
   ·exact ih h' n hn
def gJ (lo:Nat)(kp acc:List Nat):Nat->Prop:=fun j=>(j<lo/\j∈kp)\/(¬j<lo/\j∈acc)
def nD (h:EH)(lo:Nat)(kp acc:List Nat)(id:Nat):Prop:=¬id<lo/\∃g e c,aW h.hp id=some (.L g e c)/\∀i (h:i<c.length),Ev.T1 (gJ lo kp acc) c[i]
def fM (h:EH)(lo:Nat)(kp acc acc':List Nat):Prop:=(∀id,id∈acc->id∈acc')/\∀id,id∈acc'->id∈acc\/nD h lo kp acc' id
def gJ.mono (hs:∀id,id∈acc->id∈acc')(id:Nat)(h:gJ lo kp acc id):gJ lo kp acc' id:=by
 rcases h with h|h
 ·exact .inl h
 ·exact .inr ⟨h.1,hs _ h.2⟩
theorem nD.mono (hs:∀id,id∈acc->id∈acc')(hg:nD h lo kp acc id):nD h lo kp acc' id:=by
 obtain⟨h1,g,e,c,h2,h3⟩:=hg;exact⟨h1,g,e,c,h2,fun i hi=>(h3 i hi).mono (gJ.mono hs)⟩
def fM.refl (h:EH)(lo:Nat)(kp acc:List Nat):fM h lo kp acc acc:=⟨fun _ h=>h,fun _ h=>.inl h⟩
def fM.trans {a b c:List Nat}(h1:fM h lo kp a b)(h2:fM h lo kp b c):fM h lo kp a c:=by
 refine⟨fun id hid=>h2.1 id (h1.1 id hid),fun id hid=>?_⟩;rcases h2.2 id hid with h3|h3
 ·rcases h1.2 id h3 with h4|h4
  ·exact .inl h4
  ·exact .inr (h4.mono h2.1)
 ·exact .inr h3
def pK {f:KF}(hf:∀v acc acc',f v acc=some acc'->fM h lo kp acc acc'/\Ev.T1 (gJ lo kp acc') v):
  ∀ {l:List Ty} {acc acc':List Nat},iF f l acc=some acc'->fM h lo kp acc acc'/\∀i (h:i<l.length),Ev.T1 (gJ lo kp acc') l[i]:=by
 intro l
 induction l with
 |nil =>
  intro acc acc' hk;have:some acc=some acc':=hk;cases this;exact⟨.refl _ _ _ _,fun i h=>absurd h (Qf _)⟩
 |cons x l ih =>
  intro acc acc' hk;have h':(match f x acc with|some acc=>iF f l acc|none=>none)=some acc':=hk;split at h'
  ·rename_i a1 h1;obtain⟨h2,h3⟩:=hf _ _ _ h1;obtain⟨h4,h5⟩:=ih h';refine⟨h2.trans h4,fun i hi=>?_⟩;cases i with
   |zero=>exact h3.mono (gJ.mono h4.1)
   |succ i=>exact h5 i (by simpa using hi)
  ·cases h'
def Aw {f:KF}(hf:∀v acc acc',f v acc=some acc'->fM h lo kp acc acc'/\Ev.T1 (gJ lo kp acc') v)
    (hk:mY h lo kp f id acc=some acc'):fM h lo kp acc acc'/\gJ lo kp acc' id:=by
 unfold mY at hk;split at hk
 ·rename_i hlt;rw[SO]at hlt;split at hk
  ·rename_i hm;cases hk;exact⟨.refl _ _ _ _,.inl ⟨hlt,jh.1 hm⟩⟩
  ·cases hk
 ·rename_i hlt;have hlt':¬id<lo:=fun h=>by rw[<- SO]at h;rw[h]at hlt;cases hlt
  split at hk
  ·rename_i hm;cases hk;exact⟨.refl _ _ _ _,.inr ⟨hlt',jh.1 hm⟩⟩
  ·split at hk
   ·rename_i g e cells hg;obtain⟨⟨h1,h2⟩,h3⟩:=pK hf hk;have hin:id∈acc':=h1 id (Q8 ..);refine⟨⟨fun j hj=>h1 j (QP _ hj),fun j hj=>?_⟩,.inr ⟨hlt',hin⟩⟩;rcases h2 j hj with h4|h4
    ·rcases List.mem_cons.1 h4 with rfl|h4
     ·exact .inr ⟨hlt',g,e,cells,hg,h3⟩
     ·exact .inl h4
    ·exact .inr h4
   ·cases hk
def Ax :∀(fuel:Nat) (v:Ty) (acc acc':List Nat),jd h lo kp fuel v acc=some acc'->fM h lo kp acc acc'/\Ev.T1 (gJ lo kp acc') v:=by
 intro fuel
 induction fuel with
 |zero=>intro v acc acc' h;cases h
 |succ n ih =>
  intro v acc acc' hk;cases v with
  |lit v =>
   have:some acc=some acc':=hk;cases this;exact⟨.refl _ _ _ _,.lit _⟩
  |M m c =>
   have hk':(match Ty.M m c with|.M 0 []=>some acc|_=>none)=some acc':=by
    cases m<;>cases c<;>exact hk
   split at hk'
   ·rename_i he;cases he;cases hk';exact⟨.refl _ _ _ _,.nil⟩
   ·cases hk'
  |agg c =>
   obtain⟨h1,h2⟩:=pK ih (show iF (jd h lo kp n) c acc=some acc' from hk);exact⟨h1,.agg h2⟩
  |nf c =>
   obtain⟨h1,h2⟩:=pK ih (show iF (jd h lo kp n) c acc=some acc' from hk);exact⟨h1,.nf h2⟩
  |nl f a b =>
   have hk':(match iF (jd h lo kp n) a acc with|some acc=>iF (jd h lo kp n) b acc|none=>none)=some acc':=hk;split at hk'
   ·rename_i a1 h1;obtain⟨h2,h3⟩:=pK ih h1;obtain⟨h4,h5⟩:=pK ih hk';exact⟨h2.trans h4,.nl (fun i hi=>(h3 i hi).mono (gJ.mono h4.1)) h5⟩
   ·cases hk'
  |V id g o l z =>
   obtain⟨h1,h2⟩:=Aw ih (show mY h lo kp (jd h lo kp n) id acc=some acc' from hk);exact⟨h1,.V h2⟩
  |Y id g o =>
   obtain⟨h1,h2⟩:=Aw ih (show mY h lo kp (jd h lo kp n) id acc=some acc' from hk);exact⟨h1,.Y h2⟩
  |nc=>cases hk
  |ng=>cases hk
def kS {f:CF}(hf:∀v acc k r,f v acc k=some r->∃acc',k acc'=some r/\fM h 0 [] acc acc'):
  ∀ {l:List Ty} {acc:List Nat} {k:List Nat->R} {r:RR},je f l acc k=some r->∃acc',k acc'=some r/\fM h 0 [] acc acc':=by
 intro l
 induction l with
 |nil=>intro acc k r hr;exact⟨acc,hr,.refl _ _ _ _⟩
 |cons x l ih =>
  intro acc k r hr;have h':(f x acc fun acc=>je f l acc k)=some r:=hr;obtain⟨a1,h1,h2⟩:=hf _ _ _ _ h';obtain⟨a2,h3,h4⟩:=ih h1;exact⟨a2,h3,h2.trans h4⟩
def KD :∀(fuel:Nat) (v:Ty) (acc:List Nat) (k:List Nat->R) (r:RR),rE h fuel v acc k=some r->∃acc',k acc'=some r/\fM h 0 [] acc acc':=by
 intro fuel
 induction fuel with
 |zero=>intro v acc k r hr;exact⟨acc,hr,.refl _ _ _ _⟩
 |succ n ih =>
  intro v acc k r hr;have h':(match jd h 0 [] 40 v acc with|some acc=>k acc|none=>vw h (rE h n) v acc k)=some r:=hr;split at h'
  ·rename_i a1 h1;exact⟨a1,h',(Ax 40 v acc a1 h1).1⟩
  ·have blk:∀b,rD (rE h n) acc k b=some r->∃acc',k acc'=some r/\fM h 0 [] acc acc':=by
    intro b hb;unfold rD at hb;split at hb
    ·exact kS ih hb
    ·exact⟨acc,hb,.refl _ _ _ _⟩
   unfold vw at h';split at h'
   ·exact kS ih h'
   ·exact kS ih h'
   ·exact kS ih h'
   ·exact kS ih h'
   ·obtain⟨a1,h1,h2⟩:=kS ih h';obtain⟨a2,h3,h4⟩:=kS ih h1;exact⟨a2,h3,h2.trans h4⟩
   ·exact blk _ h'
   ·exact blk _ h'
   ·exact⟨acc,h',.refl _ _ _ _⟩
def KE (hkp:∀id,id∈kp->id<h.nx):∀(fuel:Nat) {v v':Ty} {rs:List Nat},iG h kp fuel v=some (v',rs)->∀H2:Tz,(∀r,r∈rs->H2.get r=(ao h).get r)->Fz (fun id=>¬id∈kp) H2 h.nx v v':=by
 intro fuel
 induction fuel with
 |zero=>intro v v' rs h;cases h
 |succ f ih =>
  intro v v' rs hv H2 ha;have list:∀ {l l':List Ty} {rs':List Nat},bH (iG h kp f) l=some (l',rs')->(∀r,r∈rs'->H2.get r=(ao h).get r) ->
    l'.length=l.length/\∀i (_:i<l.length) (_:i<l'.length),Fz (fun id=>¬id∈kp) H2 h.nx l[i] l'[i]:=fun hm ha'=>by
   obtain⟨h1,h2⟩:=lK hm;exact⟨h1,fun i hi hi'=>let ⟨ri,h3,h4⟩:=h2 i hi hi';ih h3 H2 fun r hr=>ha' r (h4 r hr)⟩
  cases v with
  |lit v =>
   have hv':some (Ty.lit v,[])=some (v',rs):=hv;simp only[Option.some.injEq,Prod.mk.injEq]at hv';obtain⟨rfl,rfl⟩:=hv';exact .lit _
  |M n c =>
   have hv':(bH (iG h kp f) c).map (fun p=>(Ty.M n p.1,p.2))=some (v',rs):=hv;simp only[PU,Prod.mk.injEq]at hv';obtain⟨⟨c',rs'⟩,h1,rfl,rfl⟩:=hv';obtain⟨h2,h3⟩:=list h1 ha;exact .M h2 h3
  |nc c o =>
   have hv':(bH (iG h kp f) c).map (fun p=>(Ty.nc p.1 o,p.2))=some (v',rs):=hv;simp only[PU,Prod.mk.injEq]at hv';obtain⟨⟨c',rs'⟩,h1,rfl,rfl⟩:=hv';obtain⟨h2,h3⟩:=list h1 ha;exact .nc h2 h3
  |agg c =>
   have hv':(bH (iG h kp f) c).map (fun p=>(Ty.agg p.1,p.2))=some (v',rs):=hv;simp only[PU,Prod.mk.injEq]at hv';obtain⟨⟨c',rs'⟩,h1,rfl,rfl⟩:=hv';obtain⟨h2,h3⟩:=list h1 ha;exact .agg h2 h3
  |nf c =>
   have hv':(bH (iG h kp f) c).map (fun p=>(Ty.nf p.1,p.2))=some (v',rs):=hv;simp only[PU,Prod.mk.injEq]at hv';obtain⟨⟨c',rs'⟩,h1,rfl,rfl⟩:=hv';obtain⟨h2,h3⟩:=list h1 ha;exact .nf h2 h3
  |nl g a b =>
   have hv':(match bH (iG h kp f) a,bH (iG h kp f) b with|some p,some q=>some (Ty.nl g p.1 q.1,p.2++q.2)|_,_=>none)=some (v',rs):=hv;split at hv'
   ·rename_i p q h1 h2;simp only[Option.some.injEq,Prod.mk.injEq]at hv';obtain⟨rfl,rfl⟩:=hv';obtain⟨h3,h4⟩:=list h1 fun r hr=>ha r (RA _ hr);obtain⟨h5,h6⟩:=list h2 fun r hr=>ha r (Rh _ hr);exact .nl h3 h5 h4 h6
   ·cases hv'
  |V id g o l z =>
   have hv':(match dX kp id with
    |true=>some (Ty.V id g o l z,[])
    |false=>match aW h.hp id with|some (.L g' _ cells)=>if g'=g/\o+l*z<=cells.length then (bH (iG h kp f) ((cells.drop o).take (l*z))).map fun p=>(Ty.M l p.1,id :: p.2) else none|_=>none)=some (v',rs):=hv
   split at hv'
   ·rename_i hm;simp only[Option.some.injEq,Prod.mk.injEq]at hv';obtain⟨rfl,rfl⟩:=hv';exact .V (hkp _ (jh.1 hm)) fun h=>h (jh.1 hm)
   ·rename_i hm;split at hv'
    ·rename_i g' e cells hg;split at hv'
     ·rename_i hc;obtain⟨rfl,hle⟩:=hc;simp only[PU,Prod.mk.injEq]at hv';obtain⟨⟨c',rs'⟩,h1,rfl,rfl⟩:=hv';obtain⟨h2,h3⟩:=list h1 fun r hr=>ha r (QP _ hr);have hlen:((cells.drop o).take (l*z)).length=l*z:=(by simp;omega);refine .np (Av hm) ((ha id (Q8 ..)).trans (kO hg)) (h2.trans hlen) fun i hi h2i hi'=>?_;have:=h3 i U hi';simpa using this
     ·cases hv'
    ·cases hv'
  |Y id g o =>
   have hv':(match dX kp id with
    |true=>some (Ty.Y id g o,[])
    |false=>match aW h.hp id with|some (.L g' _ (x :: cells))=>if g'=g then (bH (iG h kp f) (x :: cells)).map fun p=>(Ty.nc p.1 o,id :: p.2) else none|_=>none)=some (v',rs):=hv
   split at hv'
   ·rename_i hm;simp only[Option.some.injEq,Prod.mk.injEq]at hv';obtain⟨rfl,rfl⟩:=hv';exact .Y (hkp _ (jh.1 hm)) fun h=>h (jh.1 hm)
   ·rename_i hm;split at hv'
    ·rename_i g' e x cells hg;split at hv'
     ·rename_i hc;subst hc;simp only[PU,Prod.mk.injEq]at hv';obtain⟨⟨c',rs'⟩,h1,rfl,rfl⟩:=hv';obtain⟨h2,h3⟩:=list h1 fun r hr=>ha r (QP _ hr);exact .pfrz (Av hm) ((ha id (Q8 ..)).trans (kO hg)) Tu h2 h3
     ·cases hv'
    ·cases hv'
  |ng n=>cases hv
def KG {k:BT TK->R}{r:RR}:∀ {l:List Nat} {t:BT TK},vy h l k t=some r->∃t',k t'=some r/\∀m,aW t' m=if m∈l then aW h.hp m else aW t m:=by
 intro l
 induction l with
 |nil=>intro t hr;exact⟨t,hr,fun m=>by rw[PX Tu]⟩
 |cons x l ih =>
  intro t hr;have h':(match aW h.hp x with|some b=>fw t x b (vy h l k)|none=>none)=some r:=hr;split at h'
  ·rename_i b hb;obtain⟨t1,h1,h2⟩:=kL _ _ _ _ _ h';obtain⟨t',h3,h4⟩:=ih h1;refine⟨t',h3,fun m=>?_⟩;rw[h4,h2];by_cases hm:m∈l
   ·rw[PZ hm,PZ (QP _ hm)]
   ·rw[PX hm];by_cases hx:m=x
    ·subst hx;rw[PZ rfl,PZ (Q8 ..),hb]
    ·rw[PX hx,PX (by simp[hx,hm])]
  ·cases h'
def KH {a b:Value}(h:vz a b=true):a=b:=by
 unfold vz at h;split at h
 ·simp only[Qj,decide_eq_true_eq,sH]at h;rw[h.1,h.2]
 ·simp only[beq_iff_eq]at h;rw[h]
 ·rfl
 ·rfl
 ·cases h
def KI:∀(fuel:Nat) (a b:Ty),vB fuel a b=true->a=b:=by
 intro fuel
 induction fuel with
 |zero=>intro a b h;cases h
 |succ f ih =>
  intro a b h;have h':vA (vB f) a b=true:=h;unfold vA at h';split at h'
  ·rw[KH h']
  ·simp only[Qj]at h';rw[Qg h'.1,gI ih h'.2]
  ·rw[gI ih h']
  ·rw[gI ih h']
  ·simp only[Qj]at h';rw[Qg h'.1,gI ih h'.2.1,gI ih h'.2.2]
  ·simp only[Qj]at h';rw[Qg h'.1,Qg h'.2.1,Qg h'.2.2.1,Qg h'.2.2.2.1,Qg h'.2.2.2.2]
  ·simp only[Qj]at h';rw[Qg h'.1,Qg h'.2.1,Qg h'.2.2]
  ·cases h'
def KJ {a b:Option TK}(h:vC a b=true):a=b:=by
 unfold vC at h;split at h
 ·simp only[Qj]at h;rw[Qg h.1,Qg h.2.1,gI (KI 40) h.2.2]
 ·cases h
def KK {h':EH}{lv:List Nat}:∀ {n:Nat} {t:BT TK} {k:BT TK->R} {r:RR},rF h' lv lo n t k=some r ->
  ∃t',k t'=some r/\∀m,aW t' m=if lo<=m/\m<lo+n then (if dX lv m=true then aW h'.hp m else some (.L 0 0 [])) else aW t m:=by
 intro n
 induction n with
 |zero=>intro t k r hr;exact⟨t,hr,fun m=>by rw[PX U]⟩
 |succ n ih =>
  intro t k r hr;have h1:cL (Nat.add lo n) (vD h' lv t fun t=>rF h' lv lo n t k)=some r:=hr;rw[ga]at h1;have key:∀b,(if dX lv (lo+n)=true then aW h'.hp (lo+n) else some (.L 0 0 []))=some b->fw t (lo+n) b (fun t=>rF h' lv lo n t k)=some r ->
    ∃t',k t'=some r/\∀m,aW t' m=if lo<=m/\m<lo+(n+1) then (if dX lv m=true then aW h'.hp m else some (.L 0 0 [])) else aW t m:=by
   intro b hb hs;obtain⟨t1,h2,h3⟩:=kL _ _ _ _ _ hs;obtain⟨t',h4,h5⟩:=ih h2;refine⟨t',h4,fun m=>?_⟩;rw[h5,h3];by_cases hm:m=lo+n
   ·subst hm;rw[PX U,PZ rfl,PZ U,hb]
   ·rw[PX hm];by_cases hm2:lo<=m/\m<lo+n
    ·rw[PZ hm2,PZ (⟨hm2.1,U⟩:lo<=m/\m<lo+(n+1))]
    ·rw[PX hm2,PX (fun hc:lo<=m/\m<lo+(n+1)=>hm2 ⟨hc.1,U⟩)]
  unfold vD at h1;split at h1
  ·rename_i hm;split at h1
   ·rename_i b hb;exact key b ((PZ (show dX lv (lo+n)=true from hm)).trans hb) h1
   ·cases h1
  ·rename_i hm;exact key _ (PX (fun hc=>by rw[show dX lv (lo+n)=false from hm]at hc;cases hc)) h1
end Go.Hx
namespace Go.Hx
def Kj (z:GD):Option Ty->Ty
 |some u=>.nf [u,.lit (.int .i64 0)]
 |none=>.nf [z.z,.lit (.int .i64 6)]
def Al (P:Program)(G:Nat->Option (List Ty))(f:FuncId)(z:GD):Prop:=∀g cap cap' (H:Tz) o,cap'.length=cap.length ->
 (∀H2:Tz,(∀id,id<H.C->H2.get id=H.get id)->∀i (h:i<cap.length) (h':i<cap'.length),Fz (fun _=>True) H2 0 cap[i] cap'[i]) ->
 (∀u,o=some u->z.ok u=true)->af P G g cap' cj (oI o)->af P G f [.nl g [] cap] H fun r H'=>r=.ret (Kj z o)/\H'=H
def pH (E:EP):Prop:=∀f e,E.ext f=some e->∀args r,e args=some r->∀(H:Tz) (K:TF->Tz->Prop),K (.ret r) H->aE E.P E.G (.nl f [] []) args H K
theorem pH.none {E:EP}(h:E.ext=fun _=>.none):pH E:=fun f e he=>by rw[h]at he;cases he
structure Ul (E:EP):Prop where
 gok:dJ E.G
 mixed:E.P.follows .mixedOrders=true
 known:∀f l,E.known f=some l->∀a v,(a,v)∈l->af E.P E.G f a cj fun r H'=>∃u,r=.ret u/\TP H' u v
 gd:∀f z,E.gd f=some z->Al E.P E.G f z
 ext:pH E
def vZ:RR->TF->EH->Prop
 |.ret v h,x,h'=>x=.ret v/\h'=h
 |.panic h,x,h'=>x=.panic/\h'=h
 |_,_,_=>False
def fL (E:EP)(ih:iH):Prop:=∀rd n c env h r,ih rd n c env h=some r->VH h->fits n c=true ->
 ∃x env' h',r=.ev x env' h'/\VH h'/\∀Q:AX->St->Prop,Q x ⟨aC env',ao h'⟩->W E.P E.G n rd c Q ⟨aC env,ao h⟩
def v7 (E:EP)(f:FuncId)(args:List Ty)(h:EH)(r:RR):Prop :=
 ∃x h',vZ r x h'/\VH h'/\∀K:TF->Tz->Prop,K x (ao h')->af E.P E.G f args (ao h) K
def v9 (E:EP)(fv:Ty)(args:List Ty)(h:EH)(r:RR):Prop :=
 ∃x h',vZ r x h'/\VH h'/\∀K:TF->Tz->Prop,K x (ao h')->aE E.P E.G fv args (ao h) K
section
variable {E:EP} {ih:iH}
def fA {b:Bool}{x:R}{r:RR}(h:Bool.rec (motive:=fun _=>R) none x b=some r):b=true/\x=some r:=by
 cases b with
 |false=>cases h
 |true=>exact⟨rfl,h⟩
def wc:VH ⟨.nil,0⟩:=fun _ _ h=>by cases h
def kP (hI:fL E ih){f:FuncId}{args:List Ty}{h:EH}{r:RR}(hv:VH h)(hr:kH E ih f args h=some r):v7 E f args h r:=by
 unfold kH at hr;cases hf:E.P.funcs[f]? with
 |none=>rw[hf]at hr;cases hr
 |some fn =>
  rw[hf]at hr;have hr1:Option.rec (motive:=fun _=>R) none (fun c=>rI E ih fn c args h) fn.body=some r:=hr;cases hb:fn.body with
  |none=>rw[hb]at hr1;cases hr1
  |some c =>
   rw[hb]at hr1;have hr2:rI E ih fn c args h=some r:=hr1;unfold rI at hr2;obtain⟨hok,hr3⟩:=fA hr2;obtain⟨hle,hr4⟩:=fA hr3;have hle:=Ru hle;unfold zu at hok;simp only[Qj,SQ]at hok;obtain⟨env,hr5,henv⟩:=Kf hr4;have body:∀K:TF->Tz->Prop,W E.P E.G fn.ntmps none c (lz E.P E.G fn.results.toList (ao h) K) ⟨eX args,ao h⟩->af E.P E.G f args (ao h) K:=fun K hW=>af.uF hf hb rfl rfl hok.2 hle hW;unfold zt at hr5;have ret:∀env' h' vs,dH E.P (ao h') (aC env') fn.results.toList=some vs->rH h.nx (fY vs) h'=some r->VH h'->(∀Q:AX->St->Prop,(Q .normal ⟨aC env',ao h'⟩/\Q .ret ⟨aC env',ao h'⟩)->W E.P E.G fn.ntmps none c Q ⟨aC env,ao h⟩)->v7 E f args h r:=by
    intro env' h' vs hvs he hv' hW;unfold rH at he;obtain⟨hnx,he2⟩:=fA he;rw[nk]at he2;have he3:r=.ret (fY vs) h':=(Option.some.inj he2).symm;subst he3;refine⟨.ret (fY vs),h',⟨rfl,rfl⟩,hv',fun K hK=>body K ?_⟩;rw[<- henv];have hfin:ba (dH E.P (ao h') (aC env') fn.results.toList) fun vs=>aw E.P E.G (ao h) K (fY vs) (ao h'):=⟨vs,hvs,aw.mk (Ru hnx) hK⟩
    exact hW _ ⟨hfin,hfin⟩
   split at hr5
   ·rename_i env' h' hi;obtain⟨x,e2,h2,h3,h4,h5⟩:=hI _ _ _ _ _ _ hi hv hok.1;cases h3;split at hr5
    ·rename_i vs hvs;exact ret _ _ _ hvs hr5 h4 fun Q hq=>h5 Q hq.1
    ·cases hr5
   ·rename_i env' h' hi;obtain⟨x,e2,h2,h3,h4,h5⟩:=hI _ _ _ _ _ _ hi hv hok.1;cases h3;split at hr5
    ·rename_i vs hvs;exact ret _ _ _ hvs hr5 h4 fun Q hq=>h5 Q hq.2
    ·cases hr5
   ·rename_i env' h' hi;obtain⟨x,e2,h2,h3,h4,h5⟩:=hI _ _ _ _ _ _ hi hv hok.1;cases h3;obtain⟨hnx,he2⟩:=fA hr5;have he3:r=.panic h':=(Option.some.inj he2).symm;subst he3;refine⟨.panic,h',⟨rfl,rfl⟩,h4,fun K hK=>body K ?_⟩;rw[<- henv];exact h5 _ ⟨ao h',kA.refl _ _,Ru hnx,hK⟩
   ·cases hr5
def Kk (hI:fL E ih){f:FuncId}{args:List Ty}{v:Ty}(hr:vE E ih f args=some v):af E.P E.G f args cj fun r H'=>∃u,r=.ret u/\TP H' u v:=by
 unfold vE at hr;split at hr
 ·rename_i u h' hc;obtain⟨x,h2,hcr,hv2,hK⟩:=kP hI wc hc;obtain⟨rfl,rfl⟩:=hcr;exact hK _ ⟨u,rfl,Ai _ hr⟩
 ·cases hr
def Am (hI:fL E ih){f:FuncId}{args:List Ty}{o:Option Ty}(hr:vF E ih f args=some o):af E.P E.G f args cj (oI o):=by
 unfold vF at hr;split at hr
 ·rename_i u h' hc;obtain⟨x,h2,hcr,_,hK⟩:=kP hI wc hc;obtain⟨rfl,rfl⟩:=hcr;split at hr
  ·rename_i w hw;cases hr;exact hK (oI (some w)) ⟨u,rfl,Ai _ hw⟩
  ·cases hr
 ·rename_i h' hc;obtain⟨x,h2,hcr,_,hK⟩:=kP hI wc hc;obtain⟨rfl,rfl⟩:=hcr;cases hr;exact hK (oI none) rfl
 ·cases hr
def An (hE:Ul E){f:FuncId}{args args':List Ty}{rs:List Nat}{v:Ty}{h:EH}(hm:bH (fZ h 40) args=some (args',rs))(hc:af E.P E.G f args' cj fun r H'=>∃u,r=.ret u/\TP H' u v)
  (H2:Tz) (ha:∀r,r∈rs->H2.get r=(ao h).get r):af E.P E.G f args H2 fun r H'=>r=.ret v/\H'=H2:=by
 obtain⟨h1,h2⟩:=lK hm;exact af.frame hE.gok h1 (fun i hi hi'=>let ⟨ri,h3,h4⟩:=h2 i hi hi';Ah 40 h3 H2 fun r hr=>ha r (h4 r hr)) hc
def Kl (hE:Ul E)(hI:fL E ih){f:FuncId}{first cap args:List Ty}{h:EH}{r:RR}(hv:VH h)(hr:vI E ih f first cap args h=some r):v7 E f (first++args++cap) h r:=by
 unfold vI at hr;split at hr
 ·rw[gH]at hr;split at hr
  ·exact kP hI hv hr
  ·rename_i l hl;unfold zB at hr;split at hr
   ·cases hr
   ·rename_i p hm;split at hr
    ·rename_i v hk;have:r=.ret v h:=(Option.some.inj hr).symm;subst this;refine⟨.ret v,h,⟨rfl,rfl⟩,hv,fun K hK=>?_⟩;exact(An hE hm (hE.known f l hl _ _ (Ak hk)) (ao h) fun _ _=>rfl).mono fun x H' ⟨h1,h2⟩=>by rw[h1,h2];exact hK
    ·exact kP hI hv hr
 ·rename_i z hz;rw[gH]at hr;unfold zx at hr;split at hr
  ·rename_i g cap2 heq;rw[heq];split at hr
   ·rename_i p hm;obtain⟨hlt,hr⟩:=fA hr;have hview:∀H2:Tz,(∀id,id<(ao h).C->H2.get id=(ao h).get id)->∀i (h:i<cap2.length) (h':i<p.1.length),Fz (fun _=>True) H2 0 cap2[i] p.1[i]:=fun H2 ha i hi hi'=>by
     obtain⟨_,h2⟩:=lK hm;obtain⟨ri,h3,h4⟩:=h2 i hi hi';refine Ah 40 h3 H2 fun r hr=>ha r ?_;have:=Qt.1 hlt r (h4 r hr);rw[SO]at this;exact this
    unfold zw at hr;split at hr
    ·rename_i u hgo;obtain⟨hok,hr⟩:=fA hr;have:r=.ret (.nf [u,.lit (.int .i64 0)]) h:=(Option.some.inj hr).symm;subst this;refine⟨_,h,⟨rfl,rfl⟩,hv,fun K hK=>?_⟩;exact(hE.gd f z hz g cap2 p.1 (ao h) (some u) (lK hm).1 hview (fun _ h=>by cases h;exact hok) (Am hI hgo)).mono fun x H' ⟨h1,h2⟩=>by rw[h1,h2];exact hK
    ·rename_i hgo;have:r=.ret (.nf [z.z,.lit (.int .i64 6)]) h:=(Option.some.inj hr).symm;subst this;refine⟨_,h,⟨rfl,rfl⟩,hv,fun K hK=>?_⟩;exact(hE.gd f z hz g cap2 p.1 (ao h) none (lK hm).1 hview (fun _ h=>by cases h) (Am hI hgo)).mono fun x H' ⟨h1,h2⟩=>by rw[h1,h2];exact hK
    ·cases hr
   ·cases hr
  ·cases hr
def pI {h:EH}{id:Nat}{st:LoopState}{pend:Option Code}{n:Nat}{env:BT Ty}{ps:Array Tmp}{asg body:Code}(hg:aW h.hp id=some (.loop st pend n env ps asg body)):
  (ao h).get id=some (.loop st pend n (aC env) ps asg body):=by
 show Option.map TK.jb (aW h.hp id)=_;rw[hg];rfl
def VH.set {h:EH}(hv:VH h){hp:BT TK}{id:Nat}{b:TK}(hs:∀m,aW hp m=if m=id then some b else aW h.hp m)(hid:id<h.nx):VH ⟨hp,h.nx⟩:=by
 intro j x hj;rw[hs]at hj;show j<h.nx;split at hj
 ·omega
 ·exact hv _ _ hj
def we {h:EH}{hp:BT TK}{id:Nat}{b:TK}(hs:∀m,aW hp m=if m=id then some b else aW h.hp m):ao ⟨hp,h.nx⟩=(ao h).upd id b.jb:=by
 rw[sF (nx:=h.nx) hs];rfl
def Km (hI:fL E ih){id:Nat}{args:List Ty}{h:EH}{r:RR}(hv:VH h)(hr:vG ih id args h=some r):v9 E (.ng id) args h r:=by
 unfold vG at hr;split at hr
 ·rename_i pend n env ps asg body hg;obtain ⟨hok,hr1⟩:=fA hr;unfold zA at hok;simp only [Qj] at hok;obtain ⟨hokB,hf1,hf2,hps⟩:=hok;obtain ⟨e0,hr2,hlen,he0⟩:=Kg hr1;have hget:=pI hg;have hid : id<h.nx:=hv _ _ hg
    -- the rule of a round
  have rule:∀K:TF->Tz->Prop,W E.P E.G n (some id) asg (zj E.P E.G n id body K) ⟨aC e0,ao h⟩->aE E.P E.G (.ng id) args (ao h) K:=fun K hW=>by
   refine aE.ng hget (by simpa using hlen) hps ?_;rw[Ki hokB,<- he0];exact hW
  unfold zy at hr2;split at hr2
  ·rename_i e1 h1 hi;obtain⟨x,e2,h2,h3,h4,h5⟩:=hI _ _ _ _ _ _ hi hv hf1;cases h3;split at hr2
   ·rename_i pend2 n2 env2 ps2 asg2 body2 hg1;obtain ⟨hp1,hr3,hs1⟩:=kL _ _ _ _ _ hr2;have hget1:=pI hg1;have hv1 : VH ⟨hp1,h1.nx⟩:=h4.set hs1 (h4 _ _ hg1);have hup1:=we (h:=h1) hs1;have mk : ∀ (x2 : AX) (e3 : BT Ty) (h3 : EH) (st : LoopState) (pd : Option Code) (b : Bool),ih (some id) n body e1 ⟨hp1,h1.nx⟩=some (.ev x2 e3 h3)→pt id st pd b h3=some r →
      (∀K:TF->Tz->Prop,uV id K x2 ⟨aC e3,ao h3⟩=ba (kE st pd ((ao h3).get id)) fun blk=>K (.ret (.lit (.bool b))) ((ao h3).upd id blk))->v9 E (.ng id) args h r:=by
     intro x2 e3 h3 st pd b hi2 hre hq;obtain⟨x',e',h',h6,h7,h8⟩:=hI _ _ _ _ _ _ hi2 hv1 hf2;cases h6;unfold pt at hre;split at hre
     ·rename_i n3 env3 ps3 asg3 body3 hg3;obtain⟨hp3,hr4,hs3⟩:=kL _ _ _ _ _ hre;have hr5:r=.ret (.lit (.bool b)) ⟨hp3,h3.nx⟩:=(Option.some.inj hr4).symm;subst hr5;have hup3:=we (h:=h3) hs3;refine⟨_,_,⟨rfl,rfl⟩,h7.set hs3 (h7 _ _ hg3),fun K hK=>rule K (h5 _ ?_)⟩;refine⟨_,by rw[hget1];rfl,?_⟩;have hbusy:(ao h1).upd id (.loop .busy pend2 n2 (aC env2) ps2 asg2 body2)=ao ⟨hp1,h1.nx⟩:=hup1.symm;show W E.P E.G n (some id) body (uV id K) ⟨aC e1,(ao h1).upd id (.loop .busy pend2 n2 (aC env2) ps2 asg2 body2)⟩;rw[hbusy];refine h8 _ ?_;rw[hq];refine⟨.loop st pd n3 (aC env3) ps3 asg3 body3,by rw[pI hg3];rfl,?_⟩;rw[hup3]at hK;exact hK
     ·cases hre
    unfold endRound at hr3;split at hr3
    ·rename_i e3 h3 hi2;exact mk _ _ _ _ _ _ hi2 hr3 fun _=>rfl
    ·rename_i e3 h3 hi2;exact mk _ _ _ _ _ _ hi2 hr3 fun _=>rfl
    ·rename_i i e3 h3 hi2;exact mk _ _ _ _ _ _ hi2 hr3 fun _=>rfl
    ·cases hr3
   ·cases hr2
  ·cases hr2
 ·cases hr
def Kn (hE:Ul E)(hI:fL E ih){fv:Ty}{args:List Ty}{h:EH}{r:RR}(hv:VH h)(hr:rL E ih fv args h=some r):v9 E fv args h r:=by
 unfold rL at hr;split at hr
 ·rename_i f first cap
  split at hr
  ·obtain⟨x,h',h1,h2,h3⟩:=Kl hE hI hv hr;exact⟨x,h',h1,h2,fun K hK=>aE.nl (h3 K hK)⟩
  ·rename_i e he;unfold zC at hr;split at hr
   ·rename_i hfc;obtain⟨rfl,rfl⟩:=Tf.1 hfc;rw[gH]at hr;split at hr
    ·rename_i v hv2;rw[nk]at hr;have:r=.ret v h:=(Option.some.inj hr).symm;subst this;exact⟨_,h,⟨rfl,rfl⟩,hv,fun K hK=>hE.ext f e he _ _ hv2 _ _ hK⟩
    ·cases hr
   ·cases hr
 ·exact Km hI hv hr
 ·cases hr
def sJ {h:EH}{rd:Option Nat}(hr:mZ h rd=true):dT (ao h) rd:=by
 unfold mZ at hr;split at hr
 ·trivial
 ·rename_i id;split at hr
  ·rename_i st pend n env ps asg body hg;exact⟨st,pend,n,aC env,ps,asg,body,pI hg⟩
  ·cases hr
abbrev Rest (r:RR)(KQ:(AX->St->Prop)->St->Prop)(env:BT Ty)(h:EH):Prop :=
 ∃x e2 h2,r=.ev x e2 h2/\VH h2/\∀Q:AX->St->Prop,Q x ⟨aC e2,ao h2⟩->KQ Q ⟨aC env,ao h⟩
def Ko {P:Program}{H:Tz}{op:BinOp}{t:TypeId}{x y:Operand}{a b v:Ty}(h:bg P op t x y a b=some v):gy H op a b=none:=by
 cases hn:gy H op a b with
 |none=>rfl
 |some c =>
  exfalso;unfold gy at hn;unfold bg at h;split at hn
  ·cases a<;>simp_all[Ty.bS]
  ·cases a<;>simp_all[Ty.bS]
  ·cases hn
def Kp {P:Program}{G:Nat->Option (List Ty)}{rd:Option Nat}{Q:AX->St->Prop}{o:Oper}{K:St->Prop}{s:St}{v:Ty}{H':Tz}(hop:ah P G s.ρ s.H s.H.C o.op=some (v,H'))(hk:K ⟨aD s.ρ o.dst v,H'⟩):aN P G rd Q o K s:=by
 unfold aN;split
 ·rename_i h;rw[h]at hop;simp[ah]at hop
 ·rename_i h;rw[h]at hop;simp[ah]at hop
 ·rename_i op t x y u h;rw[h]at hop;have hb:(bg P op t x y (aj G s.ρ x) (aj G s.ρ y)).map (fun v=>(v,s.H))=some (v,H'):=hop;simp only[PU,Prod.mk.injEq]at hb;obtain⟨v',hb1,_,_⟩:=hb;rw[Ko hb1];exact⟨(v,H'),hop,hk⟩
 ·exact⟨(v,H'),hop,hk⟩
def Kq (hE:Ul E)(hI:fL E ih){rd:Option Nat}{o:Oper}{k:BT Ty->EH->R}{env:BT Ty}{h:EH}{r:RR}{KQ:(AX->St->Prop)->St->Prop}(hv:VH h)
  (hk:∀env' h',VH h'->k env' h'=some r->Rest r KQ env' h') (hr:sk o.op E ih rd o.dst k env h=some r):Rest r (fun Q=>aN E.P E.G rd Q o (KQ Q)) env h:=by
 rcases Kc hv hr with ⟨v,env',h',hop,hv',he,hkr⟩|⟨op,t,x,y,u,env',hop,hn,hs,he,hkr⟩|⟨fv,args,ats,hop,hrv⟩|⟨x,hop,hrp⟩
 ·obtain⟨x,e2,h2,h3,h4,h5⟩:=hk _ _ hv' hkr;refine⟨x,e2,h2,h3,h4,fun Q hq=>Kp (v:=v) (H':=ao h') hop ?_⟩;have:=h5 Q hq;rw[he]at this;exact this
 ·obtain⟨x',e2,h2,h3,h4,h5⟩:=hk _ _ hv hkr;refine⟨x',e2,h2,h3,h4,fun Q hq=>?_⟩;unfold aN;rw[hop];simp only;rw[hn];refine⟨hs,fun b hb=>?_⟩;have hb':=hb rfl;subst hb';have:=h5 Q hq;rw[he]at this;cases hnq:(op == BinOp.neq)<;>rw[hnq]at this<;>exact this
 ·unfold vK at hrv;rw [nr,cw] at hrv;unfold zD at hrv;have key : ∀ {x : TF} {h' : EH} {r0 : RR},rL E ih (aj E.G (aC env) fv) (args.toList.map (aj E.G (aC env))) h=some r0→vZ r0 x h'→VH h'∧∀ (Q : AX→St→Prop),(dT (ao h') rd∧match (x : TF) with
    |.ret v=>KQ Q ⟨aD (aC env) o.dst v,ao h'⟩
    |.panic=>Q .panic ⟨aC env,ao h'⟩)->aN E.P E.G rd Q o (KQ Q) ⟨aC env,ao h⟩:=by
   intro x h' r0 happ hc;obtain⟨x2,h2,hc2,hv2,hK⟩:=Kn hE hI hv happ;have hx:x2=x/\h2=h':=by
    cases r0 with
    |ret v h0=>exact⟨hc2.1.trans hc.1.symm,hc2.2.trans hc.2.symm⟩
    |panic h0=>exact⟨hc2.1.trans hc.1.symm,hc2.2.trans hc.2.symm⟩
    |ev=>exact hc.elim
   obtain⟨rfl,rfl⟩:=hx;refine⟨hv2,fun Q hq=>?_⟩;unfold aN;rw[hop];exact hK _ hq
  split at hrv
  ·rename_i v h' happ;obtain⟨hrd,hrv2⟩:=fA hrv;obtain⟨hv',hq⟩:=key happ (x:=.ret v) (h':=h') ⟨rfl,rfl⟩;obtain⟨env',h1,h2⟩:=jN hrv2;obtain⟨x,e2,h3,h4,h5,h6⟩:=hk _ _ hv' h1;refine⟨x,e2,h3,h4,h5,fun Q hQ=>hq Q ⟨sJ hrd,?_⟩⟩;have:=h6 Q hQ;rw[h2]at this;exact this
  ·rename_i h' happ;obtain⟨hrd,hrv2⟩:=fA hrv;obtain⟨hv',hq⟩:=key happ (x:=.panic) (h':=h') ⟨rfl,rfl⟩;exact⟨.panic,env,h',(Option.some.inj hrv2).symm,hv',fun Q hQ=>hq Q ⟨sJ hrd,hQ⟩⟩
  ·cases hrv
 ·unfold vJ at hrp;split at hrp
  ·rename_i t v heq;refine⟨.panic,env,h,(Option.some.inj hrp).symm,hv,fun Q hq=>?_⟩;unfold aN;rw[hop];exact⟨⟨t,v,heq⟩,hq⟩
  ·cases hrp
def Ao {all:Array Oper}{ρ:Env}{o:Oper}{yes no:R}{r:RR}(hr:nf all ρ o.guard yes no=some r):(dG all ρ o=some true/\yes=some r)\/(dG all ρ o=some false/\no=some r):=by
 unfold nf at hr;unfold dG;cases hg:o.guard with
 |none=>rw[hg]at hr;exact .inl ⟨rfl,hr⟩
 |some jw =>
  obtain⟨j,want⟩:=jw;rw[hg]at hr;have hr2:vM all ρ yes no (j,want)=some r:=hr;unfold vM at hr2;simp only at hr2 ⊢;split at hr2
  ·rename_i d hd;rw[hd];simp only;split at hr2
   ·rename_i b hb;rw[hb];cases hbw:b == want with
    |true=>rw[hbw]at hr2;exact .inl ⟨by show some (b == want)=_;rw[hbw],hr2⟩
    |false=>rw[hbw]at hr2;exact .inr ⟨by show some (b == want)=_;rw[hbw],hr2⟩
   ·rename_i v hnb hb;rw[hb];exact .inr ⟨by cases v<;>first|rfl|exact absurd rfl (hnb _),hr2⟩
   ·cases hr2
  ·rename_i hd;rw[hd];exact .inr ⟨rfl,hr2⟩
def Ap (hE:Ul E)(hI:fL E ih){rd:Option Nat}{all:Array Oper}{r:RR}:∀(l:List Oper) (env:BT Ty) (h:EH),VH h->ng E ih rd all l env h=some r->Rest r (fun Q=>opsV E.P E.G rd Q all l) env h:=by
 intro l
 induction l with
 |nil=>exact fun env h hv hr=>⟨.normal,env,h,(Option.some.inj hr).symm,hv,fun Q hq=>hq⟩
 |cons o l ihl =>
  intro env h hv hr;have hr1:nf all (aC env) o.guard (sk o.op E ih rd o.dst (ng E ih rd all l) env h) (eK env o.dst (.lit undef) fun env=>ng E ih rd all l env h)=some r:=hr;rcases Ao hr1 with ⟨hw,hr2⟩|⟨hw,hr2⟩
  ·obtain⟨x,e2,h2,h3,h4,h5⟩:=Kq hE hI (KQ:=fun Q=>opsV E.P E.G rd Q all l) hv (fun env' h' hv' hk=>ihl env' h' hv' hk) hr2;exact⟨x,e2,h2,h3,h4,fun Q hq=>⟨true,hw,h5 Q hq⟩⟩
  ·obtain⟨env',h1,h2⟩:=jN hr2;obtain⟨x,e2,h2',h3,h4,h5⟩:=ihl env' h hv h1;refine⟨x,e2,h2',h3,h4,fun Q hq=>⟨false,hw,?_⟩⟩;have:=h5 Q hq;rw[h2]at this;exact this
def nu {I:Machine->Prop}{P:Program}{m t m1:Machine}(h:StepsIn I P m t)(hs:step P m=.next m1)(hne:m≠t):StepsIn I P m1 t:=by
 cases h with
 |refl=>exact absurd rfl hne
 |head hI h' h'' =>
  rw[hs]at h';cases h';exact h''
def sK {b b':Frame}{a a':Act}{k k':List Item}{cs cs':List Frame}{w w':World}(h:k≠k'):lone (b.atR a k) cs w≠lone (b'.atR a' k') cs' w':=by
 intro he;simp only[lone,Machine.mk.injEq,Array.mk.injEq,List.cons.injEq,Goroutine.mk.injEq,Frame.atR,Frame.mk.injEq]at he;exact h he.2.1.1.1.2.2.1
def Aq {b b':Frame}{a a':Act}{k k':List Item}{cs cs':List Frame}{w w':World}{u:FrameMode}(h:u≠.run):lone (b.atR a k) cs w≠lone { b'.atR a' k' with mode:=u } cs' w':=by
 intro he;simp only[lone,Machine.mk.injEq,Array.mk.injEq,List.cons.injEq,Goroutine.mk.injEq,Frame.atR,Frame.mk.injEq]at he;exact h he.2.1.1.1.2.2.2.2.1.symm
def Kr {id:Nat}:∀ {k k':List Item},exitTo id k=some k'->k'.length<=k.length:=by
 intro k
 induction k with
 |nil=>intro k' h;cases h
 |cons x k ih =>
  intro k' h;have hle:exitTo id k=some k'->k'.length<=(x :: k).length:=fun h=>Nat.le_succ_of_le (ih h);cases x with
  |inBlock id' =>
   simp only[exitTo]at h;split at h
   ·cases h;simp
   ·exact hle h
  |_=>exact hle h
def W.Ks {P:Program}{G:Nat->Option (List Ty)}{n:Nat}{rd:Option Nat}{c:Code}{Q:AX->St->Prop}{s:St}(hQ:∀l s,¬Q (.goto l) s)(h:W P G n rd c (gv (W P G n rd (.loop c) Q) Q) s):W P G n rd (.loop c) Q s:=by
 intro wb Γ a w rb hs hr b k cs hro hb hrm;have h0:(lone (b.atR a (.code (.loop c) :: k)) cs w).fenced P (cX rb):=fenced_calm hb hrm rfl;obtain⟨e,a₁,w₁,⟨x,s₁,Γ₁,hx,hq,hs₁,E₁,hn₁,hr₁,hf₁⟩,harr⟩:=h wb Γ a w rb hs hr b (.inLoop c :: k) cs hro hb hrm;cases e with
 |normal =>
  cases x with
  |normal =>
   obtain⟨e,a₂,w₂,hp,harr₂⟩:=hq wb Γ₁ a₁ w₁ rb hs₁ hr₁ b k cs hro hb hrm;have hp':=hp.step E₁ hn₁ hf₁ fun t ht=>ht;refine⟨e,a₂,w₂,hp',?_⟩;have start:StepsIn (Machine.fenced P (cX rb)) P (lone (b.atR a (.code (.loop c) :: k)) cs w) (lone (b.atR a₁ (.code c :: .inLoop c :: k)) cs w₁) :=
    .head h0 stepR_loop (StepsIn.trans harr (.one (fenced_calm hb hrm rfl) stepR_inLoop))
   obtain⟨y,s₂,Γ₂,hy,hq₂,_⟩:=hp;have hl:∀(k':List Item),k'.length<=k.length->Item.code (.loop c) :: k≠k':=fun k' hk' he=>by subst he;simp only[List.length_cons]at hk';omega
   cases e with
   |normal=>exact start.trans (nu harr₂ stepR_loop (sK (hl _ Tx)))
   |exit id =>
    refine⟨fun k' hk'=>start.trans (nu (harr₂.1 k' hk') stepR_loop (sK (hl _ (Kr hk')))),fun hr2 hk'=>?_⟩;obtain⟨k₁,h1,h2⟩:=harr₂.2 hr2 hk';exact⟨k₁,h1,start.trans (nu h2 stepR_loop (sK (k':=.code (.exit id) :: k₁) (fun he=>by cases he)))⟩
   |goto l=>cases y with
    |goto l'=>exact absurd hq₂ (hQ _ _)
    |_=>exact hy.elim
   |ret =>
    refine⟨fun hr2=>?_,fun hr2=>?_⟩
    ·obtain⟨todo,h1⟩:=harr₂.1 hr2;exact⟨todo,start.trans (nu h1 stepR_loop (Aq (fun he=>by cases he)))⟩
    ·obtain⟨k₁,h1⟩:=harr₂.2 hr2;exact⟨k₁,start.trans (nu h1 stepR_loop (sK (k':=.code .ret :: k₁) (fun he=>by cases he)))⟩
   |panic ch =>
    obtain⟨todo,h1⟩:=harr₂;exact⟨todo,start.trans (nu h1 stepR_loop (Aq (fun he=>by cases he)))⟩
   |outgrown=>cases y<;>exact hy.elim
  |_=>exact hx.elim
 |exit id=>cases x with
  |exit j=>exact⟨_,a₁,w₁,⟨.exit j,s₁,Γ₁,hx,hq,hs₁,E₁,hn₁,hr₁,hf₁⟩,.of_steps (.one h0 stepR_loop) (.pass (x:=.inLoop c) rfl (fun _ _=>.inl Tu) harr)⟩
  |_=>exact hx.elim
 |goto id=>cases x with
  |goto j=>exact⟨_,a₁,w₁,⟨.goto j,s₁,Γ₁,hx,hq,hs₁,E₁,hn₁,hr₁,hf₁⟩,.of_steps (.one h0 stepR_loop) (.pass (x:=.inLoop c) rfl (fun _ _=>.inl Tu) harr)⟩
  |_=>exact hx.elim
 |ret=>cases x with
  |ret=>exact⟨_,a₁,w₁,⟨.ret,s₁,Γ₁,hx,hq,hs₁,E₁,hn₁,hr₁,hf₁⟩,.of_steps (.one h0 stepR_loop) (.pass (x:=.inLoop c) rfl (fun _ _=>.inl Tu) harr)⟩
  |_=>exact hx.elim
 |panic ch=>cases x with
  |panic=>exact⟨_,a₁,w₁,⟨.panic,s₁,Γ₁,hx,hq,hs₁,E₁,hn₁,hr₁,hf₁⟩,.of_steps (.one h0 stepR_loop) (.pass (x:=.inLoop c) rfl (fun _ _=>.inl Tu) harr)⟩
  |_=>exact hx.elim
 |outgrown=>cases x<;>exact hx.elim
def Ar {b:Nat}{f:FP}{acc:List (Nat × FP)}(h:vO b f acc=true):eY b f acc:=by
 intro p hp hb;have:=Qt.1 h p hp;rw[hb,Te,Qj,Qt,Qt]at this;refine⟨fun r hr hr2=>?_,fun r hr hr2=>?_⟩
 ·have:=this.1 r hr;simp[hr2]at this
 ·have:=this.2 r hr;simp[hr2]at this
def iW.Kt {P:Program}{G:Nat->Option (List Ty)}{fv:Ty}{args:List Ty}{H:Tz}{v:Ty}{rs:List Nat}(h1:∀r,r∈rs->r<H.C)
  (h2:∀H2:Tz,(∀r,r∈rs->H2.get r=H.get r)->aE P G fv args H2 fun r H3=>r=.ret v/\H3=H2):Ev.iW P G fv args H v (fun _=>none) 0 ⟨[],rs⟩ :=
 ⟨h1,fun r (hr:false=true)=>absurd hr Tv,fun c hc=>absurd hc (Qf _),fun H2 ha _ _=>h2 H2 ha⟩
def nA (E:EP)(fv:Ty)(args:List Ty)(h:EH)(k:Ty->FP->EH->R)(r:RR):Prop :=
 ∃v e n fp h2,k v fp h2=some r/\VH h2/\ao h2=⟨Ev.bP e (ao h).get,(ao h).C+n⟩/\Ev.iW E.P E.G fv args (ao h) v e n fp
def nA.pure {fv:Ty}{args:List Ty}{h:EH}{k:Ty->FP->EH->R}{r:RR}{v:Ty}{rs:List Nat}(hv:VH h)(hk:k v ⟨[],rs⟩ h=some r)(h1:∀r,r∈rs->r<(ao h).C)
  (h2:∀H2:Tz,(∀r,r∈rs->H2.get r=(ao h).get r)->aE E.P E.G fv args H2 fun r H3=>r=.ret v/\H3=H2):nA E fv args h k r :=
 ⟨v,_,0,_,h,hk,hv,rfl,iW.Kt h1 h2⟩
def As {l:List Nat}{n:Nat}(h:(l.all fun r=>Nat.blt r n)=true):∀r,r∈l->r<n:=fun r hr=>by
 have:=Qt.1 h r hr;rw[SO]at this;exact this
def wg (hE:Ul E)(hI:fL E ih){f:FuncId}{first cap args:List Ty}{h:EH}{k:Ty->FP->EH->R}{r:RR}(hv:VH h)(hr:ss E ih f (first++args++cap) h k=some r):nA E (.nl f first cap) args h k r:=by
 obtain⟨kp,hr1,hinv⟩:=kS (fun v acc k r=>KD 40 v acc k r) hr;have hgood:∀id,id∈kp->nD h 0 [] kp id:=fun id hid=>(hinv.2 id hid).resolve_left (List.not_mem_nil);have hkn:∀id,id∈kp->id<h.nx:=fun id hid=>let ⟨_,g,e,c,hg,_⟩:=hgood id hid;hv id _ hg
 unfold zL at hr1;split at hr1
 ·rename_i p hp;obtain⟨hfz,hr2⟩:=fA hr1;obtain⟨hp1,hr3,hget⟩:=KG hr2;have hvs:VH ⟨hp1,h.nx⟩:=by
   intro id b hb;have hb':aW hp1 id=some b:=hb;rw[hget]at hb';split at hb'
   ·exact hv id b hb'
   ·cases hb'
  unfold zK at hr3;split at hr3
  ·rename_i v h' hc;obtain⟨x,h2,hcr,hv2,hK⟩:=kP hI hvs hc;obtain⟨rfl,rfl⟩:=hcr;unfold zJ at hr3;split at hr3
   ·rename_i lv hle hsame hlv;obtain⟨hi2,hcl⟩:=Ax 40 v [] lv hlv;have hgl:∀id,id∈lv->nD h2 h.nx kp lv id:=fun id hid=>(hi2.2 id hid).resolve_left (List.not_mem_nil);have hln:∀id,id∈lv->id<h2.nx:=fun id hid=>let ⟨_,g,e,c,hg,_⟩:=hgl id hid;hv2 id _ hg
    have hle':h.nx<=h2.nx:=Ru hle;obtain⟨t',hr4,hnew⟩:=KK hr3;rw[ga]at hr4;have hKin:∀id,gJ h.nx kp lv id->(id∈kp\/(h.nx<=id/\id<h2.nx/\dX lv id=true)):=by
     rintro id (⟨h1,h3⟩|⟨h1,h3⟩)
     ·exact .inl h3
     ·exact .inr ⟨U,hln id h3,jh.2 h3⟩
    obtain⟨hm1,hm2⟩:=lK hp;have hE1:=Ev.iW.mk (P:=E.P) (G:=E.G) (f:=f) (first:=first) (cap:=cap) (args:=args) (args':=p.1) (v:=v) (H:=ao h) (ao ⟨hp1,h.nx⟩) (ao h2) (fun id=>id∈kp) (dX lv) (kp++p.2) hE.gok
     (fun r hr=>by
      rcases Qe.1 hr with hr|hr
      ·exact hkn r hr
      ·exact As hfz r hr)
     rfl hle'
     (fun id hid=>by
      obtain⟨_,g,e,c,hg,hcc⟩:=hgood id hid;refine⟨RA _ hid,?_,?_,g,e,c,kO hg,fun i hi=>(hcc i hi).mono fun j hj=>hj.elim (fun h=>absurd h.1 (Qf _)) fun h=>h.2⟩
      ·show Option.map _ (aW hp1 id)=Option.map _ (aW h.hp id);rw[hget,PZ hid]
      ·show Option.map _ (aW h2.hp id)=Option.map _ (aW h.hp id);rw[<- KJ (KC hsame id hid)])
     (fun id hid=>by
      show Option.map _ (aW hp1 id)=none;rw[hget,PX hid];rfl)
     hm1
     (fun H2 ha i hi hi'=>by
      obtain⟨ri,h3,h4⟩:=hm2 i hi hi';exact KE hkn 40 h3 H2 fun r hr=>ha r (Rh _ (h4 r hr)))
     (hK _ ⟨rfl,rfl⟩)
     (hcl.mono hKin)
     (fun id h1 h3 h4=>by
      obtain⟨_,g,e,c,hg,hcc⟩:=hgl id (jh.1 h4);exact⟨g,e,c,kO hg,fun i hi=>(hcc i hi).mono hKin⟩)
    refine⟨v,_,_,_,⟨t',h2.nx⟩,hr4,?_,?_,hE1⟩
    ·intro id b hb;have hb':aW t' id=some b:=hb;rw[hnew]at hb';show id<h2.nx;split at hb'
     ·rename_i hc;have:Nat.sub h2.nx h.nx=h2.nx-h.nx:=rfl;rw[this]at hc;omega
     ·have:=hv id b hb';omega
    ·have hget2:(ao ⟨t',h2.nx⟩).get=Ev.bP (Ev.eo (ao h).C (ao h2).C (dX lv) (ao h2).get) (ao h).get:=by
      funext m
      show Option.map TK.jb (aW t' m)=_;rw[hnew];have hsub:h.nx+Nat.sub h2.nx h.nx=h2.nx:=by
       have:Nat.sub h2.nx h.nx=h2.nx-h.nx:=rfl;omega
      rw[hsub];unfold Ev.bP Ev.eo;by_cases hc:h.nx<=m/\m<h2.nx
      ·rw[PZ hc,PZ (show (ao h).C<=m/\m<(ao h2).C from hc)];by_cases hm:dX lv m=true
       ·obtain⟨_,g,e,c,hg,hcc⟩:=hgl m (jh.1 hm);rw[PZ hm,PZ hm,kO hg,hg];rfl
       ·rw[PX hm,PX hm];rfl
      ·rw[PX hc,PX (show ¬((ao h).C<=m/\m<(ao h2).C) from hc)];rfl
     have hnx:(ao ⟨t',h2.nx⟩).C=(ao h).C+((ao h2).C-(ao h).C):=by
      show h2.nx=h.nx+(h2.nx-h.nx)
      omega
     calc ao ⟨t',h2.nx⟩=⟨(ao ⟨t',h2.nx⟩).get,(ao ⟨t',h2.nx⟩).C⟩:=rfl
      _=_:=by rw[hget2,hnx]
   ·cases hr3
  ·cases hr3
 ·cases hr1
def Ku (hE:Ul E)(hI:fL E ih){fv:Ty}{args:List Ty}{h:EH}{k:Ty->FP->EH->R}{r:RR}(hv:VH h)(hr:vQ E ih fv args h k=some r):nA E fv args h k r:=by
 unfold vQ at hr;split at hr
 ·rename_i f first cap
  split at hr
  ·unfold zQ at hr;split at hr
   ·cases hr
   ·rw[gH]at hr;split at hr
    ·exact wg hE hI hv hr
    ·rename_i l hl;unfold zM at hr;split at hr
     ·exact wg hE hI hv hr
     ·rename_i p hm;split at hr
      ·rename_i v hf;obtain⟨hlt,hr2⟩:=fA hr;exact nA.pure hv hr2 (As hlt) fun H2 ha=>aE.nl (An hE hm (hE.known f l hl p.1 v (Ak hf)) H2 ha)
      ·exact wg hE hI hv hr
  ·rename_i e he;unfold zI at hr;split at hr
   ·rename_i hfc;obtain⟨rfl,rfl⟩:=Tf.1 hfc;rw[gH]at hr;split at hr
    ·rename_i v hv2;exact nA.pure hv hr (fun r hr=>by cases hr) fun H2 _=>hE.ext f e he _ _ hv2 _ _ ⟨rfl,rfl⟩
    ·cases hr
   ·cases hr
 ·cases hr
def Kv (hE:Ul E)(hI:fL E ih){o:Oper}{b i:Nat}{acc:List (Nat × FP)}{k:ni}{env:BT Ty}{h:EH}{r:RR}{KQ:(AX->St->Prop)->List (Nat × FP)->St->Prop}(hv:VH h)
  (hk:∀acc env' h',VH h'->k acc env' h'=some r->Rest r (fun Q=>KQ Q acc) env' h') (hr:sy E ih o b i acc k env h=some r):
  Rest r (fun Q s=>Ev.bA E.P E.G o (fun f s'=>eY b f acc/\KQ Q (dU i f acc) s') s) env h:=by
 have gen:∀ {op:Op},o.op=op->su o.dst b i acc k env (bn E.P E.G (aC env) h.nx op) (lH E env h op) h=some r->(∀fv args ats,op≠.call ⟨.value fv,args,ats⟩) ->
   Rest r (fun Q s=>Ev.bA E.P E.G o (fun f s'=>eY b f acc/\KQ Q (dU i f acc) s') s) env h:=by
  intro op hop hd hne;unfold su at hd;obtain⟨hap,hd2⟩:=fA hd;obtain⟨v,h',h1,h2,h3⟩:=Aa hv (sI hv).1 hd2;obtain⟨env',h4,h5⟩:=jN h3;obtain⟨x,e2,h6,h7,h8,h9⟩:=hk _ _ _ h2 h4;refine⟨x,e2,h6,h7,h8,fun Q hq=>?_⟩;have hopA:=(sI hv).2 _ _ h1;have hq2:=h9 Q hq;rw[h5]at hq2;unfold Ev.bA;split
  ·rename_i hop2;exact absurd (hop.symm.trans hop2) (hne _ _ _)
  ·refine⟨(v,ao h'),by rw[hop];exact hopA,?_⟩;rw[hop];exact⟨Ar hap,hq2⟩
 unfold sy at hr;split at hr
 ·rename_i c hop;split at hr
  ·rename_i fv hc;rw[nr,cw]at hr;obtain⟨v,e,n,fp,h2,hr2,hv2,hH,hec⟩:=Ku hE hI hv hr;unfold zR at hr2;obtain⟨hap,hd2⟩:=fA hr2;rw[nk]at hd2;obtain⟨env',h4,h5⟩:=jN hd2;obtain⟨x,e2,h6,h7,h8,h9⟩:=hk _ _ _ hv2 h4;refine⟨x,e2,h6,h7,h8,fun Q hq=>?_⟩;have hq2:=h9 Q hq;rw[h5,hH]at hq2;obtain⟨callee,args,ats⟩:=c;simp only at hc;subst hc;unfold Ev.bA;rw[hop];exact⟨v,e,n,fp,hec,Ar hap,hq2⟩
  ·rename_i hne;refine gen hop hr fun fv args ats he=>?_;have he2:c=⟨.value fv,args,ats⟩:=Op.call.inj he;exact hne fv (by rw[he2])
 ·cases hr
 ·rename_i op hne1 hne2;exact gen rfl hr fun fv args ats he=>hne1 _ he
def Kw (hE:Ul E)(hI:fL E ih){all:Array Oper}{tail:BT Ty->EH->R}{r:RR}{TQ:(AX->St->Prop)->St->Prop}(ht:∀env h,VH h->tail env h=some r->Rest r TQ env h):
  ∀(l:List Oper) (bs:List Nat) (i:Nat) (acc:List (Nat × FP)) (env:BT Ty) (h:EH),VH h->sA E ih all tail l bs i acc env h=some r->Rest r (fun Q=>Ev.cD E.P E.G all (TQ Q) bs i acc l) env h:=by
 intro l
 induction l with
 |nil =>
  intro bs i acc env h hv hr;obtain⟨x,e2,h2,h3,h4,h5⟩:=ht env h hv hr;exact⟨x,e2,h2,h3,h4,fun Q hq=>by cases bs<;>exact h5 Q hq⟩
 |cons o l ihl =>
  intro bs i acc env h hv hr;cases bs with
  |nil=>cases hr
  |cons b bs =>
   have hr1:nf all (aC env) o.guard (sy E ih o b i acc (sA E ih all tail l bs (i+1)) env h) (eK env o.dst (.lit undef) fun env=>sA E ih all tail l bs (i+1) acc env h)=some r:=hr;rcases Ao hr1 with ⟨hw,hr2⟩|⟨hw,hr2⟩
   ·obtain⟨x,e2,h2,h3,h4,h5⟩:=Kv hE hI (KQ:=fun Q acc=>Ev.cD E.P E.G all (TQ Q) bs (i+1) acc l) hv (fun acc env' h' hv' hk=>ihl bs (i+1) acc env' h' hv' hk) hr2;exact⟨x,e2,h2,h3,h4,fun Q hq=>⟨true,hw,h5 Q hq⟩⟩
   ·obtain⟨env',h1,h2⟩:=jN hr2;obtain⟨x,e2,h2',h3,h4,h5⟩:=ihl bs (i+1) acc env' h hv h1;refine⟨x,e2,h2',h3,h4,fun Q hq=>⟨false,hw,?_⟩⟩;have:=h5 Q hq;rw[h2]at this;exact this
def At {r0:R}{r:RR}(h:nj r0=some r):r0=some r/\∀l e h,r≠.ev (.goto l) e h:=by
 unfold nj at h;split at h
 ·cases h
 ·rename_i hne;subst h;exact⟨rfl,fun l e h he=>hne l e h (by rw[he])⟩
def Kx (hE:Ul E)(hI:fL E ih):fL E (zU E ih):=by
 intro rd n c env h r hr hv hf;have seqK:∀(a:Code) (b:Code),fits n a=true->fits n b=true->pF ih rd n b (ih rd n a env h)=some r ->
   ∃x env' h',r=.ev x env' h'/\VH h'/\∀Q:AX->St->Prop,Q x ⟨aC env',ao h'⟩->W E.P E.G n rd a (gv (W E.P E.G n rd b Q) Q) ⟨aC env,ao h⟩:=by
  intro a b hfa hfb hs;unfold pF at hs;split at hs
  ·rename_i e1 h1 hi;obtain⟨x,e2,h2,h3,h4,h5⟩:=hI _ _ _ _ _ _ hi hv hfa;cases h3;obtain⟨x',e',h',h6,h7,h8⟩:=hI _ _ _ _ _ _ hs h4 hfb;exact⟨x',e',h',h6,h7,fun Q hq=>h5 _ (h8 Q hq)⟩
  ·rename_i r0 hne;obtain⟨x,e2,h2,h3,h4,h5⟩:=hI _ _ _ _ _ _ hs hv hfa;subst h3;refine⟨x,e2,h2,rfl,h4,fun Q hq=>h5 _ ?_⟩;cases x with
   |normal=>exact absurd hs (hne _ _)
   |_=>exact hq
 cases c with
 |skip=>exact⟨.normal,env,h,(Option.some.inj hr).symm,hv,fun Q hq=>.skip hq⟩
 |label l=>exact⟨.normal,env,h,(Option.some.inj hr).symm,hv,fun Q hq=>.label hq⟩
 |exit i=>exact⟨.exit i,env,h,(Option.some.inj hr).symm,hv,fun Q hq=>.exit hq⟩
 |ret=>exact⟨.ret,env,h,(Option.some.inj hr).symm,hv,fun Q hq=>.ret hq⟩
 |goto l=>cases hr
 |refuse w=>cases hr
 |region id ops dr =>
  have hr1:Bool.rec (motive:=fun _=>R) (ng E ih rd ops ops.toList env h) (sB E ih rd ops (kJ ops.toList []) (pE (kJ ops.toList []) ops.toList.length) env h) dr=some r:=hr;cases dr with
  |false =>
   obtain⟨x,e2,h2,h3,h4,h5⟩:=Ap hE hI ops.toList env h hv hr1;exact⟨x,e2,h2,h3,h4,fun Q hq=>.region hf (h5 Q hq)⟩
  |true =>
   have hr2:sB E ih rd ops (kJ ops.toList []) (pE (kJ ops.toList []) ops.toList.length) env h=some r:=hr1;unfold sB at hr2;obtain⟨hok,hr3⟩:=fA hr2;obtain⟨x,e2,h2,h3,h4,h5⟩:=Kw hE hI (TQ:=fun Q=>opsV E.P E.G rd Q ops (ops.toList.drop (pE (kJ ops.toList []) ops.toList.length))) (fun env h hv hr=>Ap hE hI _ env h hv hr) _ _ _ _ env h hv hr3;exact⟨x,e2,h2,h3,h4,fun Q hq=>Ev.W.xP _ _ hE.mixed hf hok (h5 Q hq)⟩
 |seq a b =>
  simp only[fits,Qj]at hf;obtain⟨x,e2,h2,h3,h4,h5⟩:=seqK a b hf.1 hf.2 hr;exact⟨x,e2,h2,h3,h4,fun Q hq=>.seq (h5 Q hq)⟩
 |cond x a b =>
  simp only[fits,Qj]at hf;have hr1:vS (aj E.G (aC env) x) (ih rd n a env h) (ih rd n b env h)=some r:=hr;unfold vS at hr1;split at hr1
  ·rename_i t ht;cases t with
   |true =>
    obtain⟨y,e2,h2,h3,h4,h5⟩:=hI _ _ _ _ _ _ hr1 hv hf.1;exact⟨y,e2,h2,h3,h4,fun Q hq=>.cond ht (h5 Q hq)⟩
   |false =>
    obtain⟨y,e2,h2,h3,h4,h5⟩:=hI _ _ _ _ _ _ hr1 hv hf.2;exact⟨y,e2,h2,h3,h4,fun Q hq=>.cond ht (h5 Q hq)⟩
  ·cases hr1
 |block id b =>
  have hr1:vR id (ih rd n b env h)=some r:=hr;unfold vR at hr1;split at hr1
  ·rename_i i e1 h1 hi;obtain⟨x,e2,h2,h3,h4,h5⟩:=hI _ _ _ _ _ _ hi hv hf;cases h3;cases hb:Nat.beq i id with
   |true =>
    rw[hb]at hr1;have:=Qg hb;refine⟨.normal,e1,h1,(Option.some.inj hr1).symm,h4,fun Q hq=>.block (h5 _ ?_)⟩;show (if i=id then Q .normal _ else Q (.exit i) _);rw[PZ this];exact hq
   |false =>
    rw[hb]at hr1;have:¬i=id:=fun h=>by rw[h]at hb;rw[show Nat.beq id id=true from RO _]at hb;cases hb
    refine⟨.exit i,e1,h1,(Option.some.inj hr1).symm,h4,fun Q hq=>.block (h5 _ ?_)⟩;show (if i=id then Q .normal _ else Q (.exit i) _);rw[PX this];exact hq
  ·rename_i r0 hne;obtain⟨x,e2,h2,h3,h4,h5⟩:=hI _ _ _ _ _ _ hr1 hv hf;subst h3;refine⟨x,e2,h2,rfl,h4,fun Q hq=>.block (h5 _ ?_)⟩;cases x with
   |exit i=>exact absurd hr1 (hne _ _ _)
   |_=>exact hq
 |loop b =>
  have hr1:nj (pF ih rd n (.loop b) (ih rd n b env h))=some r:=hr;obtain⟨hr2,hng⟩:=At hr1;obtain⟨x,e2,h2,h3,h4,h5⟩:=seqK b (.loop b) hf hf hr2;refine⟨x,e2,h2,h3,h4,fun Q hq=>(W.Ks (Q:=fun y t=>y=x/\t=⟨aC e2,ao h2⟩) (fun l s hx=>?_) (h5 _ ⟨rfl,rfl⟩)).mono fun y t ht=>by rw[ht.1,ht.2];exact hq⟩;subst h3;rw[<- hx.1]at hng;exact hng _ _ _ rfl
 |scope b =>
  have hr1:nj (ih rd n b env h)=some r:=hr;obtain⟨hr2,hng⟩:=At hr1;obtain⟨x,e2,h2,h3,h4,h5⟩:=hI _ _ _ _ _ _ hr2 hv hf;subst h3;refine⟨x,e2,h2,rfl,h4,fun Q hq=>.scope (h5 _ ?_)⟩;cases x with
  |goto i=>exact absurd rfl (hng _ _ _)
  |_=>exact hq
 |rangeFunc f ps asg body =>
  have hr1:vT E ih rd n env h ps asg body (aj E.G (aC env) f)=some r:=hr;unfold vT at hr1;split at hr1
  ·rename_i g first cap hg
   obtain⟨hp1,hr2,hs1⟩:=kL _ _ _ _ _ hr1;rw[gH]at hr2;have hv1:VH ⟨hp1,h.nx+1⟩:=by
    intro j b hj;rw[hs1]at hj;show j<h.nx+1;split at hj
    ·omega
    ·have:=hv _ _ hj;omega
   have hlay:(ao h).lay (ao h).C (.loop .ready none n (aC env) ps asg body)=some (ao ⟨hp1,h.nx+1⟩):=by
    rw[sF (nx:=h.nx+1) hs1];unfold Tz.lay;rw[PZ rfl];rfl
   have rule:∀Q:AX->St->Prop,af E.P E.G g (first++[.ng h.nx]++cap) (ao ⟨hp1,h.nx+1⟩) (uX rd Q (aC env) h.nx)->W E.P E.G n rd (.rangeFunc f ps asg body) Q ⟨aC env,ao h⟩ :=
    fun Q hq=>W.rangeFunc hg ⟨_,hlay,hq⟩
   unfold zS at hr2;split at hr2
   ·rename_i v h2 hc;obtain⟨x,h3,hcr,hv3,hK⟩:=kP hI hv1 hc;obtain⟨rfl,rfl⟩:=hcr;obtain⟨hrd,hr3⟩:=fA hr2;split at hr3
    ·cases hr3
    ·rename_i st pend n2 env2 ps2 asg2 body2 hne hg3;obtain⟨hp3,hr4,hs3⟩:=kL _ _ _ _ _ hr3;have hup:=we (h:=h3) hs3;have hv4:=hv3.set hs3 (hv3 _ _ hg3);have hend:oY ((ao h3).get h.nx)=some (pend,.loop .exhausted pend n2 (aC env2) ps2 asg2 body2):=by
      rw[pI hg3];unfold oY;cases st with
      |busy=>exact(hne rfl).elim
      |_=>rfl
     have fin:∀x:AX,(∀Q:AX->St->Prop,Q x ⟨aC env,ao ⟨hp3,h3.nx⟩⟩->zk Q ⟨aC env,ao ⟨hp3,h3.nx⟩⟩ pend)->r=.ev x env ⟨hp3,h3.nx⟩ ->
       ∃x env' h',r=.ev x env' h'/\VH h'/\∀Q:AX->St->Prop,Q x ⟨aC env',ao h'⟩->W E.P E.G n rd (.rangeFunc f ps asg body) Q ⟨aC env,ao h⟩:=by
      intro x hx he;refine⟨x,env,_,he,hv4,fun Q hq=>rule Q (hK _ ⟨sJ hrd,_,hend,?_⟩)⟩;have:=hx Q hq;rw[hup]at this;exact this
     unfold endLoop at hr4;split at hr4
     ·exact fin .normal (fun Q hq=>hq) (Option.some.inj hr4).symm
     ·exact fin .ret (fun Q hq=>hq) (Option.some.inj hr4).symm
     ·rename_i i;exact fin (.exit i) (fun Q hq=>hq) (Option.some.inj hr4).symm
     ·cases hr4
    ·cases hr3
   ·rename_i h2 hc;obtain⟨x,h3,hcr,hv3,hK⟩:=kP hI hv1 hc;obtain⟨rfl,rfl⟩:=hcr;obtain⟨hrd,hr3⟩:=fA hr2;exact⟨.panic,env,h3,(Option.some.inj hr3).symm,hv3,fun Q hq=>rule Q (hK _ ⟨sJ hrd,hq⟩)⟩
   ·cases hr2
  ·cases hr1
def Ky (hE:Ul E):∀fuel,fL E (zV E fuel):=by
 intro fuel
 induction fuel with
 |zero=>intro rd n c env h r hr;cases hr
 |succ f ih=>exact Kx hE ih
def Kz (hE:Ul E){fuel:Nat}{f:FuncId}{args:List Ty}{v:Ty}(h:zW E fuel f args=some v):af E.P E.G f args cj fun r H'=>∃u,r=.ret u/\TP H' u v :=
 Kk (Ky hE fuel) h
end
end Go.Hx
namespace Go.Hx
open Go.ChangeShapes Go.WideShapes Go.RowKit
variable {P:Program} {G:Nat->Option (List Ty)}
variable {sp:Nat->Bool}{H:Type}{enc:TypeId × Value->H}
def gm:ar:=fun _=>none
def tV (P:Program)(G:Nat->Option (List Ty))(W:World):Prop:=∀g cells,G g=some cells->TB P gm cj W (.nc cells 0) (.pointer (some ⟨g,0,none⟩))/\∃c e f,W.heap[g]?=some (.cells c e f)/\c.size=cells.length
def Dc {W:World}(hg:tV P G W):TG P G gm cj W where
 L _ _ _ _ h:=by cases h
 loop _ _ _ _ _ _ _ _ h:=by cases h
 mp _ _ h:=by cases h
 ni _ h:=by cases h
 inj _ _ _ _ _ _ _ h:=by cases h
 nt _ _ h:=by cases h
 lt _ _ _ _ h:=by cases h
 C _ _ h:=by cases h
 nr g cells h:=(hg g cells h).1
 gsz g cells h:=(hg g cells h).2
def xK (b:Nat):¬gm.c9 b:=fun ⟨_,_,_,h⟩=>by cases h
def Dd {f:FuncId}{args:List Ty}{cargs:Array Value}{W:World}(hA:af P G f args cj fun r H'=>∃u,r=.ret u/\TP H' u (.lit (.bool true)))(hg:tV P G W)(hr:cG P gm cj W args cargs):
  Calls P f cargs W fun e W'=>e=.returned (.bool true)/\RowKit.Below W.heap.size W W'/\∀a,a.block<W.heap.size->W'.frozen? a=W.frozen? a:=by
 refine callsIn_wide.1 ((hA.2 gm W cargs (Dc hg) hr).mono ?_);rintro e W' ⟨r,H',Γ',hend,⟨u,rfl,hf⟩,_,E,_⟩;cases e with
 |returned cv =>
  have hu:u=.lit (.bool true):=by cases hf;rfl
  subst hu;cases hend;exact⟨rfl,⟨E.os,E.tape,E.output,E.size,fun k hk=>(E.na k hk (xK k)).1⟩,E.np⟩
 |panicked=>exact hend.elim
 |outgrown=>exact hend.elim
def De {W W':World}(hb:RowKit.Below W.heap.size W W')(may:MemPlace->Prop):W.keptBut W' may:=by
 refine⟨hb.os,hb.output,fun i hi=>?_⟩;rw[hb.block i hi];cases h:W.heap[i]? with
 |none=>rfl
 |some o=>cases o<;>first|exact rfl|exact⟨rfl,rfl,rfl,fun _ _=>rfl⟩|exact .inr ⟨rfl,rfl⟩
def Df (hl:laidOutB P=true){W W':World}(hb:RowKit.Below W.heap.size W W'):∀ {ts:List TypeId} {vs:List Value} {ds:List (DataW H)} {ps:List MemPlace},
  ts.all (fun t=>P.readableRec t && decide (t<P.types.size))=true->DataW.TrodAll enc P W 0 (fun _=>true) true ts vs ds ps->(∀x∈ps,x.block<W.heap.size)->(∀x∈ps,sp x.block=true)->DataW.TrodAll enc P W' 0 sp true ts vs ds ps:=by
 intro ts
 induction ts with
 |nil =>
  intro vs ds ps _ h _ _;cases vs<;>cases ds<;>first|exact h|exact h.elim
 |cons t ts ih =>
  intro vs ds ps hok h hlt hsp;simp only[List.all_cons,Qj,decide_eq_true_eq]at hok;cases vs with
  |nil=>cases ds<;>exact h.elim
  |cons v vs=>cases ds with
   |nil=>exact h.elim
   |cons d ds =>
    obtain⟨p,q,h1,h2,rfl⟩:=h;refine⟨p,q,?_,ih hok.2 h2 (fun x hx=>hlt x (by simp[hx])) (fun x hx=>hsp x (by simp[hx])),rfl⟩;exact WideElems.Trod_stays hl hok.1.1 hok.1.2 h1 (fun x hx=>hb.same (hlt x (by simp[hx]))) (fun x hx=>hsp x (by simp[hx]))
def Dg {W:World}{base:Nat}{held:Bool}:∀ {ts:List TypeId} {vs:List Value} {ds:List (DataW H)} {ps:List MemPlace},
  DataW.TrodAll enc P W base sp held ts vs ds ps->vs.length=ts.length/\ds.length=ts.length:=by
 intro ts
 induction ts with
 |nil =>
  intro vs ds ps h;cases vs<;>cases ds<;>first|exact⟨rfl,rfl⟩|exact h.elim
 |cons t ts ih =>
  intro vs ds ps h;cases vs with
  |nil=>cases ds<;>exact h.elim
  |cons v vs=>cases ds with
   |nil=>exact h.elim
   |cons d ds =>
    obtain⟨p,q,_,h2,_⟩:=h;obtain⟨h3,h4⟩:=ih h2;exact⟨by simp[h3],by simp[h4]⟩
def Dh {f:Func}{s:ChangeSpec}{apart fresh handsOn again:Bool}{W W':World}{args:Array Value}{ds gs:List (DataW H)}{before:List MemPlace}{t:TypeId}
  (hl:laidOutB P=true) (hok:f.params.toList.all (fun t=>P.readableRec t && decide (t<P.types.size))=true) (hvars:s.vars=[]) (hrt:f.resultTypes=#[t]) (ht:P.underlying t=some .bool)
  (hs:∀ds:List (DataW H),ds.length=f.params.toList.length->s.fn H (ds++[])={ results:=[.lit (.bool true)],args:=ds })
  (hW:DataW.Whole enc P f.params.toList s.vars apart W args.toList ds gs before) (hb:RowKit.Below W.heap.size W W') (hfz:∀a,a.block<W.heap.size->W'.frozen? a=W.frozen? a):s.post enc P f apart fresh handsOn again W args (.bool true) W':=by
 have hW':=hW;obtain⟨p,q,hA,hV,rfl,hz,hn⟩:=hW;have hgs:gs=[]/\q=[]:=by
  rw[hvars]at hV;cases gs with
  |nil=>exact⟨rfl,hV⟩
  |cons=>exact hV.elim
 obtain⟨rfl,rfl⟩:=hgs;have hfn:=hs ds (Dg hA).2;have hlt:∀x∈p,x.block<W.heap.size:=fun x hx=>by simpa using hW'.lt x (by simp[hx])
 have hres:∀(b:Nat) (sp:Nat->Bool) (hd:Bool),DataW.TrodAll enc P W' b sp hd f.resultTypes.toList ((Value.bool true).resultList f.resultTypes.size) (s.fn H (ds++[])).results []:=fun b sp hd=>by
  rw[hfn,hrt];exact trodAll_mk1 (shut_bool ht true)
 have hargs:∀sp:Nat->Bool,(∀x∈p,sp x.block=true)->DataW.TrodAll enc P W' 0 sp true f.params.toList args.toList (s.fn H (ds++[])).args p:=fun sp hsp=>by
  rw[hfn];exact Df hl hb hok hA hlt hsp
 have hva:∀sp:Nat->Bool,DataW.TrodVars enc P W' sp s.vars (s.fn H (ds++[])).vars []:=fun sp=>by
  rw[hfn,hvars];exact rfl
 have hpp:p++[]=p:=List.append_nil p;have hold:∀x∈p,(fun b=>decide (b<W.heap.size)) x.block=true:=fun x hx=>by simpa using hlt x hx
 rw[hpp]at hW' hz hn;refine⟨ds,[],p,[],p,[],hW',hres _ _ _,hargs _ hold,hva _,World.keptBut_mono (fun x hx=>⟨hx,.inr (.inl hx)⟩) (De hb _),fun _=>⟨ok_one hrt rfl (okWide_bool_mk ht true),(s.fn H (ds++[])).results++(s.fn H (ds++[])).args,(s.fn H (ds++[])).vars,p,?_,fun x hx _=>hx⟩⟩;have hall:=trodAll_append (hargs (fun _=>true) fun _ _=>rfl) (hres 0 (fun _=>true) true);refine⟨p,[],by simpa using hall,hva _,Tu,fun b off hx=>?_,fun ha=>by simpa using hn ha⟩;rw[hfz _ (hlt _ hx)];exact hz b off hx
end Go.Hx
namespace Go.Hx
variable {P:Program} {G:Nat->Option (List Ty)}
variable {E:EP}{f:FuncId}
abbrev iJ:=List (List Ty × Ty)
def kQ (P:Program)(G:Nat->Option (List Ty))(f:FuncId)(l:iJ):Prop:=∀p,p∈l->af P G f p.1 cj fun r H'=>∃u,r=.ret u/\TP H' u p.2
def kQ.nil :kQ P G f []:=fun _ h=>by cases h
def kQ.cons {p:List Ty × Ty}{l:iJ}(h:af P G f p.1 cj fun r H'=>∃u,r=.ret u/\TP H' u p.2)(hl:kQ P G f l):kQ P G f (p :: l):=fun q hq=>by
 rcases List.mem_cons.1 hq with rfl|hq
 ·exact h
 ·exact hl q hq
noncomputable def pJ (l:List (FuncId × iJ))(f:FuncId):Option iJ :=
 List.rec (motive:=fun _=>Option iJ) none (fun p _ ih=>Bool.rec (motive:=fun _=>Option iJ) ih (some p.2) (Nat.beq p.1 f)) l
def wh (P:Program)(G:Nat->Option (List Ty)):List (FuncId × iJ)->Prop
 | []=>True
 |p :: l=>kQ P G p.1 p.2/\wh P G l
def KA:∀ {l:List (FuncId × iJ)},wh P G l->∀f t,pJ l f=some t->kQ P G f t:=by
 intro l
 induction l with
 |nil=>intro _ f t h;cases h
 |cons p l ih =>
  intro ha f t h;have h':Bool.rec (motive:=fun _=>Option iJ) (pJ l f) (some p.2) (Nat.beq p.1 f)=some t:=h;cases hb:Nat.beq p.1 f with
  |true =>
   rw[hb]at h';have:=Qg hb;have h2:p.2=t:=Option.some.inj h';rw[<- this,<- h2];exact ha.1
  |false =>
   rw[hb]at h';exact ih ha.2 f t h'
def Ul.Au {l:List (FuncId × iJ)}(hk:E.known=pJ l)(gok:dJ E.G)(mixed:E.P.follows .mixedOrders=true)
  (gd:∀f z,E.gd f=some z->Al E.P E.G f z) (ha:wh E.P E.G l) (hx:pH E:=by exact pH.none rfl):Ul E :=
 ⟨gok,mixed,fun f t h a v hm=>KA ha f t (by rw[<- hk];exact h) (a,v) hm,gd,hx⟩
noncomputable def dY (E:EP)(fuel:Nat)(f:FuncId)(args:List Ty)(v:Ty):Bool:=match zW E fuel f args with
 |some u=>mX 40 u v
 |none=>false
def eL {fuel:Nat}{args:List Ty}{v:Ty}(hE:Ul E)(h:dY E fuel f args v=true):af E.P E.G f args cj fun r H'=>∃u,r=.ret u/\TP H' u v:=by
 unfold dY at h;split at h
 ·rename_i u hu;rw[<- Aj 40 _ _ h];exact Kz hE hu
 ·cases h
def nC:Nat->Option (List Ty):=fun _=>none
def wj:dJ nC:=fun _ _ h=>by cases h
def KB (W:World):tV P nC W:=fun _ _ h=>by cases h
end Go.Hx
namespace Go.Hx
variable {P:Program} {G:Nat->Option (List Ty)} {Γ Γ':ar} {H H':Tz} {w w':World}
section
variable {n:Nat} {wb:T2} {rd rb:Option Nat} {Q:AX->St->Prop}
end
end Go.Hx
namespace Go.Hx
open Go.ChangeShapes Go.WideShapes Go.RowKit
variable {P:Program} {W:World} {H:Type} {enc:TypeId × Value->H} {spare:Nat->Bool} {held:Bool}
variable {φ:DataW H->List Ty->Prop}{z:Nat}{α:Type}{e t:TypeId}
def fJ (P:Program)(W:World)(as:List Ty)(cs:List Value):Prop:=cs.length=as.length/\∀i (h:i<as.length) (h':i<cs.length),TB P gm cj W as[i] cs[i]
def dq (enc:TypeId × Value->H)(P:Program)(W:World)(spare:Nat->Bool)(held:Bool)(t:TypeId)(φ:DataW H->List Ty->Prop):Prop :=
 ∀fuel cs x,DataW.trod enc P W 0 spare held fuel t cs=some x->∃as,fJ P W as cs/\φ x.1 as
def fJ.nil:fJ P W [] []:=⟨rfl,fun i h _=>absurd h (Qf _)⟩
def fJ.one {a:Ty}{c:Value}(h:TB P gm cj W a c):fJ P W [a] [c]:=⟨rfl,fun i hi _=>by
 match i,hi with
 |0,_=>exact h⟩
def fJ.append {as bs:List Ty}{cs ds:List Value}(h1:fJ P W as cs)(h2:fJ P W bs ds):fJ P W (as++bs) (cs++ds):=by
 refine⟨by simp[h1.1,h2.1],fun i h h'=>?_⟩;by_cases hi:i<as.length
 ·rw[QR hi,QR (by rw[h1.1];exact hi)];exact h1.2 i hi _
 ·have e:=h1.1;rw[QU U,QU U];have:=h2.2 (i-as.length) (by simp at h;omega) (by rw[h2.1];simp at h;omega);simpa[e] using this
def Ec (ht:P.underlying t=some .bool):dq enc P W spare held t fun d as=>∃b,d=.lit (.bool b)/\as=[.lit (.bool b)]:=by
 intro fuel cs x h;cases fuel with
 |zero=>simp[DataW.trod]at h
 |succ n =>
  unfold DataW.trod at h;rw[ht]at h;split at h
  ·cases h;exact⟨_,.one (.lit _),_,rfl,rfl⟩
  all_goals simp_all
def gz {k:IntKind}(ht:P.underlying t=some (.int k)):dq enc P W spare held t fun d as=>∃n,d=.lit (.int k n)/\as=[.lit (.int k n)]/\(Lit.int k n).wf=true:=by
 intro fuel cs x h;cases fuel with
 |zero=>simp[DataW.trod]at h
 |succ n =>
  unfold DataW.trod at h;rw[ht]at h;split at h<;>simp_all
  rename_i k' n' _ _;obtain⟨⟨rfl,hw⟩,rfl⟩:=h;exact⟨_,.one (.lit _),_,rfl,rfl,hw⟩
def uG:∀ {O:List (List Ty)} {css:List (List Value)},css.length=O.length->(∀i (h:i<O.length) (h':i<css.length),fJ P W O[i] css[i])->fJ P W O.flatten css.flatten:=by
 intro O
 induction O with
 |nil=>intro css h _;obtain rfl:=P1 h;exact .nil
 |cons r O ih =>
  intro css h h'
  match css,h with
  |c :: css,h =>
   simp only[List.flatten_cons];exact(h' 0 Tu Tu).append (ih (by simpa using h) fun i hi hi'=>h' (i+1) (by simpa using hi) (by simpa using hi'))
def uH {Q:Nat->α->Prop}:∀n,(∀i,i<n->∃a,Q i a)->∃l:List α,l.length=n/\∀i (h:i<l.length),Q i l[i]:=by
 intro n
 induction n with
 |zero=>intro _;exact⟨[],rfl,fun i h=>absurd h (Qf _)⟩
 |succ n ih =>
  intro h;obtain⟨l,hl,hq⟩:=ih fun i hi=>h i U;obtain⟨a,ha⟩:=h n U;refine⟨l++[a],by simp[hl],fun i hi=>?_⟩;by_cases hi':i<l.length
  ·rw[QR hi'];exact hq i hi'
  ·have:i=l.length:=(by simp at hi;omega);subst this;simp only[List.getElem_concat_length];rw[hl];exact ha
def Ed :∀ {O:List (List α)},(∀i (h:i<O.length),O[i].length=z)->O.flatten.length=O.length*z:=by
 intro O
 induction O with
 |nil=>intro _;simp
 |cons r O ih =>
  intro h;have h0:=h 0 Tu;have:=ih fun i hi=>h (i+1) (by simpa using hi);simp only[Qo]at h0;simp only[List.flatten_cons,List.length_append,List.length_cons,this,h0,R8];omega
def Ee :∀ {O:List (List α)},(∀i (h:i<O.length),O[i].length=z)->∀i j (hi:i<O.length) (hj:j<z),O.flatten[i*z+j]?=(O[i])[j]?:=by
 intro O
 induction O with
 |nil=>intro _ i j hi;exact absurd hi (Qf _)
 |cons r O ih =>
  intro h i j hi hj;have h0:=h 0 Tu;simp only[Qo]at h0;cases i with
  |zero=>simp only[List.flatten_cons,Qo,RF,Nat.zero_add];rw[P3 U]
  |succ i =>
   simp only[List.flatten_cons,QK];rw[Qc (by rw[h0,R8];omega),<- ih (fun i hi=>h (i+1) (by simpa using hi)) i j (by simpa using hi) hj];congr 1;rw[h0,R8];omega
def uI (φ:DataW H->List Ty->Prop)(ds:List (DataW H))(O:List (List Ty)):Prop:=ds.length=O.length/\∀i (h:i<O.length) (h':i<ds.length),φ ds[i] O[i]
def yC (ht:P.underlying t=some (.slice e))(hz:0<P.cellsOf e)(he:dq enc P W spare held e φ):
  dq enc P W spare held t fun d as=>(d=.nil/\as=[.M 0 []])\/∃ds rest O,d=.slice ds rest/\as=[.M O.length O.flatten]/\uI φ ds O/\(∀i (h:i<O.length),O[i].length=P.cellsOf e)/\O.length<=maxLen:=by
 intro fuel cs x h;rcases DataW.trod_slice ht h with ⟨rfl,rfl⟩|⟨a,len,cap,elems,rest,n,rfl,rfl,rfl,_,hl,hm,hlen,hel,_,_⟩
 ·exact⟨_,.one (.nj _ _),.inl ⟨rfl,rfl⟩⟩
 have hrow:∀i,i<len->∃p:List Value × List Ty,W.cells? 0 (a.add (i*P.cellsOf e)) (P.cellsOf e)=some p.1/\fJ P W p.2 p.1/\∃x,elems[i]?=some x/\φ x.1 p.2:=by
  intro i hi;have:=hel i hi;rw[PV U,P0]at this;obtain⟨cs,hc,hx⟩:=this;obtain⟨as,ha,hφ⟩:=he _ _ _ hx;exact⟨(cs,as),hc,ha,_,PV U,hφ⟩
 obtain⟨l,hll,hQ⟩:=uH len hrow;have hzr:∀i (h:i<(l.map Prod.snd).length),(l.map Prod.snd)[i].length=P.cellsOf e:=by
  intro i h;simp only[P8]at h;simp only[P4];obtain⟨hc,hr,_⟩:=hQ i h;rw[<- hr.1];exact(World.cells?_some hc).2.1
 have hzc:∀i (h:i<(l.map Prod.fst).length),(l.map Prod.fst)[i].length=P.cellsOf e:=by
  intro i h;simp only[P8]at h;simp only[P4];exact(World.cells?_some (hQ i h).1).2.1
 refine⟨[.M (l.map Prod.snd).length (l.map Prod.snd).flatten],.one ?_,.inr ⟨_,_,l.map Prod.snd,rfl,rfl,⟨by simp[hll,hlen],fun i h h'=>?_⟩,hzr,by simp only[P8];omega⟩⟩
 ·rcases Q6 len with h0|h0
  ·subst h0;obtain rfl:=P1 hll;exact .nj _ _
  have hrc:fJ P W (l.map Prod.snd).flatten (l.map Prod.fst).flatten:=uG Tu fun i h h'=>by
   simp only[P8]at h;simp only[P4];exact(hQ i h).2.1
  have hla:(l.map Prod.snd).length=len:=by simp[hll]
  have hsp:∀i,i<len->∀j,j<P.cellsOf e->∃v,W.cell? ((a.add (i*P.cellsOf e)).add j)=some v/\(l.map Prod.fst).flatten[i*P.cellsOf e+j]?=some v:=by
   intro i hi j hj;obtain⟨hc,_⟩:=hQ i U;obtain⟨_,hcl,hcell⟩:=World.cells?_some hc;refine⟨(l[i]' U).1[j]' U,?_,?_⟩
   ·rw[hcell j hj,PV]
   ·rw[Ee hzc i j (by simp;omega) hj];simp only[P4];rw[PV]
  have hspot:a.spot=none:=by
   obtain⟨v,hv,_⟩:=hsp 0 h0 0 hz;unfold World.cell? at hv;split at hv
   ·split at hv
    ·cases hv
    ·rename_i hs;simpa[Addr.add] using hs
   ·cases hv
  obtain⟨b,off,spot⟩:=a;simp only at hspot;subst hspot;have hadd:∀(b off n:Nat),(⟨b,off,none⟩:Addr).add n=⟨b,off+n,none⟩:=by
   intro b off n;unfold Addr.add;by_cases hn:n=0
   ·subst hn;simp
   ·simp[hn]
  have hlt:b<W.heap.size:=by
   obtain⟨v,hv,_⟩:=hsp 0 h0 0 hz;rw[hadd,hadd]at hv;unfold World.cell? at hv;rcases Ql b W.heap.size with h|h
   ·exact h
   ·rw[Q1 h]at hv;cases hv
  rw[hla];refine .M (xK b) hlt hl hrc.1 (fun i hi=>?_) fun i h h'=>hrc.2 i h h';have hlc:=Ed hzc;simp only[P8,hll]at hlc;have hi':i<len*P.cellsOf e:=U
  obtain⟨v,hv,hg⟩:=hsp (i / P.cellsOf e) (Nat.div_lt_of_lt_mul (by rw[SU];exact hi')) (i % P.cellsOf e) (SN _ hz);have hdm:i / P.cellsOf e*P.cellsOf e+i % P.cellsOf e=i:=by rw[SU];exact Nat.div_add_mod _ _
  rw[hdm]at hg;rw[PV hi]at hg;rw[Option.some.inj hg,<- hv,hadd,hadd];congr 2;omega
 ·simp only[P8]at h h';obtain⟨_,_,y,hy,hφ⟩:=hQ i h;simp only[P4];rw[PV h']at hy;rw[Option.some.inj hy];exact hφ
def Ef :∀ {n:Nat} {cs:List α},cs.length=n*z->((List.range n).map fun i=>(cs.drop (i*z)).take z).flatten=cs:=by
 intro n
 induction n with
 |zero=>intro cs h;simp at h;subst h;rfl
 |succ n ih =>
  intro cs h;have h1:(cs.take (n*z)).length=n*z:=by rw[P9,h,R8];omega
  have:=ih h1;rw[Rg,Q2,Tq];have e:((List.range n).map fun i=>(cs.drop (i*z)).take z)=(List.range n).map fun i=>((cs.take (n*z)).drop (i*z)).take z:=by
   refine Rd fun i hi=>?_;have hi':=QN.1 hi;rw[List.drop_take,List.take_take];congr 1;have:i*z+z<=n*z:=(by rw[<- R8];exact QO _ hi');omega
  rw[e,this];simp only[List.map_cons,List.map_nil,List.flatten_cons,List.flatten_nil,List.append_nil];rw[PY (l:=cs.drop (n*z)) (by simp[h,R8])];exact Qq _ _
def Eg {n:Nat}(ht:P.underlying t=some (.array n e))(hz:P.cellsOf t=n*P.cellsOf e)(he:dq enc P W spare held e φ):
  dq enc P W spare held t fun d as=>∃ds O,d=.agg ds/\as=O.flatten/\uI φ ds O/\O.length=n/\∀i (h:i<O.length),O[i].length=P.cellsOf e:=by
 intro fuel cs x h;obtain⟨xs,m,rfl,rfl,hcl,hxl,hel⟩:=DataW.trod_array ht h;have hrow:∀i,i<n->∃as:List Ty,fJ P W as ((cs.drop (i*P.cellsOf e)).take (P.cellsOf e))/\∃x,xs[i]?=some x/\φ x.1 as:=by
  intro i hi;have:=hel i hi;rw[PV U]at this;obtain⟨as,ha,hφ⟩:=he _ _ _ this;exact⟨as,ha,_,PV U,hφ⟩
 obtain⟨l,hll,hQ⟩:=uH n hrow;refine⟨l.flatten,?_,_,l,rfl,rfl,⟨by simp[hxl,hll],fun i h h'=>?_⟩,hll,fun i h=>?_⟩
 ·rw[<- Ef (n:=n) (hcl.trans hz)];refine uG (by simp[hll]) fun i h h'=>?_;simp only[P4,List.getElem_range];exact(hQ i h).1
 ·obtain⟨_,y,hy,hφ⟩:=hQ i h;simp only[P8]at h';simp only[P4];rw[PV h']at hy;rw[Option.some.inj hy];exact hφ
 ·obtain⟨hr,_⟩:=hQ i h;rw[<- hr.1,P9,QJ,hcl,hz];have:i*P.cellsOf e+P.cellsOf e<=n*P.cellsOf e:=by rw[<- R8];exact QO _ (U)
  omega
def mI {fs:Array Field}{φ:Nat->DataW H->List Ty->Prop}(ht:P.underlying t=some (.struct fs))
  (hlay:∀cs:List Value,cs.length=P.cellsOf t->(fs.toList.map fun f=>(cs.drop f.offset).take (P.cellsOf f.type)).flatten=cs)
  (he:∀i (h:i<fs.size),dq enc P W spare held fs[i].type (φ i)):
  dq enc P W spare held t fun d as=>∃(ds:List (DataW H)) (O:List (List Ty)),d=.agg ds/\as=O.flatten/\ds.length=fs.size/\O.length=fs.size/\∀i (h:i<O.length) (h':i<ds.length),φ i ds[i] O[i]:=by
 intro fuel cs x h;obtain⟨xs,m,rfl,rfl,hcl,hxl,hel⟩:=DataW.trod_struct ht h;have hrow:∀i,i<fs.size->∃as:List Ty,(∀h:i<fs.size,fJ P W as ((cs.drop fs[i].offset).take (P.cellsOf fs[i].type)))/\∃x,xs[i]?=some x/\φ i x.1 as:=by
  intro i hi;have:=hel i fs[i] (P6 hi);rw[PV U]at this;obtain⟨as,ha,hφ⟩:=he i hi _ _ _ this;exact⟨as,fun _=>ha,_,PV U,hφ⟩
 obtain⟨l,hll,hQ⟩:=uH fs.size hrow;refine⟨l.flatten,?_,_,l,rfl,rfl,by simp[hxl],hll,fun i h h'=>?_⟩
 ·rw[<- hlay cs hcl];refine uG (by simp[hll]) fun i h h'=>?_;simp only[P4,QQ];exact(hQ i h).1 (U)
 ·obtain⟨_,y,hy,hφ⟩:=hQ i h;simp only[P8]at h';simp only[P4];rw[PV h']at hy;rw[Option.some.inj hy];exact hφ
end Go.Hx
namespace Go.Hx
variable {P:Program} {G:Nat->Option (List Ty)} {H:Tz}
variable {L:List TE}{cs:List Ty}{hi lo:Nat}{v:Ty}{e:TypeId}
def IR:(1=0)=False:=Tu
def IS (l:List Ty)(i:Nat):jC (.nf l) i=l[i]?:=rfl
def IT (cells:List Ty)(off:Nat):iz H (.nc cells off)=some (.nc cells off):=rfl
def IU (id gen off:Nat):iz H (.Y id gen off)=(H.Z id gen).map fun _=>.Y id gen off:=by
 simp only[iz]
def IV (t:TypeId)(f:Nat)(id gen off:Nat):mQ P H t f (.Y id gen off)=(bz P t f).bind fun of=>(H.Z id gen).map fun _=>.Y id gen (off+of.1):=rfl
def IW (t:TypeId)(f:Nat)(cells:List Ty)(off:Nat):mQ P H t f (.nc cells off)=(bz P t f).bind fun of=>some (.nc cells (off+of.1)):=rfl
def ct (H:Tz)(L:List TE)(e:TypeId)(lo hi:Nat)(v:Ty)(cs:List Ty):Prop :=
 (v=.lit (.slice none 0 0)/\cs=[])\/∃i g,lo<=i/\i<hi/\v=.V (H.C+i) g 0 cs.length 1/\L[i]?=some (.L g e cs)
def ct.nil :ct H L e lo hi (.lit (.slice none 0 0)) []:=.inl ⟨rfl,rfl⟩
def ct.na {L':List TE}{lo' hi':Nat}(h:ct H L e lo hi v cs)(hl:lo'<=lo)(hh:hi<=hi')(hk:∀i g,lo<=i->i<hi->L[i]?=some (.L g e cs)->L'[i]?=L[i]?):
  ct H L' e lo' hi' v cs:=by
 rcases h with h|⟨i,g,h1,h2,h3,h4⟩
 ·exact .inl h
 ·exact .inr ⟨i,g,U,U,h3,by rw[hk i g h1 h2 h4];exact h4⟩
def zp {i g:Nat}(h:L[i]?=some (.L g e cs)):(ext H L).Z (H.C+i) g=some (e,cs):=by
 have hi:i<L.length:=by
  rcases Ql i L.length with h'|h'
  ·exact h'
  ·rw[P7 h']at h;cases h
 rw[uR H L i g hi,h];simp[oT]
def IX {t:TypeId}{x:Ty}{z:List Ty}(ht:P.underlying t=some (.slice e))(hz:P.cellsOf e=1)(hzero:bC P e=some z)(hx:x.one=true)
  (hb:(cs.length+1)*P.bytesOf e<=2 ^ 47/\cs.length+1<=2 ^ 47) (ho:ct H L e lo hi v cs) (hlo:lo<=L.length) (hhi:hi<=L.length):
  ∃v' L',bd P (ext H (L++[.L 0 e [x]])) (H.C+(L.length+1)) t t v (.V (H.C+L.length) 0 0 1 1)=some (v',ext H L')/\ct H L' e lo L'.length v' (cs++[x])/\L.length<=L'.length /\
   (∀k,k<L.length->(∀g n,v≠.V (H.C+k) g 0 n 1)->L'[k]?=L[k]?):=by
 have hsrc:bW (ext H (L++[.L 0 e [x]])) 1 (.V (H.C+L.length) 0 0 1 1)=some (1,[x]):=by
  unfold bW;have:=zp (H:=H) (L:=L++[TE.L 0 e [x]]) (i:=L.length) (g:=0) (e:=e) (cs:=[x]) Tu;simp[this]
 rcases ho with ⟨rfl,rfl⟩|⟨i,g,h1,h2,rfl,h4⟩
 ·refine⟨.V (H.C+(L.length+1)) 0 0 1 1,L++[.L 0 e [x]]++[.L 0 e [x]],?_,.inr ⟨L.length+1,0,U,Tu,Tu,Tu⟩,Tu,fun k hk _=>?_⟩
  ·unfold bd;rw[ht];simp only[hzero,hz,Option.bind_some,hsrc,IR,if_false];have h1:1*P.bytesOf e<=2 ^ 47/\1<=2 ^ 47:=(by simpa using hb);rw[PZ h1,y7 H _ (L.length+1) _ Tu];rfl
  ·rw[List.append_assoc,P3 hk]
 ·have hi':i<L.length:=U
  refine⟨.V (H.C+i) (g+1) 0 (cs.length+1) 1,(L++[TE.L 0 e [x]]).set i (TE.L (g+1) e (cs++[x])),?_,.inr ⟨i,g+1,h1,by simp;omega,Tu,?_⟩,Tu,fun k hk hne=>?_⟩
  ·unfold bd;rw[ht];simp only[hzero,hz,Option.bind_some,hsrc];have hl:=zp (H:=H) (L:=L++[TE.L 0 e [x]]) (i:=i) (g:=g) (e:=e) (cs:=cs) (by rw[P3 hi'];exact h4);simp only[hl,Option.bind_some];rw[PZ ⟨trivial,trivial,U,hb.1,hb.2,by simp[hx]⟩];rw[uQ H _ i _ (by simp;omega)];simp
  ·rw[Qa (by simp;omega)]
  ·have:i≠k:=(by rintro rfl;exact hne _ _ rfl);rw[Qh this,P3 hk]
def ct.fz {S:Nat->Prop}{cs':List Ty}{nx:Nat}(h:ct H L e lo hi v cs)(hS:∀i,S (H.C+i))(hl:cs'.length=cs.length)
  (hc:∀i (h:i<cs.length) (h':i<cs'.length),Fz S (ext H L) nx cs[i] cs'[i]):Fz S (ext H L) nx v (.M cs'.length cs'):=by
 rcases h with ⟨rfl,rfl⟩|⟨i,g,_,_,rfl,h4⟩
 ·obtain rfl:=P1 hl;exact .nil
 ·rw[hl];have hi:i<L.length:=by
   rcases Ql i L.length with h'|h'
   ·exact h'
   ·rw[P7 h']at h4;cases h4
  refine .np (hS i) (by rw[dV H L i hi];exact h4) U fun j hj h2 h'=>?_;simp only[Nat.zero_add]at h2 ⊢;exact hc j h2 h'
end Go.Hx
namespace Go.Hx
variable {P:Program} {G:Nat->Option (List Ty)} {H:Tz}
variable {O:List (List Ty)}{L L':List TE}{cs cs':List Ty}{g hi id lo nx:Nat}{S:Nat->Prop}{u v v':Ty}{e e' e0 e1:TypeId}{H2:Tz}
def vb (P:Program)(s d:TypeId)(x:Bool)(y:Option TypeDesc)(v:Ty):Option Ty :=
 if x=true then (match y,v with
  |some (.int k'),.lit (.int _ a)=>some (.lit (.int k' (k'.wrap a)))
  |_,_=>iV P s d v) else iV P s d v
def IY (s d:TypeId)(v:Ty):iV P s d v=vb P s d (P.underlying s).isSome (P.underlying d) v:=by
 unfold vb;split
 ·rename_i hs;split
  ·rename_i k' k a hd;exact Gb hs hd
  ·rfl
 ·rfl
def IZ (s d:TypeId)(k k':IntKind)(a:Int):vb P s d true (some (.int k')) (.lit (.int k a))=some (.lit (.int k' (k'.wrap a))):=rfl
def zq (P:Program)(d:Option TypeDesc)(cells:List Ty)(i:Int):Option Ty:=match d with
 |some (.array n e)=>if 0<=i/\i<(n:Int) then dQ P e cells (i.toNat*P.cellsOf e) else none
 |_=>none
def I0 (t:TypeId)(cells:List Ty)(k:IntKind)(i:Int):oA P t (.agg cells) (.lit (.int k i))=zq P (P.underlying t) cells i:=rfl
def I1 (n:Nat)(e:TypeId)(cells:List Ty)(i:Int):zq P (some (.array n e)) cells i=if 0<=i/\i<(n:Int) then dQ P e cells (i.toNat*P.cellsOf e) else none:=rfl
def ae {c:List Ty}(h:H.get id=some (.L g e c)):H.Z id g=some (e,c):=by
 unfold Tz.Z;rw[h];simp
def aq (a:Nat)(x:TE):(H.upd a x).C=H.C:=rfl
def dB (h:id<H.C):(ext H L).Z id g=H.Z id g:=by
 unfold Tz.Z;rw[eC H L id h]
def iZ (H:Tz)(L:List TE)(e1 e0:TypeId)(v:Ty)(O:List (List Ty)):Prop :=
 ∃cs:List Ty,ct H L e1 0 L.length v cs/\cs.length=O.length/\∀(j:Nat) (r:List Ty) (c:Ty),O[j]?=some r->cs[j]?=some c->ct H L e0 0 L.length c r
theorem iZ.nil :iZ H L e1 e0 (.lit (.slice none 0 0)) []:=⟨[],.nil,rfl,fun j r c h=>by simp at h⟩
def ct.lt {i n z:Nat}(h:ct H L e lo hi (.V (H.C+i) g 0 n z) cs):i<L.length/\L[i]?=some (.L g e cs)/\n=cs.length/\z=1:=by
 rcases h with ⟨h,_⟩|⟨j,g2,_,_,h3,h4⟩
 ·cases h
 ·have:=Ty.V.inj h3;obtain rfl:i=j:=U
  obtain⟨_,rfl,_,rfl,rfl⟩:=this;refine⟨?_,h4,rfl,rfl⟩;rcases Ql i L.length with h|h
  ·exact h
  ·rw[P7 h]at h4;cases h4
def ct.ru {lo' hi':Nat}(hv:ct H L e lo hi v cs)(hu:ct H L e' lo' hi' u cs')(hne:e≠e')(hh:hi'<=L.length)
  (hp:∀k,k<L.length->(∀g n,v≠.V (H.C+k) g 0 n 1)->L'[k]?=L[k]?):ct H L' e' lo' hi' u cs':=by
 refine hu.na Tx Tx fun i g h1 h2 h3=>hp i U fun g' n he=>?_;rcases hv with ⟨rfl,_⟩|⟨j,g2,_,_,rfl,h4⟩
 ·cases he
 ·have hj:j=i:=by
   have:=Ty.V.inj he;omega
  subst hj;rw[h3]at h4;cases h4;exact hne rfl
def ct.kx (hv:ct H L e lo hi v cs):v.one=true:=by
 rcases hv with ⟨rfl,_⟩|⟨_,_,_,_,rfl,_⟩<;>rfl
def ct.eD (hv:ct H L e lo hi v cs):v.cells=[v]:=by
 rcases hv with ⟨rfl,_⟩|⟨_,_,_,_,rfl,_⟩<;>rfl
def ct.other {lo' hi':Nat}(hv:ct H L e lo hi v cs)(hu:ct H L e' lo' hi' u cs')(hne:e≠e')(hh:hi'<=L.length)
  (hp:∀k,k<L.length->(∀g n,v≠.V (H.C+k) g 0 n 1)->L'[k]?=L[k]?):ct H L' e' lo' hi' u cs':=hv.ru hu hne hh hp
theorem ct.one (hv:ct H L e lo hi v cs):v.one=true:=hv.kx
theorem ct.cells (hv:ct H L e lo hi v cs):v.cells=[v]:=hv.eD
theorem iZ.na (h:iZ H L e1 e0 v O)(hl:L.length<=L'.length)(hk:∀i,i<L.length->L'[i]?=L[i]?):iZ H L' e1 e0 v O:=by
 obtain⟨cs,c1,c2,c3⟩:=h;exact⟨cs,c1.na Tx hl fun i _ _ hi _=>hk i hi,c2,fun j r c hr hc=>(c3 j r c hr hc).na Tx hl fun i _ _ hi _=>hk i hi⟩
theorem iZ.fz {rows':List (List Ty)}(h:iZ H L e1 e0 v O)(hS:∀i,S (H.C+i))(hl:rows'.length=O.length)
  (hr:∀(j:Nat) (r r':List Ty),O[j]?=some r->rows'[j]?=some r'->r'.length=r.length/\∀i (h:i<r.length) (h':i<r'.length),Fz S (ext H L) nx r[i] r'[i]):
  Fz S (ext H L) nx v (.M rows'.length (rows'.map fun r=>.M r.length r)):=by
 obtain⟨cs,h1,h2,h3⟩:=h;have:=h1.fz (S:=S) (nx:=nx) (cs':=rows'.map fun r=>.M r.length r) hS (by simp[h2,hl]) fun i hi hi'=>by
  simp only[P4];have hi2:i<O.length:=U
  have hi3:i<rows'.length:=U
  obtain⟨a1,a2⟩:=hr i O[i] rows'[i] (PV hi2) (PV hi3);exact(h3 i O[i] cs[i] (PV hi2) (PV hi)).fz (S:=S) (nx:=nx) (cs':=rows'[i]) hS a1 a2
 rw[P8]at this;exact this
def iZ.app {x:Ty}{r:List Ty}{t:TypeId}{z:List Ty}(ht:P.underlying t=some (.slice e1))(hz:P.cellsOf e1=1)(hzero:bC P e1=some z)(hby:P.bytesOf e1=24)(hne:e1≠e0)
  (hb:O.length<2 ^ 40) (h:iZ H L e1 e0 v O) (hx:ct H L e0 0 L.length x r):
  ∃v' L',bd P (ext H (L++[.L 0 e1 [x]])) (H.C+(L.length+1)) t t v (.V (H.C+L.length) 0 0 1 1)=some (v',ext H L')/\iZ H L' e1 e0 v' (O++[r])/\L.length<=L'.length:=by
 obtain⟨cs,h1,h2,h3⟩:=h;obtain⟨v',L',hA,hO,hL,hp⟩:=IX (t:=t) ht hz hzero hx.kx (by rw[hby,h2];omega) h1 (Ss _) Tx;refine⟨v',L',hA,⟨cs++[x],hO,by simp[h2],fun j r' c hr hc=>?_⟩,hL⟩;have key:∀u l,ct H L e0 0 L.length u l->ct H L' e0 0 L'.length u l:=fun u l hu=>(h1.ru hu hne Tx hp).na Tx hL fun _ _ _ _ _=>rfl;rcases Ql j O.length with hj|hj
 ·rw[P3 hj]at hr;rw[P3 U]at hc;exact key _ _ (h3 j r' c hr hc)
 ·rw[Qc hj]at hr;rw[Qc U]at hc;have hj0:j-O.length=0:=by
   rcases Q6 (j-O.length) with h|h
   ·exact h
   ·rw[P7 (by simp;omega)]at hr;cases hr
  have hj1:j-cs.length=0:=U
  rw[hj0]at hr;rw[hj1]at hc;cases hr;cases hc;exact key _ _ hx
def jL (H:Tz)(L L':List TE):ext (ext H L) L'=ext H (L++L'):=by
 unfold ext;simp only[List.length_append];congr 1
 ·funext j
  by_cases h1:H.C+L.length<=j/\j<H.C+L.length+L'.length
  ·rw[PZ h1,PZ U,Qc U];congr 1;omega
  ·rw[PX h1];by_cases h2:H.C<=j/\j<H.C+L.length
   ·rw[PZ h2,PZ U,P3 U]
   ·rw[PX h2,PX U]
 ·omega
def I2 (t:TypeId)(id g o l z:Nat):iC P t (.V id g o l z)=if jI (P.underlying t)=true then [id] else []:=by
 unfold iC;cases h:P.underlying t with
 |none=>rfl
 |some d=>cases d<;>rfl
structure TC (H H2:Tz):Prop where
 C:H.C<=H2.C
 nb:∀id,id<H.C->H2.get id=H.get id
def TC.refl (H:Tz):TC H H:=⟨Tx,fun _ _=>rfl⟩
theorem TC.trans {H H3:Tz}(a:TC H H2)(b:TC H2 H3):TC H H3 :=
 ⟨QH a.C b.C,fun id h=>(b.nb id (P5 h a.C)).trans (a.nb id h)⟩
theorem TC.ext (H:Tz)(L:List TE):TC H (ext H L):=⟨by simp[bh],fun id h=>eC H L id h⟩
def I3 {H:Tz}(hc:Ue H)(ho:TC H H2):T8 (fun id=>H.C<=id) H2 H where
 gone id hs:=by
  cases h:H.get id with
  |none=>rfl
  |some b=>have:=hc.lt id b h;omega
 kept id b hs hb:=by
  have hlt:id<H.C:=RZ hs;rw[ho.nb id hlt]at hb;have hbb:=hc.below id b hb;refine⟨hlt,b,hb,?_⟩;have hno:∀i,i<H.C->¬H.C<=i:=fun i h=>Nat.not_le_of_lt h;cases b with
  |ni=>trivial
  |mp=>rfl
  |L g e cells=>exact⟨rfl,rfl,rfl,fun i h _=>.refl (hbb i h) hno⟩
  |loop st pend n env ps asg body=>exact⟨rfl,rfl,rfl,rfl,rfl,rfl,rfl,fun t ht=>.refl (hbb t ht) hno⟩
 none id hs hb:=by
  rw[ho.nb id (RZ hs)]at hb;exact hb
def aw.bJ (hG:dJ G)(hc:Ue H)(ho:TC H H2){K:TF->Tz->Prop}(hv:Fz (fun id=>H.C<=id) H2 H.C v v')(hk:K (.ret v') H):aw P G H K v H2 :=
 ⟨v',H,.freeze hG (I3 hc ho) hv,Tx,hk⟩
def Fz.nb {H:Tz}(h:Below H.C v)(hn:H.C<=nx):Fz (fun id=>H.C<=id) H2 nx v v:=by
 induction h with
 |lit v=>exact .lit v
 |M _ ih=>exact .M rfl fun i h _=>ih i h
 |nc _ ih=>exact .nc rfl fun i h _=>ih i h
 |agg _ ih=>exact .agg rfl fun i h _=>ih i h
 |nf _ ih=>exact .nf rfl fun i h _=>ih i h
 |nl _ _ ih1 ih2=>exact .nl rfl rfl (fun i h _=>ih1 i h) fun i h _=>ih2 i h
 |V h=>exact .V U (U)
 |Y h=>exact .Y U (U)
 |ng h=>exact .ng U (U)
def Fz.put {H:Tz}{d:Nat}{ρ ρ':Env}(h:∀t,Fz S H nx (ρ t) (ρ' t))(hv:Fz S H nx v v'):∀t,Fz S H nx (aD ρ (some d) v t) (aD ρ' (some d) v' t):=by
 intro t;simp only[aD];split
 ·exact hv
 ·exact h t
def Fz.av {H:Tz}(O:List (List Int)):Fz S H nx (.M O.length (O.map ag)) (.M O.length (O.map ag)) :=
 .M rfl fun i h _=>by simp only[P4];exact .cK _
def Fz.env {H:Tz}{args args':List Ty}(hl:args'.length=args.length)(h:∀i (h:i<args.length) (h':i<args'.length),Fz S H nx args[i] args'[i]):∀t,Fz S H nx (eX args t) (eX args' t):=by
 intro t;rw[uO,uO];by_cases ht:t<args.length
 ·rw[PV ht,PV U];exact h t ht (U)
 ·rw[P7 U,P7 U];exact .lit _
end Go.Hx
namespace Go.Hx
open Go.ChangeShapes Go.WideShapes Go.RowKit
variable {P:Program} {W:World} {H:Type} {enc:TypeId × Value->H} {spare:Nat->Bool} {held:Bool}
variable {d:DataW H}{φ:DataW H->List Ty->Prop}{n:Int}{k:IntKind}{ps:List MemPlace}{b:Nat}{r:Reach}{α:Type}{t:TypeId}{v:Value}
def dq.mono {ψ:DataW H->List Ty->Prop}(h:dq enc P W spare held t φ)(hm:∀d as,φ d as->ψ d as):dq enc P W spare held t ψ:=fun fuel cs x hx =>
 let ⟨as,h1,h2⟩:=h fuel cs x hx;⟨as,h1,hm _ _ h2⟩
def qR (k:IntKind)(l:List Int):List Ty:=l.map fun n=>.lit (.int k n)
def yD {f:α->List Ty}{q:α->Prop}(hφ:∀d as,φ d as->∃a,as=f a/\q a):∀ {O:List (List Ty)} {ds:List (DataW H)},uI φ ds O ->
  ∃l:List α,O=l.map f/\∀a,a∈l->q a:=by
 intro O
 induction O with
 |nil=>intro ds _;exact⟨[],rfl,fun a h=>by cases h⟩
 |cons r O ih =>
  intro ds h;obtain⟨h1,h2⟩:=h;cases ds with
  |nil=>simp at h1
  |cons d ds =>
   obtain⟨a,ha,hq⟩:=hφ _ _ (h2 0 Tu Tu);obtain⟨l,hl,hq2⟩:=ih (ds:=ds) ⟨by simpa using h1,fun i hi hi'=>h2 (i+1) (by simpa using hi) (by simpa using hi')⟩;refine⟨a :: l,by simp only[List.map_cons,<- hl];simp only[Qo]at ha;rw[ha],fun b hb=>?_⟩;rcases List.mem_cons.1 hb with rfl|hb
   ·exact hq
   ·exact hq2 b hb
def Eh {β:Type}(f:α->β)(l:List α):(l.map fun a=>[f a]).flatten=l.map f:=by
 induction l with
 |nil=>rfl
 |cons a l ih=>simp only[List.map_cons,List.flatten_cons,ih];rfl
def uJ {e:TypeId}(ht:P.underlying t=some (.slice e))(he:P.underlying e=some (.int k))(hc:P.cellsOf e=1):
  dq enc P W spare held t fun _ as=>∃l:List Int,as=[.M l.length (qR k l)]/\l.length<=maxLen/\∀c,c∈l->(Lit.int k c).wf=true :=
 (yC ht U (gz he)).mono fun d as h=>by
  rcases h with ⟨_,rfl⟩|⟨ds,rest,O,_,rfl,hr,_,hl⟩
  ·exact⟨[],rfl,Tv,fun c h=>by cases h⟩
  ·obtain⟨l,rfl,hq⟩:=yD (f:=fun n=>[Ty.lit (.int k n)]) (q:=fun n=>(Lit.int k n).wf=true) (fun d as ⟨n,_,h2,h3⟩=>⟨n,h2,h3⟩) hr;refine⟨l,?_,by simpa using hl,hq⟩;rw[P8];congr 2;exact Eh _ l
def yE (hop:dq enc P W spare held t φ)
  (ht:(∃fs,P.underlying t=some (.struct fs))\/∃n e,P.underlying t=some (.array n e)) (hval:Value.okWide P W r b t v) (hd:DataW.Trod enc P W 0 spare held t v d ps):
  ∃as,TB P gm cj W (.agg as) v/\φ d as:=by
 obtain⟨cs,rfl⟩:∃cs,v=.agg cs:=by
  unfold Value.okWide at hval;rcases ht with ⟨fs,ht⟩|⟨n,e,ht⟩
  ·rw[ht]at hval;obtain⟨cs,h,_⟩:=hval;exact⟨cs,h⟩
  ·rw[ht]at hval;obtain⟨cs,h,_⟩:=hval;exact⟨cs,h⟩
 obtain⟨fuel,hf⟩:=hd;obtain⟨as,hr,hφ⟩:=hop _ _ _ hf;refine⟨as,?_,hφ⟩;have:=TB.agg (P:=P) (Γ:=gm) (H:=cj) (w:=W) (cells:=as) (cs:=cs.toList) hr.1 hr.2;simpa using this
def Ei {ψ:Ty->Prop}(hop:dq enc P W spare held t φ)(h1:∀d as,φ d as->∃a,as=[a]/\ψ a)
  (hno:∀cs,¬Value.okWide P W r b t (.agg cs)) (hval:Value.okWide P W r b t v) (hd:DataW.Trod enc P W 0 spare held t v d ps):∃a,TB P gm cj W a v/\ψ a:=by
 have hc:v.cells.toList=[v]:=by
  cases v with
  |agg cs=>exact absurd hval (hno cs)
  |_=>rfl
 obtain⟨fuel,hf⟩:=hd;rw[hc]at hf;obtain⟨as,hr,hφ⟩:=hop _ _ _ hf;obtain⟨a,rfl,hψ⟩:=h1 _ _ hφ;exact⟨a,hr.2 0 Tu Tu,hψ⟩
def Ej (ht:P.underlying t=some (.int k))(cs:Array Value):¬Value.okWide P W r b t (.agg cs):=fun h=>by
 obtain⟨n,hn⟩:=okWide_int ht h;cases hn
def yF (ht:P.underlying t=some (.int k))(hval:Value.okWide P W r b t v)(hd:DataW.Trod enc P W 0 spare held t v d ps):
  ∃n,TB P gm cj W (.lit (.int k n)) v/\(Lit.int k n).wf=true:=by
 obtain⟨a,h1,n,rfl,h2⟩:=Ei (ψ:=fun a=>∃n,a=.lit (.int k n)/\(Lit.int k n).wf=true) (gz ht) (fun d as ⟨n,_,h2,h3⟩=>⟨_,h2,n,rfl,h3⟩) (Ej ht) hval hd;exact⟨n,h1,h2⟩
def wf_u8 (h:(Lit.int .u8 n).wf=true):0<=n/\n<=255:=by
 simpa[Lit.wf,IntKind.min,IntKind.max,IntKind.signed,IntKind.bits] using h
def wf_i64 (h:(Lit.int .i64 n).wf=true):-9223372036854775808<=n/\n<=9223372036854775807:=by
 simpa[Lit.wf,IntKind.min,IntKind.max,IntKind.signed,IntKind.bits] using h
end Go.Hx
namespace Go.Hx
attribute [go_sem] List.replicate_one List.flatten_cons List.flatten_nil List.length_append List.append_nil Nat.sub_zero Bool.not_true Bool.not_false
attribute [go_sem] Bool.true_eq_false List.map_eq_nil_iff uT Int.le_refl decide_true decide_false eq_self List.getElem?_map
attribute [go_sem] EN EO ER ES ET EU EV EW
attribute [go_sem] EX EY EZ Fa Fc Fb Fe Ff
attribute [go_sem] Fg Fh Fi Fj EB EC ED EF
attribute [go_sem] EG EI EJ EK EL EM noGoto_normal noGoto_exit
attribute [go_sem] noGoto_ret noGoto_panic lC qZ uN fq yK Ex
attribute [go_sem] Ey Fu Fv Gj Gf Gg Gh Gi
attribute [go_sem] List.getElem?_toArray Option.bind_some Gk Gl Gm Gn Gp Gq
attribute [go_sem] Gr Gs Gt Gu Gv Gw Gx Gy
attribute [go_sem] Gz GA GB GC GE GF GG GH
attribute [go_sem] GI GJ GK GL GM Hv mV HA
attribute [go_sem] HB HC zl HD HE HF HG HH
attribute [go_sem] HI HJ HK HL HM HN HO List.set_cons_zero
attribute [go_sem] List.set_cons_succ HP HQ HR HS HT HU HV
attribute [go_sem] HW HX HY HZ H8 Ia Ib Ic
attribute [go_sem] Ie If Ig Ih Ii Ij Ik
attribute [go_sem] pf u7 Il Im Io Ip Iq
attribute [go_sem] Ir Is It Iu Iv Iw Ix Iy
attribute [go_sem] Iz IA IB IC ID IE IF IG
attribute [go_sem] IH II IJ IK IL IM IN IP
attribute [go_sem] IQ gF aR aa Int.toNat_natCast Int.natCast_nonneg ag List.all_cons
attribute [go_sem] List.all_nil Bool.and_true Nat.mul_one GN GO GP GQ GR
attribute [go_sem] GS GT GU GV GW GX
attribute [go_sem] GZ G1 G3 G2
attribute [go_sem] G4 G5 G6 G7 List.take_succ_cons List.take_zero
attribute [go_sem] List.take_nil List.drop_succ_cons List.drop_zero List.drop_nil List.forall_mem_cons List.not_mem_nil List.mem_cons List.mem_singleton
attribute [go_sem] or_false false_or or_true true_or not_or false_implies implies_true forall_const
attribute [go_sem] Fy FA FB FC FD FE FF FG
attribute [go_sem] FH FI FJ FK FL FM FN FO
attribute [go_sem] FQ FR FS FT FU Bool.false_eq_true FV FW
attribute [go_sem] FX FY FZ F1 F2 F3
attribute [go_sem] F4 F5 builtin_len builtin_append builtin_copy builtin_min builtin_max yQ
attribute [go_sem] yR yS F6 F7 yT yU yV yW
attribute [go_sem] yX yY F8 bh uP yZ y7 uR
attribute [go_sem] Gd uQ Ge Gc List.map_cons List.map_nil if_true if_false
attribute [go_sem] ne_eq not_false_eq_true not_true_eq_false true_and and_true false_and and_false List.length_cons
attribute [go_sem] List.length_nil Nat.zero_add Nat.add_zero Option.isSome_some List.append_assoc List.cons_append List.nil_append Option.map_some
attribute [go_sem] Option.map_none dT uO List.getElem?_cons_zero List.getElem?_cons_succ List.getElem?_nil Option.getD_some Option.getD_none
attribute [go_sem] Fk Fl Fm Fo Fp Fq Fs Ft
attribute [go_sem] IS IT IU Int.natCast_zero Int.cast_ofNat_Int I0 I1 I2
attribute [go_sem] F9 Ga IY IZ IV IW aK Nat.le_refl
end Go.Hx
namespace Go.Hx
variable {P:Program} {G:Nat->Option (List Ty)} {H H':Tz}
variable {O:List (List Ty)}{cs cs' z:List Ty}{id lo lo' n nx:Nat}{S:Nat->Prop}{b:TE}{v x:Ty}{e e0 e1 t:TypeId}
def Tz.cut (H:Tz)(n:Nat):Tz:=⟨fun j=>if j<n then H.get j else none,H.C⟩
def I4 (h:id<n):(H.cut n).get id=H.get id:=by simp[Tz.cut,h]
theorem TC.cut {B:Tz}(h:TC B H):TC B (H.cut B.C):=⟨h.C,fun id hi=>(I4 hi).trans (h.nb id hi)⟩
open Classical in
def Fz.dead {H:Tz}(h:Below nx v):Fz S H nx v v:=by
 induction h with
 |lit v=>exact .lit v
 |M _ ih=>exact .M rfl fun i h _=>ih i h
 |nc _ ih=>exact .nc rfl fun i h _=>ih i h
 |agg _ ih=>exact .agg rfl fun i h _=>ih i h
 |nf _ ih=>exact .nf rfl fun i h _=>ih i h
 |nl _ _ ih1 ih2=>exact .nl rfl rfl (fun i h _=>ih1 i h) fun i h _=>ih2 i h
 | @V id _ _ _ _ h=>by_cases hs:S id;exact .deadOwn h hs;exact .V h hs
 | @Y id _ _ h=>by_cases hs:S id;exact .deadPtr h hs;exact .Y h hs
 | @ng id h=>by_cases hs:S id;exact .deadYld h hs;exact .ng h hs
def ay (lo:Nat)(H:Tz)(e:TypeId)(v:Ty)(cs:List Ty):Prop :=
 (v=.lit (.slice none 0 0)/\cs=[])\/∃id g,lo<=id/\id<H.C/\v=.V id g 0 cs.length 1/\H.get id=some (.L g e cs)
def ay.nil :ay lo H e (.lit (.slice none 0 0)) []:=.inl ⟨rfl,rfl⟩
def ay.na (h:ay lo H e v cs)(hl:lo'<=lo)(hn:H.C<=H'.C)(hk:∀id g,lo<=id->id<H.C->H.get id=some (.L g e cs)->v=.V id g 0 cs.length 1->H'.get id=H.get id):ay lo' H' e v cs:=by
 rcases h with h|⟨id,g,h1,h2,h3,h4⟩
 ·exact .inl h
 ·exact .inr ⟨id,g,U,U,h3,by rw[hk id g h1 h2 h4 h3];exact h4⟩
def ay.over (h:ay lo H e v cs)(ho:TC H H'):ay lo H' e v cs:=h.na Tx ho.C fun id _ _ h2 _ _=>ho.nb id h2
theorem ay.one (h:ay lo H e v cs):v.one=true:=by
 rcases h with ⟨rfl,_⟩|⟨_,_,_,_,rfl,_⟩<;>rfl
theorem ay.cells (h:ay lo H e v cs):v.cells=[v]:=by
 rcases h with ⟨rfl,_⟩|⟨_,_,_,_,rfl,_⟩<;>rfl
def ay.fz (h:ay lo H e v cs)(hS:∀i,lo<=i->S i)(hl:cs'.length=cs.length)
  (hc:∀i (h:i<cs.length) (h':i<cs'.length),Fz S H nx cs[i] cs'[i]):Fz S H nx v (.M cs'.length cs'):=by
 rcases h with ⟨rfl,rfl⟩|⟨id,g,h1,_,rfl,h4⟩
 ·obtain rfl:=P1 hl;exact .nil
 ·rw[hl];refine .np (hS id h1) h4 U fun j hj h2 h'=>?_;simp only[Nat.zero_add]at h2 ⊢;exact hc j h2 h'
def ay.dW {l:List Int}(h:ay lo H e v (ints l))(hS:∀i,lo<=i->S i):Fz S H nx v (ag l):=by
 have:=h.fz (S:=S) (nx:=nx) (cs':=ints l) hS rfl fun i hi _=>by simp only[ints,P4];exact .lit _
 rw[aR]at this;exact this
def ay.new :ay H.C (ext H [.L 0 e cs]) e (.V H.C 0 0 cs.length 1) cs :=
 .inr ⟨H.C,0,Tx,by simp[bh],rfl,by simpa using dV H [.L 0 e cs] 0 Tu⟩
def bK (h:id<H.C):(ext H [b]).get id=H.get id:=eC H [b] id h
def bX :(ext H [b]).get H.C=some b:=by simpa using dV H [b] 0 (Tu)
def ry (h:n=H.C):H.lay n b=some (ext H [b]):=by subst h;exact uP H b
def rz {src:List Ty}(ht:P.underlying t=some (.slice e))(hz:P.cellsOf e=1)(hzero:bC P e=some z)(hx:src.all Ty.one=true)
  (hb:(cs.length+src.length)*P.bytesOf e<=2 ^ 47/\cs.length+src.length<=2 ^ 47) (ho:ay lo H e v cs) (hlo:lo<=H.C) (hn:n=H.C):
  ∃v' H',bd P H n t t v (.M src.length src)=some (v',H')/\ay lo H' e v' (cs++src)/\H.C<=H'.C/\(∀k,k<H.C->(∀g n,v≠.V k g 0 n 1)->H'.get k=H.get k):=by
 have hsrc:bW H 1 (.M src.length src)=some (src.length,src):=by
  unfold bW;simp
 by_cases h0:src.length=0
 ·have e0:src=[]:=P1 h0;subst e0;refine⟨v,H,?_,?_,Tx,fun _ _ _=>rfl⟩
  ·rcases ho with ⟨rfl,rfl⟩|⟨i,g,h1,h2,rfl,h4⟩
   ·unfold bd;rw[ht];simp only[hzero,hz,Option.bind_some];rw[hsrc];rfl
   ·unfold bd;rw[ht];have hl:=ae h4;simp only[hzero,hz,Option.bind_some,hsrc,hl];rw[PZ ⟨trivial,trivial,U,hb.1,hb.2,rfl⟩];simp
  ·rw[List.append_nil];exact ho
 rcases ho with ⟨rfl,rfl⟩|⟨i,g,h1,h2,rfl,h4⟩
 ·refine⟨.V H.C 0 0 src.length 1,ext H [.L 0 e src],?_,.inr ⟨H.C,0,hlo,by simp[bh],Tu,by simpa using bX⟩,by simp[bh],fun k hk _=>bK hk⟩;unfold bd;rw[ht];simp only[hzero,hz,Option.bind_some,hsrc];rw[PX h0,PZ (by simpa using hb),ry hn,hn];rfl
 ·refine⟨.V i (g+1) 0 (cs.length+src.length) 1,H.upd i (.L (g+1) e (cs++src)),?_,.inr ⟨i,g+1,h1,h2,Tu,by rw[ab,PZ rfl]⟩,Tx,fun k hk hne=>?_⟩
  ·unfold bd;rw[ht];have hl:=ae h4;simp only[hzero,hz,Option.bind_some,hsrc,hl];rw[PZ ⟨trivial,trivial,U,hb.1,hb.2,hx⟩,PX h0];simp
  ·rw[ab,PX];rintro rfl;exact hne _ _ rfl
def gG (ht:P.underlying t=some (.slice e))(hz:P.cellsOf e=1)(hzero:bC P e=some z)(hx:x.one=true)
  (hb:(cs.length+1)*P.bytesOf e<=2 ^ 47/\cs.length+1<=2 ^ 47) (ho:ay lo H e v cs) (hlo:lo<=H.C) (hn:n=H.C+1):
  ∃v' H',bd P (ext H [.L 0 e [x]]) n t t v (.V H.C 0 0 1 1)=some (v',H')/\ay lo H' e v' (cs++[x])/\H.C<=H'.C/\(∀k,k<H.C->(∀g n,v≠.V k g 0 n 1)->H'.get k=H.get k):=by
 have hsrc:bW (ext H [.L 0 e [x]]) 1 (.V H.C 0 0 1 1)=some (1,[x]):=by
  unfold bW;have:=ae (H:=ext H [.L 0 e [x]]) (g:=0) (bX (b:=.L 0 e [x]));simp[this]
 have hne:(ext H [TE.L 0 e [x]]).C=H.C+1:=rfl;rcases ho with ⟨rfl,rfl⟩|⟨i,g,h1,h2,rfl,h4⟩
 ·refine⟨.V (H.C+1) 0 0 1 1,ext (ext H [.L 0 e [x]]) [.L 0 e [x]],?_,.inr ⟨H.C+1,0,U,by simp[bh],Tu,?_⟩,by simp[bh];omega,fun k hk _=>?_⟩
  ·unfold bd;rw[ht];simp only[hzero,hz,Option.bind_some,hsrc];rw[PX Tv,PZ (by simpa using hb),ry (by rw[hn,hne]),hn];rfl
  ·rw[<- hne];exact bX
  ·rw[bK (by rw[hne];omega),bK hk]
 ·have h4':(ext H [.L 0 e [x]]).get i=some (.L g e cs):=by rw[bK h2];exact h4
  refine⟨.V i (g+1) 0 (cs.length+1) 1,(ext H [.L 0 e [x]]).upd i (.L (g+1) e (cs++[x])),?_,.inr ⟨i,g+1,h1,by rw[aq,hne];omega,Tu,by rw[ab,PZ rfl]⟩,by rw[aq,hne];omega,fun k hk hne=>?_⟩
  ·unfold bd;rw[ht];have hl:=ae h4';simp only[hzero,hz,Option.bind_some,hsrc,hl];rw[PZ ⟨trivial,trivial,U,hb.1,hb.2,by simp[hx]⟩];simp
  ·rw[ab,PX,bK hk];rintro rfl;exact hne _ _ rfl
def dL (lo:Nat)(H:Tz)(e1 e0:TypeId)(v:Ty)(O:List (List Ty)):Prop :=
 ∃cs:List Ty,ay lo H e1 v cs/\cs.length=O.length/\∀(j:Nat) (r:List Ty) (c:Ty),O[j]?=some r->cs[j]?=some c->ay lo H e0 c r
theorem dL.nil :dL lo H e1 e0 (.lit (.slice none 0 0)) []:=⟨[],.nil,rfl,fun j r c h=>by simp at h⟩
theorem dL.over (h:dL lo H e1 e0 v O)(ho:TC H H'):dL lo H' e1 e0 v O:=by
 obtain⟨cs,c1,c2,c3⟩:=h;exact⟨cs,c1.over ho,c2,fun j r c hr hc=>(c3 j r c hr hc).over ho⟩
theorem dL.fz {rows':List (List Ty)}(h:dL lo H e1 e0 v O)(hS:∀i,lo<=i->S i)(hl:rows'.length=O.length)
  (hr:∀(j:Nat) (r r':List Ty),O[j]?=some r->rows'[j]?=some r'->r'.length=r.length/\∀i (h:i<r.length) (h':i<r'.length),Fz S H nx r[i] r'[i]):
  Fz S H nx v (.M rows'.length (rows'.map fun r=>.M r.length r)):=by
 obtain⟨cs,h1,h2,h3⟩:=h;have:=h1.fz (S:=S) (nx:=nx) (cs':=rows'.map fun r=>.M r.length r) hS (by simp[h2,hl]) fun i hi hi'=>by
  simp only[P4];have hi2:i<O.length:=U
  have hi3:i<rows'.length:=U
  obtain⟨a1,a2⟩:=hr i O[i] rows'[i] (PV hi2) (PV hi3);exact(h3 i O[i] cs[i] (PV hi2) (PV hi)).fz (S:=S) (nx:=nx) (cs':=rows'[i]) hS a1 a2
 rw[P8]at this;exact this
def ay.ru {e':TypeId}{u:Ty}(hv:ay lo H e v cs)(hu:ay lo' H e' u cs')(hne:e≠e')(hn:H.C<=H'.C)
  (hp:∀k,k<H.C->(∀g n,v≠.V k g 0 n 1)->H'.get k=H.get k):ay lo' H' e' u cs':=by
 refine hu.na Tx hn fun i g h1 h2 h3 _=>hp i h2 fun g' n he=>?_;rcases hv with ⟨rfl,_⟩|⟨j,g2,_,_,rfl,h4⟩
 ·cases he
 ·have:=Ty.V.inj he;obtain rfl:j=i:=this.1;rw[h3]at h4;cases h4;exact hne rfl
def dL.app {r:List Ty}(ht:P.underlying t=some (.slice e1))(hz:P.cellsOf e1=1)(hzero:bC P e1=some z)(hby:P.bytesOf e1=24)(hne:e1≠e0)
  (hb:O.length<2 ^ 40) (h:dL lo H e1 e0 v O) (hlo:lo<=H.C) (hx:ay lo H e0 x r) (hn:n=H.C+1):
  ∃v' H',bd P (ext H [.L 0 e1 [x]]) n t t v (.V H.C 0 0 1 1)=some (v',H')/\dL lo H' e1 e0 v' (O++[r])/\H.C<=H'.C/\(∀k,k<H.C->k<lo->H'.get k=H.get k):=by
 obtain⟨cs,h1,h2,h3⟩:=h;obtain⟨v',H',hA,hO,hL,hp⟩:=gG (t:=t) ht hz hzero hx.one (by rw[hby,h2];omega) h1 hlo hn;refine⟨v',H',hA,⟨cs++[x],hO,by simp[h2],fun j r' c hr hc=>?_⟩,hL,fun k hk hkl=>hp k hk fun g n he=>?_⟩
 ·have key:∀u l,ay lo H e0 u l->ay lo H' e0 u l:=fun u l hu=>h1.ru hu hne hL hp;rcases Ql j O.length with hj|hj
  ·rw[P3 hj]at hr;rw[P3 U]at hc;exact key _ _ (h3 j r' c hr hc)
  ·rw[Qc hj]at hr;rw[Qc U]at hc;have hj0:j-O.length=0:=by
    rcases Q6 (j-O.length) with h|h
    ·exact h
    ·rw[P7 (by simp;omega)]at hr;cases hr
   have hj1:j-cs.length=0:=U;rw[hj0]at hr;rw[hj1]at hc;cases hr;cases hc;exact key _ _ hx
 ·rcases h1 with ⟨rfl,_⟩|⟨i,g2,a1,_,rfl,_⟩
  ·cases he
  ·have:=Ty.V.inj he;omega
attribute [go_sem] Int.reduceToNat Int.reduceLE Int.reduceLT Int.reduceAdd Int.reduceSub Int.reduceMul Int.reduceEq Int.reduceNe Nat.reduceEqDiff Nat.reducePow Nat.reduceDiv Nat.reduceMod Nat.reduceAdd Nat.reduceMul Nat.reduceSub Nat.reduceLT Nat.reduceLeDiff reduceIte reduceCtorEq
end Go.Hx
namespace Go.Hx
variable {P:Program} {G:Nat->Option (List Ty)} {Γ Γ':ar} {H H' H1 H2:Tz} {w w':World}
variable {g id:Nat}{K:TF->Tz->Prop}{v v':Ty}{e:TypeId}
inductive Ua (id g:Nat):Ty->Ty->Prop
  |same (v:Ty):Ua id g v v
  |hole:Ua id g (.V id g 0 0 1) (.V id (g+1) 0 0 1)
  |M {len:Nat} {c c':List Ty} (hl:c'.length=c.length) (h:∀i (h:i<c.length) (h':i<c'.length),Ua id g c[i] c'[i]):Ua id g (.M len c) (.M len c')
  |agg {c c':List Ty} (hl:c'.length=c.length) (h:∀i (h:i<c.length) (h':i<c'.length),Ua id g c[i] c'[i]):Ua id g (.agg c) (.agg c')
def Ua.sound {cells:List Ty}(E:TJ Γ H1 w Γ H2 w)(hn:H1.C<=H2.C)(hg1:H1.get id=some (.L g e cells))(hg2:H2.get id=some (.L (g+1) e []))
     (hb:Ua id g v v'):∀ {cv:Value},TB P Γ H1 w v cv->TB P Γ H2 w v' cv:=by
  induction hb with
  |same v=>exact fun h=>h.aU E hn
  |hole =>
    intro cv h;cases h with
    |V h =>
      obtain⟨h0,h1,h2,h3⟩:=h;have h4:=(h3 _ _ _ hg1).2 rfl;refine .V ⟨P5 h0 hn,h1,by rw[hg2];simp,fun g' e' c' h=>?_⟩;rw[hg2]at h;cases h;refine⟨Tx,fun _=>?_⟩;cases hΓ:Γ id with
      |none=>rw[hΓ]at h4;exact h4
      |some y =>
        obtain⟨b,base,n⟩:=y;rw[hΓ]at h4;obtain⟨a,cap,a1,a2,a3,a4⟩:=h4;exact⟨a,cap,a1,a2,Tu,a4⟩
  |M hl hc ih =>
    intro cv h;cases h with
    |nj a cap =>
      rename_i c';obtain rfl:=P1 (l:=c') (by simpa using hl);exact .nj a cap
    |M hb hlt hlen hcs hcell hrel=>exact .M hb hlt hlen U hcell fun i a b=>ih i U a (hrel i U b)
  |agg hl hc ih =>
    intro cv h;cases h with
    |agg hcs hrel=>exact .agg U fun i a b=>ih i U a (hrel i U b)
def xS {cells:List Ty}(hg:H.get id=some (.L g e cells)):TJ Γ H w Γ (H.upd id (.L (g+1) e [])) w :=
  ⟨rfl,rfl,rfl,Tx,fun b _ ho=>⟨rfl,ho⟩,fun j _ _ x' hx=>by
    rw[ab]at hx;by_cases hj:j=id
    · rw[PZ hj]at hx;cases hx;exact⟨_,by rw[hj];exact hg,by simp[TE.le]⟩
    · rw[PX hj]at hx;exact⟨x',hx,TE.le_refl _ _ _⟩,fun _ _=>rfl,.refl _,.refl _ _⟩
def Dx {cells:List Ty}(R:TG P G Γ H w)(hg:H.get id=some (.L g e cells)):TG P G Γ (H.upd id (.L (g+1) e [])) w:=by
  have E:TJ Γ H w Γ (H.upd id (.L (g+1) e [])) w:=xS hg;have hne:∀j b,(H.upd id (.L (g+1) e [])).get j=some b->(∀g e c,b≠.L g e c)->H.get j=some b:=fun j b h hb=>by
    rw[ab]at h;by_cases hj:j=id
    · rw[PZ hj]at h;cases h;exact absurd rfl (hb _ _ _)
    · rw[PX hj]at h;exact h
  refine
    { L:=fun j g1 e1 c1 h1=>?_
      loop:=fun j st pend n env ps asg body h1=>?_
      mp:=fun j es h1=>R.mp j es (hne j _ h1 fun _ _ _ h=>by cases h)
      ni:=fun j h1=>R.ni j (hne j _ h1 fun _ _ _ h=>by cases h)
      inj:=R.inj
      nt:=fun j x hx=>?_
      lt:=R.lt
      C:=fun j y hy=>?_
      nr:=fun g cells h=>(R.nr g cells h).aU E (Nat.le_refl _)
      gsz:=R.gsz }
  · rw[ab]at h1;by_cases hj:j=id
    · rw[PZ hj]at h1;cases h1;have h2:=R.L id g e cells hg;rw[hj];cases hΓ:Γ id with
      |none=>rfl
      |some y =>
        obtain⟨b,base,n⟩:=y;rw[hΓ]at h2;obtain⟨c,a1,a2,a3,_⟩:=h2;exact⟨c,a1,a2,by simp only[List.length_nil];omega,fun i h=>absurd h (Qf _)⟩
    · rw[PX hj]at h1;have h2:=R.L j g1 e1 c1 h1;cases hΓ:Γ j with
      |none=>rw[hΓ]at h2;exact h2
      |some y =>
        obtain⟨b,base,n⟩:=y;rw[hΓ]at h2;obtain⟨c,a1,a2,a3,a4⟩:=h2;exact⟨c,a1,a2,a3,fun i h=>let ⟨cv,b1,b2⟩:=a4 i h;⟨cv,b1,b2.aU E Tx⟩⟩
  · obtain⟨b,rr,a1,a2,a3,a4,a5,a6,a7,a8,a9⟩:=R.loop j st pend n env ps asg body (hne j _ h1 fun _ _ _ h=>by cases h);exact⟨b,rr,a1,a2,a3,a4,a5,a6,a7,a8,fun t ht=>(a9 t ht).aU E Tx⟩
  · rw[ab];split
    · exact⟨_,rfl⟩
    · exact R.nt j x hx
  · rw[ab]at hy;rw[aq];by_cases hj:j=id
    · rw[hj];exact R.C id _ hg
    · rw[PX hj]at hy;exact R.C j y hy
def aw.hole (hG:dJ G)(ho:TC H H2){cells:List Ty}(hid:H.C<=id)(hg:H2.get id=some (.L g e cells)){v2:Ty}
    (hv:Fz (fun j=>H.C<=j/\j≠id) H2 H2.C v v') (hb:Ua id g v' v2)
    (hk:∀H',H'.C=H2.C->(∀j,j<H.C->H'.get j=H.get j)->H'.get id=some (.L (g+1) e [])->K (.ret v2) H'):aw P G H K v H2:=by
  obtain⟨H1,hH1⟩:∃H1:Tz,H1=⟨fun j=>if j=id\/j<H.C then H2.get j else none,H2.C⟩:=⟨_,rfl⟩
  have g1:H1.get id=some (.L g e cells):=by rw[hH1];exact(PZ (.inl rfl)).trans hg
  refine⟨v2,H1.upd id (.L (g+1) e []),fun Γ w R=>?_,by rw[aq,hH1];exact ho.C,hk _ (by rw[aq,hH1]) (fun j hj=>?_) (by rw[ab,PZ rfl])⟩
  · have hc:=R.nl;have F : T8 (fun j=>H.C≤j∧j≠id) H2 H1:=by
      refine⟨fun j hj=>?_,fun j b hj hb=>?_,fun j hj hn=>?_⟩
      · rw[hH1];exact PX fun h=>h.elim hj.2 fun h=>by have:=hj.1;omega
      · have hjj : j=id∨j<H.C:=by
          by_cases h:j=id
          · exact .inl h
          · exact .inr (RZ fun h2=>hj ⟨h2,h⟩)
        have h1:H1.get j=some b:=(by rw[hH1];exact(PZ hjj).trans hb);have hnx:H1.C=H2.C:=(by rw[hH1]);have hbb:=hc.below j b hb;refine⟨by rw[hnx];exact hc.lt j b hb,b,h1,?_⟩;rw[hnx];cases b with
        |ni=>trivial
        |mp=>rfl
        |L g e cells=>exact⟨rfl,rfl,rfl,fun i h _=>.dead (hbb i h)⟩
        |loop st pend n env ps asg body=>exact⟨rfl,rfl,rfl,rfl,rfl,rfl,rfl,fun t ht=>.dead (hbb t ht)⟩
      · rw[hH1];show (if j=id\/j<H.C then H2.get j else none)=none;split
        · exact hn
        · rfl
    have R1:TG P G (c7 (fun j=>H.C<=j/\j≠id) Γ) H1 w:=F.rel hG R;have E1:TJ Γ H2 w (c7 (fun j=>H.C<=j/\j≠id) Γ) H1 w:=F.aU;have E2:TJ (c7 (fun j=>H.C<=j/\j≠id) Γ) H1 w (c7 (fun j=>H.C<=j/\j≠id) Γ) (H1.upd id (.L (g+1) e [])) w:=xS g1;refine⟨_,Dx R1 g1,E1.trans (by rw[hH1];exact Nat.le_refl _) E2,fun cv h=>?_⟩;have hv':Fz (fun j=>H.C<=j/\j≠id) H2 H1.C v v':=(by rw[hH1];exact hv);exact hb.sound E2 Tx g1 (by rw[ab,PZ rfl]) (hv'.sound R F h)
  · rw[ab,PX U,hH1];exact(PZ (.inr hj)).trans (ho.nb j hj)
inductive Uf (H:Tz):Ty->Ty->Prop
  |same (v:Ty):Uf H v v
  |V {id g o z:Nat} {e:TypeId} {cells:List Ty} (hg:H.get id=some (.L g e cells)):Uf H (.V id g o 0 z) (.M 0 [])
  |M {len:Nat} {c c':List Ty} (hl:c'.length=c.length) (h:∀i (h:i<c.length) (h':i<c'.length),Uf H c[i] c'[i]):Uf H (.M len c) (.M len c')
  |agg {c c':List Ty} (hl:c'.length=c.length) (h:∀i (h:i<c.length) (h':i<c'.length),Uf H c[i] c'[i]):Uf H (.agg c) (.agg c')
def Uf.sound (hb:Uf H v v'):∀ {cv:Value},TB P Γ H w v cv->TB P Γ H w v' cv:=by
  induction hb with
  |same v=>exact fun h=>h
  | @V id g o z e cells hg =>
    intro cv h;cases h with
    |V h =>
      obtain⟨_,_,_,h3⟩:=h;have h4:=(h3 _ _ _ hg).2 rfl;cases hΓ:Γ id with
      |none =>
        rw[hΓ]at h4;obtain⟨_,_,rfl⟩:=h4;exact .nj none 0
      |some y =>
        obtain⟨b,base,n⟩:=y;rw[hΓ]at h4;obtain⟨a,cap,rfl,_⟩:=h4;exact .nj _ _
  |M hl hc ih =>
    intro cv h;cases h with
    |nj a cap =>
      rename_i c';obtain rfl:=P1 (l:=c') (by simpa using hl);exact .nj a cap
    |M hb hlt hlen hcs hcell hrel=>exact .M hb hlt hlen U hcell fun i a b=>ih i U a (hrel i U b)
  |agg hl hc ih =>
    intro cv h;cases h with
    |agg hcs hrel=>exact .agg U fun i a b=>ih i U a (hrel i U b)
def af.emp {f:FuncId}{args args':List Ty}(hl:args'.length=args.length)(hv:∀i (h:i<args.length) (h':i<args'.length),Uf H args[i] args'[i])
    (h:af P G f args' H K):af P G f args H K :=
  ⟨h.1,fun Γ w cargs R hr=>h.2 Γ w cargs R ⟨by have:=hr.1;omega,fun i a b=>(hv i U a).sound (hr.2 i U b)⟩⟩
end Go.Hx
