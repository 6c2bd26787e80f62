/-
  Closed facts of this seat's types. Laid by a program of ours.
-/
import Derived.Test.YtikgmgmphkalkaaDoorProg
import Derived.Test.YtikgmgmphkalkaaDoorLibD
import Derived.Test.YtikgmgmphkalkaaDoorLibB
import Derived.Test.YtikgmgmphkalkaaDoorRows
import Derived.Test.YtikgmgmphkalkaaDoorLibC
import Derived.ProofKit
import Derived.LaidMore
import Derived.Stop.Joined
set_option linter.all false
namespace Go.Proofs
open Go.Hx
theorem Tryd.mixed:Tryd.prog.follows .mixedOrders = true := by kernel_rfl
theorem Tryd.lj:Tryd.prog.cellsOf 3 = 1 := by kernel_rfl
theorem Tryd.lk:Tryd.prog.bytesOf 3 = 8 := by kernel_rfl
theorem Tryd.ll:bH Tryd.prog 3 = some [.lit (.int .i64 0)] := by kernel_rfl
theorem Tryd.Mt:Tryd.prog.cellsOf 4 = 1 := by kernel_rfl
theorem Tryd.Mu:bH Tryd.prog 4 = some [.lit (.bool false)] := by kernel_rfl
theorem Tryd.ti:Tryd.prog.cellsOf 5 = 1 := by kernel_rfl
theorem Tryd.tj:Tryd.prog.cellsOf 22 = 1 := by kernel_rfl
theorem Tryd.tk:Tryd.prog.bytesOf 22 = 24 := by kernel_rfl
theorem Tryd.tl:bH Tryd.prog 22 = some [.lit (.slice none 0 0)] := by kernel_rfl
theorem Tryd.Bp:Tryd.prog.cellsOf 23 = 1 := by kernel_rfl
theorem Tryd.Mv:Tryd.prog.cellsOf 27 = 1 := by kernel_rfl
theorem Tryd.Mw:bH Tryd.prog 27 = some [.lit (.int .i64 0)] := by kernel_rfl
theorem Tryd.Bq:Tryd.prog.cellsOf 35 = 1 := by kernel_rfl
theorem Tryd.Mx:Tryd.prog.cellsOf 37 = 4 := by kernel_rfl
theorem Tryd.My:bW Tryd.prog 37 0 = some (0, 23) := by kernel_rfl
theorem Tryd.Mz:bW Tryd.prog 37 1 = some (1, 35) := by kernel_rfl
theorem Tryd.MA:bW Tryd.prog 37 2 = some (2, 5) := by kernel_rfl
theorem Tryd.MB:bW Tryd.prog 37 3 = some (3, 23) := by kernel_rfl
theorem Tryd.Br:Tryd.prog.cellsOf 41 = 1 := by kernel_rfl
theorem Tryd.MC:Tryd.prog.cellsOf 43 = 8 := by kernel_rfl
theorem Tryd.MD:bW Tryd.prog 43 0 = some (0, 5) := by kernel_rfl
theorem Tryd.ME:bW Tryd.prog 43 1 = some (1, 40) := by kernel_rfl
theorem Tryd.MF:bW Tryd.prog 43 2 = some (7, 41) := by kernel_rfl
theorem Tryd.MG:Tryd.prog.cellsOf 44 = 1 := by kernel_rfl
theorem Tryd.MH:Tryd.prog.cellsOf 48 = 1 := by kernel_rfl
theorem Tryd.MI:Tryd.prog.cellsOf 50 = 2 := by kernel_rfl
theorem Tryd.MJ:bH Tryd.prog 50 = some [.lit (.slice none 0 0), .lit (.slice none 0 0)] := by kernel_rfl
theorem Tryd.MK:bW Tryd.prog 50 0 = some (0, 22) := by kernel_rfl
theorem Tryd.ML:bW Tryd.prog 50 1 = some (1, 48) := by kernel_rfl
theorem Tryd.MM:Tryd.prog.cellsOf 59 = 1 := by kernel_rfl
theorem Tryd.MN:Tryd.prog.cellsOf 61 = 2 := by kernel_rfl
theorem Tryd.MO:bH Tryd.prog 61 = some [.lit (.int .i64 0), .lit (.slice none 0 0)] := by kernel_rfl
theorem Tryd.MP:kx Tryd.prog 61 = some [(0, 1), (1, 1)] := by kernel_rfl
theorem Tryd.MQ:bW Tryd.prog 61 0 = some (0, 3) := by kernel_rfl
theorem Tryd.MR:bW Tryd.prog 61 1 = some (1, 59) := by kernel_rfl
theorem Tryd.MS:bH Tryd.prog 74 = some [.lit (.int .u8 0), .lit (.int .u8 0), .lit (.int .u8 0), .lit (.int .i64 0)] := by kernel_rfl
theorem Tryd.MT:kx Tryd.prog 74 = some [(0, 1), (1, 1), (2, 1), (3, 1)] := by kernel_rfl
theorem Tryd.MU:bW Tryd.prog 74 0 = some (0, 5) := by kernel_rfl
theorem Tryd.MV:bW Tryd.prog 74 1 = some (1, 5) := by kernel_rfl
theorem Tryd.MW:bW Tryd.prog 74 2 = some (2, 5) := by kernel_rfl
theorem Tryd.MX:Tryd.prog.cellsOf 83 = 18 := by kernel_rfl
theorem Tryd.MY:bH Tryd.prog 83 = some [.lit (.int .i64 0), .lit (.int .i64 0), .lit (.int .i64 0), .lit (.int .i64 0), .lit (.int .i64 0), .lit (.int .i64 0), .lit (.int .i64 0), .lit (.int .i64 0), .lit (.int .i64 0), .lit (.int .i64 0), .lit (.int .i64 0), .lit (.int .i64 0), .lit (.int .i64 0), .lit (.int .i64 0), .lit (.int .i64 0), .lit (.int .i64 0), .lit (.int .i64 0), .lit (.int .i64 0)] := by kernel_rfl
theorem Tryd.MZ:Tryd.prog.cellsOf 84 = 18 := by kernel_rfl
theorem Tryd.M0:bH Tryd.prog 84 = some [.lit (.int .i64 0), .lit (.int .i64 0), .lit (.int .i64 0), .lit (.int .i64 0), .lit (.int .i64 0), .lit (.int .i64 0), .lit (.int .i64 0), .lit (.int .i64 0), .lit (.int .i64 0), .lit (.int .i64 0), .lit (.int .i64 0), .lit (.int .i64 0), .lit (.int .i64 0), .lit (.int .i64 0), .lit (.int .i64 0), .lit (.int .i64 0), .lit (.int .i64 0), .lit (.int .i64 0)] := by kernel_rfl
theorem Tryd.wO:Tryd.prog.cellsOf 91 = 3 := by kernel_rfl
theorem Tryd.wP:Tryd.prog.bytesOf 91 = 56 := by kernel_rfl
theorem Tryd.wQ:bH Tryd.prog 91 = some [.lit (.int .i64 0), .lit (.slice none 0 0), .lit (.slice none 0 0)] := by kernel_rfl
theorem Tryd.M1:kx Tryd.prog 91 = some [(0, 1), (1, 1), (2, 1)] := by kernel_rfl
theorem Tryd.M3:bW Tryd.prog 91 0 = some (0, 3) := by kernel_rfl
theorem Tryd.M4:bW Tryd.prog 91 1 = some (1, 22) := by kernel_rfl
theorem Tryd.M5:bW Tryd.prog 91 2 = some (2, 48) := by kernel_rfl
theorem Tryd.Bs:Tryd.prog.cellsOf 100 = 1 := by kernel_rfl
theorem Tryd.Bt:Tryd.prog.bytesOf 100 = 8 := by kernel_rfl
theorem Tryd.Bu:bH Tryd.prog 100 = some [.lit (.int .u64 0)] := by kernel_rfl
theorem Tryd.M6:Tryd.prog.cellsOf 112 = 5 := by kernel_rfl
theorem Tryd.M7:Tryd.prog.cellsOf 119 = 1 := by kernel_rfl
theorem Tryd.M8:bH Tryd.prog 119 = some [.lit (.map none)] := by kernel_rfl
theorem Tryd.M9:Tryd.prog.cellsOf 153 = 5 := by kernel_rfl
theorem Tryd.Na:bH Tryd.prog 153 = some [.lit (.int .i64 0), .lit (.slice none 0 0), .lit (.slice none 0 0), .lit (.slice none 0 0), .lit (.slice none 0 0)] := by kernel_rfl
theorem Tryd.Nb:kx Tryd.prog 153 = some [(0, 2), (2, 1), (3, 1), (4, 1)] := by kernel_rfl
theorem Tryd.Nc:bW Tryd.prog 153 0 = some (0, 61) := by kernel_rfl
theorem Tryd.Nd:bW Tryd.prog 153 1 = some (2, 22) := by kernel_rfl
theorem Tryd.Nf:bW Tryd.prog 153 2 = some (3, 44) := by kernel_rfl
theorem Tryd.Ng:bW Tryd.prog 153 3 = some (4, 22) := by kernel_rfl
attribute [go_sem] Tryd.underlying3 Tryd.lj Tryd.lk Tryd.ll Tryd.underlying4 Tryd.Mt Tryd.Mu Tryd.underlying5 Tryd.ti
attribute [go_sem] Tryd.underlying9 Tryd.underlying22 Tryd.tj Tryd.tk Tryd.tl Tryd.underlying23 Tryd.Bp
attribute [go_sem] Tryd.underlying24 Tryd.underlying25 Tryd.underlying26
attribute [go_sem] Tryd.underlying27 Tryd.Mv Tryd.Mw Tryd.underlying35 Tryd.Bq Tryd.underlying36
attribute [go_sem] Tryd.underlying37 Tryd.Mx Tryd.My Tryd.Mz
attribute [go_sem] Tryd.MA Tryd.MB Tryd.underlying38 Tryd.underlying39
attribute [go_sem] Tryd.underlying40 Tryd.underlying41 Tryd.Br
attribute [go_sem] Tryd.underlying42 Tryd.underlying43 Tryd.MC
attribute [go_sem] Tryd.MD Tryd.ME Tryd.MF Tryd.underlying44 Tryd.MG Tryd.underlying45
attribute [go_sem] Tryd.underlying46 Tryd.underlying47
attribute [go_sem] Tryd.underlying48 Tryd.MH
attribute [go_sem] Tryd.underlying49 Tryd.underlying50 Tryd.MI Tryd.MJ
attribute [go_sem] Tryd.MK Tryd.ML Tryd.underlying54 Tryd.underlying56 Tryd.underlying57
attribute [go_sem] Tryd.underlying58 Tryd.underlying59 Tryd.MM Tryd.underlying60
attribute [go_sem] Tryd.underlying61 Tryd.MN Tryd.MO Tryd.MP Tryd.MQ Tryd.MR
attribute [go_sem] Tryd.underlying70 Tryd.underlying71
attribute [go_sem] Tryd.underlying72 Tryd.underlying73
attribute [go_sem] Tryd.underlying74 Tryd.MS Tryd.MT Tryd.MU Tryd.MV
attribute [go_sem] Tryd.MW Tryd.underlying75 Tryd.underlying81 Tryd.underlying82
attribute [go_sem] Tryd.underlying83 Tryd.MX Tryd.MY Tryd.underlying84 Tryd.MZ Tryd.M0 Tryd.underlying90
attribute [go_sem] Tryd.underlying91 Tryd.wO Tryd.wP Tryd.wQ Tryd.M1 Tryd.M3
attribute [go_sem] Tryd.M4 Tryd.M5 Tryd.underlying100 Tryd.Bs Tryd.Bt Tryd.Bu Tryd.underlying106 Tryd.underlying112 Tryd.M6
attribute [go_sem] Tryd.underlying119 Tryd.M7 Tryd.M8 Tryd.underlying123
attribute [go_sem] Tryd.underlying124 Tryd.underlying127
attribute [go_sem] Tryd.underlying128
attribute [go_sem] Tryd.underlying130 Tryd.underlying131
attribute [go_sem] Tryd.underlying152
attribute [go_sem] Tryd.underlying153 Tryd.M9 Tryd.Na Tryd.Nb Tryd.Nc Tryd.Nd Tryd.Nf Tryd.Ng
attribute [go_sem] Tryd.underlying161 Tryd.underlying164 Tryd.underlying168
attribute [go_sem] Tryd.underlying180
def aD (l:List (List Int)):AVal := .vec l.length (l.map ag)
structure NodeP where
  card:Int
  parents:List Int
  rows:List (List Int)
structure UtilP where
  vars:List Int
  w:List Int
def NodeP.cells (x:NodeP):List AVal := [ab x.card, ag x.parents, aD x.rows]
def UtilP.cells (x:UtilP):List AVal := [ag x.vars, ag x.w]
def aK (l:List NodeP):List AVal := (l.map NodeP.cells).flatten
def Ov (l:List UtilP):List AVal := (l.map UtilP.cells).flatten
def ep (l:List NodeP):AVal := .vec l.length (aK l)
def xf (l:List UtilP):AVal := .vec l.length (Ov l)
def dp (g:Int)(l:List NodeP):AVal := .agg [ab g, ep l]
structure InfP where
  grain:Int
  nodes:List NodeP
  decs:Nat
  utils:List UtilP
theorem mz {α:Type}{f:α -> List AVal}{z:Nat}(hz:∀ a, (f a).length = z):∀ (l:List α) (i j:Nat) (a:α), l[i]? = some a -> j < z -> ((l.map f).flatten)[i * z + j]? = (f a)[j]? := by
  intro l
  induction l with
  | nil => intro i j a h; simp at h
  | cons x l ih =>
    intro i j a h hj
    simp only[List.map_cons, List.flatten_cons]
    cases i with
    | zero =>
      simp only[List.getElem?_cons_zero, Option.some.injEq]at h
      subst h
      rw[Sj, Nat.zero_add, Q0 (by rw[hz]; exact hj)]
    | succ i =>
      have:(i + 1) * z + j = z + (i * z + j) := by rw[RI]; omega
      rw[this, Q2 (by rw[hz]; omega), hz]
      have:z + (i * z + j) - z = i * z + j := by omega
      rw[this]
      exact ih i j a (by simpa using h) hj
theorem Ca {α:Type}{f:α -> List AVal}{z:Nat}(hz:∀ a, (f a).length = z)(l:List α):((l.map f).flatten).length = l.length * z := by
  induction l with
  | nil => simp
  | cons x l ih => simp only[List.map_cons, List.flatten_cons, List.length_append, ih, hz, List.length_cons]; rw[RI]; omega
theorem Ow {α:Type}{f:α -> List AVal}{z:Nat}(hz:∀ a, (f a).length = z):∀ (l:List α) (i:Nat) (a:α), l[i]? = some a -> (((l.map f).flatten).drop (i * z)).take z = f a := by
  intro l i a h
  apply Q9
  intro j
  by_cases hj:j < z
  · rw[RD hj, List.getElem?_drop, mz hz l i j a h hj]
  · rw[QR (by simp; omega), QR (by rw[hz]; omega)]
theorem iy (l:List NodeP):(aK l).length = l.length * 3 := Ca (f := NodeP.cells) (fun _ => rfl) l
theorem xh {l:List NodeP}{i:Nat}{x:NodeP}(h:l[i]? = some x):(aK l)[i * 3]? = some (ab x.card) := mz (f := NodeP.cells) (z := 3) (fun _ => rfl) l i 0 x h (by omega)
theorem xj {l:List NodeP}{i:Nat}{x:NodeP}(h:l[i]? = some x):(aK l)[i * 3 + 1]? = some (ag x.parents) := mz (f := NodeP.cells) (z := 3) (fun _ => rfl) l i 1 x h (by omega)
theorem Ox {l:List NodeP}{i:Nat}{x:NodeP}(h:l[i]? = some x):(aK l)[i * 3 + 2]? = some (aD x.rows) := mz (f := NodeP.cells) (z := 3) (fun _ => rfl) l i 2 x h (by omega)
theorem oo {l:List NodeP}{i:Nat}{x:NodeP}(h:l[i]? = some x):((aK l).drop (i * 3)).take 3 = [ab x.card, ag x.parents, aD x.rows] := Ow (f := NodeP.cells) (z := 3) (fun _ => rfl) l i x h
theorem jv {l:List NodeP}{i:Nat}{x:NodeP}(h:l[i]? = some x):¬ aK l = [] := fun e => by
  have := xh h; rw[e]at this; simp at this
theorem get_lt {α:Type}{l:List α}{i:Nat}{x:α}(h:l[i]? = some x):i < l.length := by
  rcases Q3 i l.length with h' | h'
  · exact h'
  · rw[QR h']at h; cases h
theorem get_of_lt {α:Type}{l:List α}{i:Nat}(h:i < l.length):∃ x, l[i]? = some x := ⟨_, QK h⟩
theorem lG {α:Type}{l:List α}{i:Int}(h0:0 <= i)(h:i < l.length):∃ k:Nat, i = k /\ ∃ x, l[k]? = some x := ⟨i.toNat, by omega, get_of_lt (by omega)⟩
def aQ (l:List Int):Int := l.foldl (· * ·) 1
theorem Cb (l:List Int)(a:Int):l.foldl (· * ·) a = a * aQ l := by
  unfold aQ
  induction l generalizing a with
  | nil => simp
  | cons x l ih => simp only[Ss]; rw[ih, ih (1 * x), TP, TB]
theorem kf:aQ [] = 1 := rfl
theorem qf (x:Int)(l:List Int):aQ (x :: l) = x * aQ l := by
  show List.foldl _ (1 * x) l = _; rw[Cb, TP]
theorem Oy (l l':List Int):aQ (l ++ l') = aQ l * aQ l' := by
  unfold aQ; rw[R9, Cb]; rfl
theorem iz (l:List Int)(x:Int):aQ (l ++ [x]) = aQ l * x := by rw[Oy, qf, kf, Um]
theorem aU {α:Type}{l:List α}{k:Nat}{x:α}(h:l[k]? = some x):l.take (k + 1) = l.take k ++ [x] := by
  rw[List.take_add_one, h]; rfl
theorem oq {l:List Int}(h:∀ x ∈ l, 1 <= x):1 <= aQ l := by
  induction l with
  | nil => decide
  | cons x l ih =>
    rw[qf]
    have h1 := ih fun y hy => h y (by simp [hy])
    have h2 := h x (by simp)
    have := S2 h2 h1 (by omega) (by omega)
    simpa using this
theorem tz {b:Int}{l:List Int}(hb:0 <= b)(h:∀ x ∈ l, 0 <= x /\ x <= b):0 <= aQ l /\ aQ l <= b ^ l.length := by
  induction l with
  | nil => exact⟨by decide, by simp [aQ]⟩
  | cons x l ih =>
    rw[qf]
    have h1 := ih fun y hy => h y (by simp [hy])
    have h2 := h x (by simp)
    refine⟨Sc h2.1 h1.1, ?_⟩
    have := S2 h2.2 h1.2 h1.1 hb
    rw[List.length_cons, Int.pow_succ, TH (b ^ l.length)]
    exact this
def aA (l:List NodeP):List Int := l.map (·.card)
def aI (l places:List Int):List Int := places.map fun p => l.getD p.toNat 0
def cD (places:List Int)(n:Int):Prop := places.Pairwise (· < ·) /\ ∀ p ∈ places, 0 <= p /\ p < n
end Go.Proofs
set_option maxRecDepth 100000
namespace Go.Proofs
open Go.Hx
def fG:List Int := [2, 3, 5, 7, 11, 13, 17, 19, 23, 29, 31, 37, 41, 43, 47, 53, 59, 61]
def G0:Nat -> Option (List AVal) := fun g => if g = 0 then some (ints fG) else none
theorem bz:el G0 := fun g cells h => by
  unfold G0 at h
  split at h
  · cases h
    refine .vptr fun i hi => ?_
    simp only[ints, QY]
    exact .lit _
  · cases h
theorem Lu (ρ:Env):af G0 ρ (.global 0) = .vptr (ints fG) 0 := rfl
def dA (l:List Int):List AVal := l.map fun n => .lit (.int .u8 n)
theorem sZ {l:List Int}{k:Nat}{a:Int}(h:l[k]? = some a):(dA l)[k]? = some (.lit (.int .u8 a)) := by unfold dA; rw[List.getElem?_map, h]; rfl
theorem jU (l:List Int):(dA l).length = l.length := by simp [dA]
end Go.Proofs
namespace Go.Proofs.YtikgmgmphkalkaaDoor
open Go.ChangeShapes Go.WideShapes Go.ChangeAt Go.RowKit Go.Hx
theorem Tryd.own:ownKnob Tryd.prog.godebug = none := by kernel_rfl
theorem Tryd.laidOut:laidOutB Tryd.prog = true := by kernel_rfl
theorem Tryd.Lm:Tryd.prog.underlying 4 = some .bool := by kernel_rfl
def A2:String := match (Rows.fitKnownRow.laid) with
  | p :: _ => p.1
  | [] => Tryd.f0.name
theorem Tryd.Lo:Tryd.prog.globalNamed A2 = some 0 := by kernel_rfl
theorem Tryd.Lp:(Tryd.prog.globals[0]?).map (·.type) = some 83 := by kernel_rfl
theorem Tryd.Lq:Tryd.prog.underlying 83 = some (.array 18 3) := by kernel_rfl
theorem Tryd.Lr:Tryd.prog.cellsOf 83 = 18 * Tryd.prog.cellsOf 3 := by kernel_rfl
theorem Tryd.Ls (os:Os)(args:Array Value):laidMetH Tryd.prog Rows.fitKnownRow.laid ((World.doorLaid Tryd.prog 400 os).forCall (fun _ _ => 0) ⟨#[], args, []⟩).memory :=
  laidMetH_of_parts3 (fuel := 8) (laidMet_of_run' 8 (by kernel_rfl) (by kernel_rfl)) (by kernel_rfl) (by kernel_rfl)
theorem Tryd.Lt {W:World}(h:laidMetH Tryd.prog Rows.fitKnownRow.laid W):tX Tryd.prog G0 W := by
  rw[MakeChecks.laidMetH_plain _ _ _ (by kernel_rfl)]at h
  obtain⟨ps, hL, _⟩ := h
  have hL':DataW.LaidVars Tryd.prog W [(A2, .agg (fG.map fun n => .lit (.int .i64 n)))] ps := hL
  obtain⟨h1, _⟩ := En Tryd.Lo Tryd.Lp Tryd.Lq Tryd.underlying3 Tryd.Lr hL'
  intro g cells hg
  unfold G0 at hg
  split at hg
  · rename_i h0
    subst h0
    cases hg
    exact h1
  · cases hg
section
variable {W:World} {H:Type} {enc:TypeId × Value -> H} {spare:Nat -> Bool} {held:Bool}
end
end Go.Proofs.YtikgmgmphkalkaaDoor
namespace Go.Hx
variable {P:Program} {G:Nat -> Option (List AVal)} {Γ Γ':au} {H H':AHeap} {w w':World}
theorem W.env {n:Nat}{rd:Option Nat}{Q:AX -> St -> Prop}{c:Code}{ρ:Env}{H:AHeap}(h:∀ E, E = ρ -> W P G n rd c Q ⟨E, H⟩):W P G n rd c Q ⟨ρ, H⟩ := h ρ rfl
theorem W.en {n:Nat}{rd:Option Nat}{Q:AX -> St -> Prop}{c:Code}{ρ:Env}{H:AHeap}(p:Env -> Prop)(hp:p ρ)(h:∀ E, p E -> W P G n rd c Q ⟨E, H⟩):W P G n rd c Q ⟨ρ, H⟩ := h ρ hp
theorem Below.mono {n m:Nat}{v:AVal}(h:Below n v)(hm:n <= m):Below m v := by
  induction h with
  | lit v => exact .lit v
  | vec h ih => exact .vec ih
  | vptr h ih => exact .vptr ih
  | agg h ih => exact .agg ih
  | tup h ih => exact .tup ih
  | clo h1 h2 ih1 ih2 => exact .clo ih1 ih2
  | own h => exact .own (by omega)
  | ptr h => exact .ptr (by omega)
  | yld h => exact .yld (by omega)
theorem xV {l:List AVal}{i:Nat}{x:AVal}(h:i < l.length):setAt l i [x] = l.set i x := by
  unfold setAt
  rw[SQ, QN h]
  simp
section
variable {t:TypeId} {x y:Operand} {k k':IntKind} {a b:Int}
theorem CY (hb:0 <= b):aZ P .shr t x y (.lit (.int k a)) (.lit (.int k' b)) = some (.lit (.int k (a.fdiv (2 ^ (min b.toNat k.bits))))) := by
  have h:¬ b < 0 := by omega
  simp [aZ, AVal.bG, eqGuard, binOp, Op.shift, h, bM, bind, Sem.bind, pure]
theorem Qb (hb:0 <= b):aZ P .shl t x y (.lit (.int k a)) (.lit (.int k' b)) = some (.lit (.int k (k.wrap (a * 2 ^ (min b.toNat k.bits))))) := by
  have h:¬ b < 0 := by omega
  simp [aZ, AVal.bG, eqGuard, binOp, Op.shift, h, bM, bind, Sem.bind, pure]
theorem CZ:aZ P .and t x y (.lit (.int k a)) (.lit (.int k b)) = some (.lit (.int k (k.wrap ((BitVec.ofInt k.bits a &&& BitVec.ofInt k.bits b).toNat:Nat)))) := by
  simp [aZ, AVal.bG, eqGuard, binOp, Op.intBits, bM, bind, Sem.bind, pure]
theorem Qc:aZ P .or t x y (.lit (.int k a)) (.lit (.int k b)) = some (.lit (.int k (k.wrap ((BitVec.ofInt k.bits a ||| BitVec.ofInt k.bits b).toNat:Nat)))) := by
  simp [aZ, AVal.bG, eqGuard, binOp, Op.intBits, bM, bind, Sem.bind, pure]
theorem Qd:aZ P .andNot t x y (.lit (.int k a)) (.lit (.int k b)) = some (.lit (.int k (k.wrap ((BitVec.ofInt k.bits a &&& ~~~ BitVec.ofInt k.bits b).toNat:Nat)))) := by
  simp [aZ, AVal.bG, eqGuard, binOp, Op.intBits, bM, bind, Sem.bind, pure]
def bq (m:Nat):AVal := .lit (.int .u64 (m:Int))
def g9 (a b:Nat):Nat := (BitVec.ofNat 64 a &&& ~~~ BitVec.ofNat 64 b).toNat
theorem tP {m:Nat}(h:m < 2 ^ 64):(BitVec.ofInt 64 (m:Int)).toNat = m := by rw[BitVec.ofInt_natCast, BitVec.toNat_ofNat, TI h]
theorem Qe (a b:Nat):g9 a b < 2 ^ 64 := (BitVec.isLt _)
theorem C0 {a b i:Nat}(ha:a < 2 ^ 64):(g9 a b).testBit i = (a.testBit i && !b.testBit i) := by
  unfold g9
  by_cases hi:i < 64
  · rw[<- BitVec.getLsbD, BitVec.getLsbD_and, BitVec.getLsbD_not, BitVec.getLsbD_ofNat, BitVec.getLsbD_ofNat]
    simp [hi]
  · have h1:a.testBit i = false := SS (QU ha (Rb (by decide) (by omega)))
    rw[h1, <- BitVec.getLsbD, BitVec.getLsbD_of_ge _ _ (by omega)]
    rfl
theorem tQ {m:Nat}(h:m < 2 ^ 64):IntKind.u64.wrap (m:Int) = m := Tv _ (by omega)
theorem Qf {a b:Nat}(ha:a < 2 ^ 64)(hb:b < 2 ^ 64):aZ P .and t x y (.lit (.int .u64 (a:Int))) (.lit (.int .u64 (b:Int))) = some (.lit (.int .u64 ((a &&& b:Nat):Int))) := by
  rw[CZ]
  have e:(BitVec.ofInt (IntKind.bits .u64) (a:Int) &&& BitVec.ofInt (IntKind.bits .u64) (b:Int)).toNat = a &&& b := by
    show (BitVec.ofInt 64 _ &&& BitVec.ofInt 64 _).toNat = _
    rw[BitVec.toNat_and, tP ha, tP hb]
  rw[e, tQ (Tc Nat.and_le_left ha)]
theorem oI {a b:Nat}(ha:a < 2 ^ 64)(hb:b < 2 ^ 64):aZ P .or t x y (.lit (.int .u64 (a:Int))) (.lit (.int .u64 (b:Int))) = some (.lit (.int .u64 ((a ||| b:Nat):Int))) := by
  rw[Qc]
  have e:(BitVec.ofInt (IntKind.bits .u64) (a:Int) ||| BitVec.ofInt (IntKind.bits .u64) (b:Int)).toNat = a ||| b := by
    show (BitVec.ofInt 64 _ ||| BitVec.ofInt 64 _).toNat = _
    rw[BitVec.toNat_or, tP ha, tP hb]
  rw[e, tQ (TD ha hb)]
theorem C1 {a b:Nat}:aZ P .andNot t x y (.lit (.int .u64 (a:Int))) (.lit (.int .u64 (b:Int))) = some (.lit (.int .u64 ((g9 a b:Nat):Int))) := by
  rw[Qd]
  have e:(BitVec.ofInt (IntKind.bits .u64) (a:Int) &&& ~~~ BitVec.ofInt (IntKind.bits .u64) (b:Int)).toNat = g9 a b := by
    show (BitVec.ofInt 64 _ &&& ~~~ BitVec.ofInt 64 _).toNat = _
    rw[BitVec.ofInt_natCast, BitVec.ofInt_natCast]
    rfl
  rw[e, tQ (Qe a b)]
theorem tS {a s:Nat}(ha:a < 2 ^ 64):aZ P .shr t x y (.lit (.int .u64 (a:Int))) (.lit (.int k' (s:Int))) = some (.lit (.int .u64 ((a >>> s:Nat):Int))) := by
  rw[CY (by omega), Int.toNat_natCast]
  have e:(a:Int).fdiv (2 ^ (min s (IntKind.bits .u64))) = ((a >>> s:Nat):Int) := by
    rw[S9 _ (by exact_mod_cast SX _), Sl]
    show (a:Int) / 2 ^ (min s 64) = _
    rcases T4 s 64 with h | h
    · rw[SP h]; push_cast; rfl
    · rw[TJ h]
      have h1:a / 2 ^ s = 0 := TK (QU ha (Rb (by decide) h))
      rw[h1]
      exact SW (by omega) (by omega)
  rw[e]
theorem oJ {s:Nat}(hs:s < 64):aZ P .shl t x y (.lit (.int .u64 1)) (.lit (.int k' (s:Int))) = some (.lit (.int .u64 ((2 ^ s:Nat):Int))) := by
  rw[Qb (by omega), Int.toNat_natCast]
  have e:min s (IntKind.bits .u64) = s := SP (by show s <= 64; omega)
  have h2:2 ^ s < 2 ^ 64 := Sm (by decide) hs
  rw[e, TP]
  have h3:((2:Int) ^ s) = ((2 ^ s:Nat):Int) := by push_cast; rfl
  rw[h3, tQ h2]
theorem xW {a s:Nat}(ha:a < 2 ^ 64):aZ P .and t x y (.lit (.int .u64 ((a >>> s:Nat):Int))) (.lit (.int .u64 1)) = some (.lit (.int .u64 (if a.testBit s then 1 else 0))) := by
  have h1:a >>> s < 2 ^ 64 := Tc (Nat.shiftRight_le _ _) ha
  have := Qf (P := P) (t := t) (x := x) (y := y) (a := a >>> s) (b := 1) h1 (by decide)
  rw[show (((1:Nat):Int)) = 1 from rfl]at this
  rw[this, Ty]
  congr 3
  rw[Nat.testBit, Nat.and_comm, Ty]
  rcases RG (a >>> s) with h | h <;> rw[h] <;> rfl
end
end Go.Hx
namespace Go.Proofs
open Go.Hx
theorem ez (H:AHeap)(b:Blk)(L:List Blk):(ext H (b :: L)).get H.next = some b := bP H (b :: L) 0 (by simp)
theorem aM {α:Type}{l:List α}{i:Nat}{a:α}(h:l[i]? = some a):¬ l = [] := by rintro rfl; simp at h
theorem fo {l:List Int}{i:Nat}{x:Int}(h:i < l.length):setAt (ints l) i [.lit (.int .i64 x)] = ints (l.set i x) := by
  rw[xV (by simpa [ints] using h)]
  simp [ints, ab]
theorem aJ (w:Bool):py w (some (.lit undef)) = some false := rfl
def aO (ns:List NodeP)(x:NodeP):List Int := aI (aA ns) x.parents
def dD:List Int -> List Int -> Int
  | _ :: cs, v :: vs => v * aQ cs + dD cs vs
  | _, _ => 0
def dq (cs vs:List Int):Prop := vs.length = cs.length /\ ∀ (k:Nat) (c v:Int), cs[k]? = some c -> vs[k]? = some v -> 0 <= v /\ v < c
theorem dq.tail {c v:Int}{cs vs:List Int}(h:dq (c :: cs) (v :: vs)):dq cs vs := ⟨by simpa using h.1, fun k c v h1 h2 => h.2 (k + 1) c v (by simpa using h1) (by simpa using h2)⟩
theorem dq.head {c v:Int}{cs vs:List Int}(h:dq (c :: cs) (v :: vs)):0 <= v /\ v < c := h.2 0 c v (by simp) (by simp)
theorem dq.pos {cs vs:List Int}(h:dq cs vs):∀ c ∈ cs, 1 <= c := fun c hc => by
  obtain⟨k, hk⟩ := Q4.1 hc
  obtain⟨v, hv⟩ := get_of_lt (l := vs) (i := k) (by rw[h.1]; exact get_lt hk)
  have := h.2 k c v hk hv
  omega
theorem ot:∀ {cs vs:List Int}, dq cs vs -> 0 <= dD cs vs /\ dD cs vs < aQ cs := by
  intro cs
  induction cs with
  | nil => intro vs _; cases vs <;> (simp [dD, kf])
  | cons c cs ih =>
    intro vs h
    cases vs with
    | nil => exact absurd h.1 (by simp)
    | cons v vs =>
      have h1 := ih h.tail
      have h2 := h.head
      have hp:1 <= aQ cs := oq fun x hx => h.pos x (by simp [hx])
      rw[qf]
      simp only[dD]
      have h3:0 <= v * aQ cs := Sc h2.1 (by omega)
      have h4:(v + 1) * aQ cs <= c * aQ cs := S4 (by omega) (by omega)
      rw[Un, TP]at h4
      omega
def eV (cs vs:List Int):Int := (cs.zip vs).foldl (fun a p => a * p.1 + p.2) 0
theorem Oz:∀ (cs vs:List Int), vs.length = cs.length -> ∀ a, (cs.zip vs).foldl (fun a p => a * p.1 + p.2) a = a * aQ cs + dD cs vs := by
  intro cs
  induction cs with
  | nil => intro vs _ a; simp [kf, dD]
  | cons c cs ih =>
    intro vs h a
    cases vs with
    | nil => simp at h
    | cons v vs =>
      simp only[Te, Ss]
      rw[ih vs (by simpa using h), qf]
      simp only[dD]
      rw[Un, TB]; omega
theorem tB {cs vs:List Int}(h:vs.length = cs.length):eV cs vs = dD cs vs := by
  unfold eV; rw[Oz cs vs h]; omega
theorem tC {cs vs:List Int}{k:Nat}{c v:Int}(h1:cs[k]? = some c)(h2:vs[k]? = some v):eV (cs.take (k + 1)) (vs.take (k + 1)) = eV (cs.take k) (vs.take k) * c + v := by
  unfold eV
  rw[aU h1, aU h2, List.zip_append (by have := get_lt h1; have := get_lt h2; simp; omega), R9]
  rfl
def eX (l:List Int):Prop := l.length <= 12 /\ ∀ x ∈ l, 0 <= x /\ x <= 8
theorem eX.prod {l:List Int}(h:eX l):0 <= aQ l /\ aQ l <= 68719476736 := by
  have h1 := tz (b := 8) (by omega) h.2
  have h2:(8:Int) ^ l.length <= 8 ^ 12 := by
    have:(8:Nat) ^ l.length <= 8 ^ 12 := Rb (by decide) h.1
    exact_mod_cast this
  exact⟨h1.1, Int.le_trans h1.2 h2⟩
theorem eX.take {l:List Int}(h:eX l)(k:Nat):eX (l.take k) := ⟨by have := h.1; simp; omega, fun x hx => h.2 x (Rs hx)⟩
theorem eX.drop {l:List Int}(h:eX l)(k:Nat):eX (l.drop k) := ⟨by have := h.1; simp; omega, fun x hx => h.2 x (Tq hx)⟩
theorem PH (l:List Int)(hl:eX l)(H:AHeap)(K:ARes -> AHeap -> Prop)(hK:K (.ret (ab (aQ l))) H):ah Tryd.prog G0 62 [ag l] H K := by
  have l12 := hl.1
  refine ah.cu (n := 18) (rs := [.tmp 2]) Tryd.func62 rfl rfl rfl (by decide) (by kernel_rfl) (by simp) ?_
  simp (config := { maxSteps := 1000000 }) only[go_sem, aa]
  refine W.aR 131064 (by rfl) (fun ρ H' => H' = H /\ ∃ k:Nat, ρ 4 = ab k /\ k <= l.length /\ ρ 3 = ab (aQ (l.take k))) (fun ρ H => l.length - (iv (ρ 4)).toNat) ?_ ?_
  · simp (config := { maxSteps := 1000000 }) only[go_sem, aa]
    exact⟨0, rfl, by omega, by simp [kf]⟩
  rintro ρ H' ⟨rfl, k, h4, hk, h3⟩
  refine W.vs ?_
  by_cases hb:(k:Int) < l.length
  · obtain⟨c, hc⟩ := get_of_lt (l := l) (i := k) (by omega)
    have hne := aM hc
    have b1 := (hl.take (k + 1)).prod
    rw[aU hc, iz]at b1
    simp (config := { maxSteps := 1000000 }) only[go_sem, h4, h3, hb, hc, hne, aa]
    rw[QL ((k:Int) + 1) (by omega), QL (_ * c) (by omega)]
    exact⟨⟨k + 1, by simp, by omega, by rw[aU hc, iz]⟩, by omega⟩
  · simp (config := { maxSteps := 1000000 }) only[go_sem, h4, h3, hb, aa]
    rw[QP (by omega)]
    exact az.mk (Nat.le_refl _) hK
instance placesDec (l:List Int)(n:Int):Decidable (cD l n) := by unfold cD; infer_instance
theorem cD.nil {n:Int}:cD [] n := ⟨.nil, fun _ h => by cases h⟩
theorem cD.take {l:List Int}{n:Int}(h:cD l n)(k:Nat):cD (l.take k) n := ⟨h.1.sublist (List.take_sublist k l), fun p hp => h.2 p (Rs hp)⟩
theorem cD.snoc {l:List Int}{n a:Int}(h:cD l n)(ha:0 <= a /\ a < n)(hl:∀ b, l.getLast? = some b -> b < a):cD (l ++ [a]) n := by
  refine⟨SG.2 ⟨h.1, by simp, fun x hx y hy => ?_⟩, fun p hp => ?_⟩
  · obtain rfl := List.mem_singleton.1 hy
    rcases List.eq_nil_or_concat l with rfl | ⟨l', b, rfl⟩
    · cases hx
    · have hb := hl b (by simp)
      simp only[List.concat_eq_append]at hx h
      rcases Q1.1 hx with hx | hx
      · have := (SG.1 h.1).2.2 x hx b (by simp)
        omega
      · obtain rfl := List.mem_singleton.1 hx; exact hb
  · rcases Q1.1 hp with hp | hp
    · exact h.2 p hp
    · obtain rfl := List.mem_singleton.1 hp; exact ha
theorem cD.lt {l:List Int}{n:Int}(h:cD l n){i j:Nat}{a b:Int}(ha:l[i]? = some a)(hb:l[j]? = some b)(hij:i < j):a < b := by
  have := TU.1 h.1 i j (get_lt ha) (get_lt hb) hij
  have e1 := QK (get_lt ha)
  have e2 := QK (get_lt hb)
  rw[ha]at e1; rw[hb]at e2
  rw[Option.some.inj e1, Option.some.inj e2]; exact this
theorem cD.len {l:List Int}{n:Int}(h:cD l n):(l.length:Int) <= max n 0 := by
  -- the k-th place is at least k
  have key:∀ (k:Nat) (a:Int), l[k]? = some a -> (k:Int) <= a := by
    intro k
    induction k with
    | zero => intro a ha; have := h.2 a (an ha); omega
    | succ k ih =>
      intro a ha
      obtain⟨b, hb⟩ := get_of_lt (l := l) (i := k) (by have := get_lt ha; omega)
      have := ih b hb
      have := h.lt hb ha (by omega)
      omega
  rcases Sf l.length with h0 | h0
  · omega
  · obtain⟨a, ha⟩ := get_of_lt (l := l) (i := l.length - 1) (by omega)
    have h1 := key _ a ha
    have h2 := h.2 a (an ha)
    omega
theorem xO {l:List Int}{j:Nat}{b:Int}(h:l[j]? = some b):(l.take (j + 1)).getLast? = some b := by rw[aU h]; simp
theorem PI (l:List Int)(n:Int)(hl:(l.length:Int) < 2 ^ 62)(H:AHeap)(K:ARes -> AHeap -> Prop)(hK:K (.ret (.lit (.bool (decide (cD l n))))) H):ah Tryd.prog G0 75 [ag l, ab n] H K := by
  have no:¬ cD l n -> az Tryd.prog G0 H K (.lit (.bool false)) H := fun h => az.mk (Nat.le_refl _) (by rw[RJ h]at hK; exact hK)
  refine ah.cu (n := 41) (rs := [.tmp 4]) Tryd.func75 rfl rfl rfl (by decide) (by kernel_rfl) (by simp) ?_
  simp (config := { maxSteps := 1000000 }) only[go_sem, aa]
  refine W.aR 2199023255536 (by rfl) (fun ρ H' => H' = H /\ ∃ k:Nat, ρ 5 = ab k /\ k <= l.length /\ cD (l.take k) n) (fun ρ H => l.length - (iv (ρ 5)).toNat) ?_ ?_
  · simp (config := { maxSteps := 1000000 }) only[go_sem, aa]
    exact⟨0, rfl, by omega, .nil⟩
  rintro ρ H' ⟨rfl, k, h5, hk, hp⟩
  refine W.vs ?_
  by_cases hb:(k:Int) < l.length
  · obtain⟨a, ha⟩ := get_of_lt (l := l) (i := k) (by omega)
    have hne := aM ha
    have ham := an ha
    simp (config := { maxSteps := 1000000 }) only[go_sem, h5, hb, aa]
    refine W.draw 26 [0, 0, 3, 7, 15, 31, 63, 63, 255, 511, 63, 2047, 4095, 8191, 16383, 32767, 65535, 131071, 131071, 524287, 1048575, 131071, 131071, 4325375, 14811135, 31588351] Tryd.mixed (by kernel_rfl) (by kernel_rfl) ?_
    by_cases c1:a < 0
    · simp (config := { maxSteps := 1000000 }) only[go_sem, h5, hb, ha, hne, c1, aJ, aa]
      exact no fun h => by have := h.2 a ham; omega
    by_cases c2:a >= n
    · simp (config := { maxSteps := 1000000 }) only[go_sem, h5, hb, ha, hne, c1, c2, aJ, aa]
      exact no fun h => by have := h.2 a ham; omega
    by_cases c3:(k:Int) > 0
    · obtain⟨j, rfl⟩:∃ j, k = j + 1 := ⟨k - 1, by omega⟩
      obtain⟨b, hbj⟩ := get_of_lt (l := l) (i := j) (by omega)
      have w1 := QL (j:Int) (by omega)
      have w2 := QL (((j + 1:Nat):Int) + 1) (by omega)
      have e1:((j + 1:Nat):Int) - 1 = j := by omega
      have hb1:(j:Int) < l.length := by omega
      have hbj' := hbj
      by_cases c4:a <= b
      · simp (config := { maxSteps := 1000000 }) only[go_sem, h5, hb, ha, hne, c1, c2, c3, c4, aJ, w1, e1, hb1, hbj, aa]
        exact no fun h => by have := h.lt hbj ha (by omega); omega
      · simp (config := { maxSteps := 1000000 }) only[go_sem, h5, hb, ha, hne, c1, c2, c3, c4, aJ, w1, w2, e1, hb1, hbj, aa]
        refine⟨⟨j + 1 + 1, by simp, by omega, ?_⟩, by omega⟩
        rw[aU ha]
        exact hp.snoc (by omega) fun b' hb' => by
          rw[xO hbj]at hb'
          cases hb'; omega
    · simp (config := { maxSteps := 1000000 }) only[go_sem, h5, hb, ha, hne, c1, c2, c3, aJ, aa]
      rw[QL ((k:Int) + 1) (by omega)]
      obtain rfl:k = 0 := by omega
      refine⟨⟨1, by simp, by omega, ?_⟩, by omega⟩
      rw[aU ha]
      exact hp.snoc (by omega) fun b' hb' => by simp at hb'
  · simp (config := { maxSteps := 1000000 }) only[go_sem, h5, hb, aa]
    rw[QP (by omega)]at hp
    rw[Rk hp]at hK
    exact az.mk (Nat.le_refl _) hK
end Go.Proofs
namespace Go.Hx
theorem Over.live {H H':AHeap}(h:Over H H'){id g:Nat}(hi:id < H.next):H'.live id g = H.live id g := by
  unfold AHeap.live; rw[h.old id hi]
theorem Over.upd {H H':AHeap}(h:Over H H'){id:Nat}(hi:H.next <= id)(b:Blk):Over H (H'.upd id b) := ⟨h.next, fun j hj => by rw[ao, QQ (by omega)]; exact h.old j hj⟩
theorem Qg {H:AHeap}{id g:Nat}{e:TypeId}{c:List AVal}:(H.upd id (.arr g e c)).live id g = some (e, c) := aq (by rw[ao, QN rfl])
theorem mG {H:AHeap}{id j g:Nat}{b:Blk}(h:j ≠ id):(H.upd id b).live j g = H.live j g := by unfold AHeap.live; rw[ao, QQ h]
attribute [go_sem] Qg
@[go_sem] theorem QI (a b:Array TypeId)(c:Bool)(n:Nat)(cells:List AVal)(off:Nat):ja (some (.func a b c)) n cells off = cells[off]? := rfl
end Go.Hx
namespace Go.Proofs
open Go.Hx
theorem xF {H H' H2:AHeap}{e:TypeId}{v:AVal}{cs:List AVal}(ov:Over H H')(h:aF H.next H' e v cs)(hn:H'.next <= H2.next)(hp:∀ k, k < H'.next -> (∀ g n, v ≠ .own k g 0 n 1) -> H2.get k = H'.get k):Over H H2 :=
  ⟨Ry ov.next hn, fun id hi => by
    rw[hp id (QU hi ov.next) fun g n he => ?_, ov.old id hi]
    rcases h with ⟨h, _⟩ | ⟨i2, g2, a1, _, h, _⟩
    · rw[h]at he; cases he
    · rw[h]at he; have := AVal.own.inj he; omega⟩
theorem xX {H H' : AHeap} {v : AVal} {l : List Int} (x : Int) (ov : Over H H') (h : aF H.next H' 3 v (ints l)) (hl : l.length < 2 ^ 40) :
    ∃ v' H2, bC Tryd.prog (ext H' [.arr 0 3 [.lit (.int .i64 x)]]) (H'.next + 1) 22 22 v (.own H'.next 0 0 1 1) = some (v', H2) /\ Over H H2 /\ aF H.next H2 3 v' (ints (l ++ [x])) /\ H'.next <= H2.next /\ (∀ k, k < H'.next -> (∀ g n, v ≠ .own k g 0 n 1) -> H2.get k = H'.get k) := by
  obtain⟨v', H2, hA, hO, hn2, hp⟩ := jQ (P := Tryd.prog) (H := H') (t := 22) (x := ab x) (n := H'.next + 1) Tryd.underlying22 Tryd.lj Tryd.ll rfl (by rw[Tryd.lk, aX]; omega) h ov.next rfl
  simp only[ab]at hA
  exact⟨v', H2, hA, xF ov h hn2 hp, by simpa [ints, ab] using hO, hn2, hp⟩
theorem Qh (l:List (List Int)):(aD l).one = true := rfl
theorem Qi (l:List (List Int)):(aD l).cells = [aD l] := rfl
theorem Qj (l:List NodeP):(ep l).one = true := rfl
theorem Qk (l:List NodeP):(ep l).cells = [ep l] := rfl
theorem Ql (l:List UtilP):(xf l).one = true := rfl
theorem Qm (l:List UtilP):(xf l).cells = [xf l] := rfl
attribute [go_sem] Qh Qi Qj Qk Ql Qm
structure OwnI (H H':AHeap)(id:Nat)(c:List Int):Prop where
  ov:Over H H'
  lo:H.next <= id
  hi:id < H'.next
  get:H'.get id = some (.arr 0 3 (ints c))
theorem OwnI.live {H H':AHeap}{id:Nat}{c:List Int}(h:OwnI H H' id c):H'.live id 0 = some (3, ints c) := aq h.get
theorem OwnI.ne {H H':AHeap}{id:Nat}{c:List Int}(h:OwnI H H' id c):¬ id = H'.next := by have := h.hi; omega
theorem OwnI.over {H H' H2:AHeap}{id:Nat}{c:List Int}(h:OwnI H H' id c)(o:Over H' H2):OwnI H H2 id c := ⟨h.ov.trans o, h.lo, QU h.hi o.next, (o.old id h.hi).trans h.get⟩
theorem OwnI.store {H H':AHeap}{id:Nat}{c:List Int}(h:OwnI H H' id c){k:Nat}(hk:k < c.length)(x:Int):OwnI H (H'.upd id (.arr 0 3 (setAt (ints c) k [.lit (.int .i64 x)]))) id (c.set k x) :=
  ⟨⟨h.ov.next, fun i hi => by rw[ao, QQ (by have := h.lo; omega)]; exact h.ov.old i hi⟩, h.lo, h.hi, by rw[ao, QN rfl, fo hk]⟩
theorem OwnI.new {H:AHeap}(L:List Blk)(n:Nat):OwnI H (ext H (.arr 0 3 (List.replicate n (.lit (.int .i64 0))) :: L)) H.next (List.replicate n 0) :=
  ⟨.ext _ _, Nat.le_refl _, by simp [dk], by rw[ez]; simp [ints, ab]⟩
theorem OwnI.fin {H H':AHeap}{id:Nat}{c:List Int}{K:ARes -> AHeap -> Prop}(hcl:Clo H)(h:OwnI H H' id c){n:Nat}(hn:n = c.length)(hK:K (.ret (ag c)) H):az Tryd.prog G0 H K (.own id 0 0 n 1) H' := by
  subst hn
  refine az.cC bz hcl h.ov ?_ hK
  exact .ints h.lo h.get (by simp) fun i hi => by simp [fC, hi]
theorem C3 {l m:List Int}{k:Nat}{x:Int}(h:l.take k = m.take k)(hk:k < l.length)(hx:m[k]? = some x):(l.set k x).take (k + 1) = m.take (k + 1) := by
  rw[aU hx, aU (show (l.set k x)[k]? = some x by rw[Rj hk]), Ug (Nat.le_refl k), h]
theorem aH {α:Type}{l:List α}{i:Nat}{a d:α}(h:l[i]? = some a):l.getD i d = a := by rw[QM, h]; rfl
theorem PJ {l places:List Int}{k:Nat}{p:Int}(h:places[k]? = some p):aI l (places.take (k + 1)) = aI l (places.take k) ++ [l.getD p.toNat 0] := by
  unfold aI; rw[aU h]; simp
theorem da {ns:List NodeP}{k:Nat}{x:NodeP}(h:ns[k]? = some x):(aA ns)[k]? = some x.card := by unfold aA; rw[List.getElem?_map, h]; rfl
theorem dE (ns:List NodeP):(aA ns).length = ns.length := by simp [aA]
theorem PK (l p:List Int)(hl:(l.length:Int) < 2 ^ 40)(hp:(p.length:Int) < 2 ^ 39)(hin:∀ q ∈ p, 0 <= q /\ q < l.length)(H:AHeap)(K:ARes -> AHeap -> Prop)(hK:K (.ret (ag (aI l p))) H):ah Tryd.prog G0 86 [ag l, ag p] H K := by
  refine ah.clo ⟨_, Tryd.func86, rfl, rfl⟩ fun hcl => ?_
  refine ah.cu (n := 24) (rs := [.tmp 4]) Tryd.func86 rfl rfl rfl (by decide) (by kernel_rfl) (by simp) ?_
  simp (config := { maxSteps := 1000000 }) only[go_sem, aa]
  refine W.aR 8388576 (by rfl) (fun ρ H' => ∃ k:Nat, ρ 6 = ab k /\ k <= p.length /\ Over H H' /\ aF H.next H' 3 (ρ 5) (ints (aI l (p.take k)))) (fun ρ H => p.length - (iv (ρ 6)).toNat) ?_ ?_
  · simp (config := { maxSteps := 1000000 }) only[go_sem, aa]
    exact⟨0, rfl, by omega, .refl _, .nil⟩
  rintro ρ H' ⟨k, h6, hk, ov, h5⟩
  refine W.vs ?_
  by_cases hb:(k:Int) < p.length
  · obtain⟨q, hq⟩ := get_of_lt (l := p) (i := k) (by omega)
    obtain⟨j, rfl, a, ha⟩ := lG (hin q (an hq)).1 (hin q (an hq)).2
    have hne := aM hq
    have hne2 := aM ha
    have hj := get_lt ha
    have hj':(j:Int) < l.length := by omega
    obtain⟨v', H2, hA, ov2, hO, hn2, _⟩ := xX a ov h5 (by simp [aI]; omega)
    have w1 := QL ((k:Int) + 1) (by omega)
    simp (config := { maxSteps := 1000000 }) only[go_sem, h6, hb, hq, hne, ha, hne2, hj', w1, hA]
    refine⟨by have := ov2.next; omega, ⟨k + 1, by simp, by omega, ov2, ?_⟩, by omega⟩
    rw[PJ hq, Int.toNat_natCast, aH ha]
    exact hO
  · simp (config := { maxSteps := 1000000 }) only[go_sem, h6, hb, aa]
    rw[QP (by omega)]at h5
    exact az.cC bz hcl ov (h5.jP fun i hi => hi) hK
theorem PL (g:Int)(ns:List NodeP)(hl:(ns.length:Int) < 2 ^ 39)(H:AHeap)(K:ARes -> AHeap -> Prop)(hK:K (.ret (ag (aA ns))) H):ah Tryd.prog G0 26 [dp g ns] H K := by
  refine ah.clo ⟨_, Tryd.func26, rfl, rfl⟩ fun hcl => ?_
  refine ah.cu (n := 22) (rs := [.tmp 2]) Tryd.func26 rfl rfl rfl (by decide) (by kernel_rfl) (by simp) ?_
  simp (config := { maxSteps := 1000000 }) only[go_sem, dp, ep, aa]
  obtain⟨H1, hH1⟩:∃ H1, H1 = ext H [.arr 0 61 [.lit (.int .i64 g), .vec ns.length (aK ns)]] := ⟨_, rfl⟩
  have l1:H1.live H.next 0 = some (61, [.lit (.int .i64 g), .vec ns.length (aK ns)]) := by rw[hH1]; exact aq (ez ..)
  have n1:H1.next = H.next + 1 := by rw[hH1]; rfl
  have o1:Over H H1 := by rw[hH1]; exact .ext _ _
  rw[<- hH1]
  refine W.aR 2097144 (by rfl) (fun ρ H' => ∃ k:Nat, ρ 4 = ab k /\ k <= ns.length /\ ρ 1 = .ptr H.next 0 0 /\ Over H1 H' /\ aF H1.next H' 3 (ρ 3) (ints ((aA ns).take k))) (fun ρ H => ns.length - (iv (ρ 4)).toNat) ?_ ?_
  · simp (config := { maxSteps := 1000000 }) only[go_sem, aa]
    exact⟨0, rfl, by omega, .refl _, .nil⟩
  rintro ρ H' ⟨k, h4, hk, h1, ov, h3⟩
  refine W.vs ?_
  have l2 := (ov.live (g := 0) (by omega:H.next < H1.next)).trans l1
  by_cases hb:(k:Int) < ns.length
  · obtain⟨x, hx⟩ := get_of_lt (l := ns) (i := k) (by omega)
    have hne := jv hx
    have e0 := xh hx
    obtain⟨v', H2, hA, ov2, hO, hn2, _⟩ := xX x.card ov h3 (by simp [aA]; omega)
    have w1 := QL ((k:Int) + 1) (by omega)
    simp (config := { maxSteps := 1000000 }) only[go_sem, h4, h1, l2, hb, hne, e0, w1, hA]
    refine⟨by have := ov2.next; omega, ⟨k + 1, by simp, by omega, ov2, ?_⟩, by omega⟩
    rw[aU (da hx)]
    exact hO
  · simp (config := { maxSteps := 1000000 }) only[go_sem, h4, h1, l2, hb, aa]
    rw[QP (by rw[dE]; omega)]at h3
    exact az.cC bz hcl (o1.trans ov) (h3.jP fun i hi => by omega) hK
def fJ (l:List Int)(n:Nat):Prop := ∀ q ∈ l, 0 <= q /\ q < n
theorem fq (l p:List Int):(aI l p).length = p.length := by simp [aI]
theorem lR {l p:List Int}{k:Nat}{q:Int}(h:p[k]? = some q):(aI l p)[k]? = some (l.getD q.toNat 0) := by unfold aI; rw[List.getElem?_map, h]; rfl
theorem PM (g : Int) (ns : List NodeP) (v : Nat) (x : NodeP) (hx : ns[v]? = some x) (hl : (ns.length : Int) < 2 ^ 39) (hp : (x.parents.length : Int) < 2 ^ 39) (hin : fJ x.parents ns.length) (H : AHeap) (K : ARes → AHeap → Prop)
    (hK:K (.ret (ag (aO ns x))) H):ah Tryd.prog G0 63 [dp g ns, ab v] H K := by
  refine ah.clo ⟨_, Tryd.func63, rfl, rfl⟩ fun hcl => ?_
  have hne := jv hx
  have e1 := xj hx
  have hv:(v:Int) < ns.length := by have := get_lt hx; omega
  refine ah.cu (n := 14) (rs := [.tmp 4]) Tryd.func63 rfl rfl rfl (by decide) (by kernel_rfl) (by simp) ?_
  simp (config := { maxSteps := 1000000 }) only[go_sem, dp, ep, aa]
  refine W.draw 8 [0, 1, 0, 4, 0, 28, 60, 124] Tryd.mixed (by kernel_rfl) (by kernel_rfl) ?_
  simp (config := { maxSteps := 1000000 }) only[go_sem, aa]
  refine⟨ag (aA ns), [], fQ.pure fun H2 => PL g ns hl H2 _ ⟨rfl, rfl⟩, ?_⟩
  simp (config := { maxSteps := 1000000 }) only[go_sem, hv, hne, e1, aa]
  refine aG.clo (PK (aA ns) x.parents (by rw[dE]; omega) hp (by rw[dE]; exact hin) _ _ ⟨trivial, ?_⟩)
  simp (config := { maxSteps := 1000000 }) only[go_sem, aa]
  exact az.cC bz hcl (.ext _ _) (.ik _) hK
def bV (l:List Int):Nat := l.foldl (fun s p => s ||| 2 ^ p.toNat) 0
theorem OA (l:List Int):∀ (s i:Nat), (l.foldl (fun s p => s ||| 2 ^ p.toNat) s).testBit i = (s.testBit i || l.any fun p => p.toNat == i) := by
  induction l with
  | nil => intro s i; simp
  | cons p l ih =>
    intro s i
    simp only[Ss, ih, Sg, Tw, List.any_cons]
    rw[Bool.or_assoc]
    congr 1
theorem kg {l:List Int}(h:∀ p ∈ l, 0 <= p)(i:Nat):(bV l).testBit i = decide ((i:Int) ∈ l) := by
  unfold bV
  rw[OA]
  simp only[RQ, TY]
  rw[SA]
  simp only[List.any_eq_true, beq_iff_eq, decide_eq_true_eq]
  constructor
  · rintro⟨p, hp, rfl⟩
    have := h p hp
    rw[Ul this]; exact hp
  · intro hi
    exact⟨_, hi, by simp⟩
theorem Cc (l:List Int)(p:Int):bV (l ++ [p]) = bV l ||| 2 ^ p.toNat := by unfold bV; rw[R9]; rfl
theorem tD {m n:Nat}(h:∀ i, m.testBit i = true -> i < n):m < 2 ^ n := by
  apply TT
  intro i hi
  rcases Rc (m.testBit i) with e | e
  · exact absurd (h i e) (by omega)
  · exact e
theorem xk {l:List Int}{n:Nat}(h:∀ p ∈ l, 0 <= p /\ p < n):bV l < 2 ^ n := tD fun i hi => by
  rw[kg fun p hp => (h p hp).1]at hi
  have := (h _ (of_decide_eq_true hi)).2
  omega
theorem kh {m n i:Nat}(h:m < 2 ^ n)(hi:m.testBit i = true):i < n := by
  rcases Q3 i n with h' | h'
  · exact h'
  · rw[SS (QU h (Rb (by decide) h'))]at hi; cases hi
def Sub (s t:Nat):Prop := ∀ i, s.testBit i = true -> t.testBit i = true
theorem Sub.refl (s:Nat):Sub s s := fun _ h => h
theorem Sub.trans {s t u:Nat}(h:Sub s t)(h':Sub t u):Sub s u := fun i hi => h' i (h i hi)
theorem Sub.or {s t u:Nat}(h:Sub s u)(h':Sub t u):Sub (s ||| t) u := fun i hi => by
  rw[Sg, RE]at hi
  exact hi.elim (h i) (h' i)
theorem Sub.left (s t:Nat):Sub s (s ||| t) := fun i hi => by rw[Sg, hi]; rfl
theorem Sub.right (s t:Nat):Sub t (s ||| t) := fun i hi => by rw[Sg, hi]; simp
theorem Sub.antisymm {s t:Nat}(h:Sub s t)(h':Sub t s):s = t := Sn fun i => by
  rw[SA]; exact⟨h i, h' i⟩
theorem tE {a b:Nat}(ha:a < 2 ^ 64):g9 a b = 0 ↔ Sub a b := by
  constructor
  · intro h i hi
    have := C0 (a := a) (b := b) (i := i) ha
    rw[h, RQ, hi]at this
    simpa using this.symm
  · intro h
    apply Sn
    intro i
    rw[C0 ha, RQ]
    cases hi:a.testBit i
    · rfl
    · rw[h i hi]; rfl
def dI (ps:List Nat)(s v:Nat):Nat := if s.testBit v = true then s ||| ps.getD v 0 else s
def dX (ps:List Nat)(s:Nat):Nat := (List.range ps.length).foldl (dI ps) s
def dv (ps:List Nat):Nat -> Nat -> Nat
  | 0, s => s
  | k + 1, s => dX ps (dv ps k s)
def er (ps:List Nat)(s:Nat):Nat := dv ps ps.length s
def gX (ps:List Nat):Prop := ∀ v, v < ps.length -> (er ps (ps.getD v 0)).testBit v = false
def ki (ps:List Nat)(t:Nat):Prop := ∀ v, v < ps.length -> t.testBit v = true -> Sub (ps.getD v 0) t
theorem Cd (ps:List Nat)(s v:Nat):Sub s (dI ps s v) := by unfold dI; split; exact .left _ _; exact .refl _
theorem Ce (ps:List Nat)(l:List Nat):∀ s, Sub s (l.foldl (dI ps) s) := by
  induction l with
  | nil => exact fun s => .refl s
  | cons v l ih => exact fun s => (Cd ps s v).trans (ih _)
theorem xn (ps:List Nat)(s:Nat):Sub s (dX ps s) := Ce ps _ s
theorem OB {ps:List Nat}{t:Nat}(hc:ki ps t)(l:List Nat)(hl:∀ v ∈ l, v < ps.length):∀ s, Sub s t -> Sub (l.foldl (dI ps) s) t := by
  induction l with
  | nil => exact fun s h => h
  | cons v l ih =>
    intro s h
    refine ih (fun v hv => hl v (by simp [hv])) _ ?_
    unfold dI
    split
    · rename_i hv
      exact h.or (hc v (hl v (by simp)) (h v hv))
    · exact h
theorem OC {ps:List Nat}{t:Nat}(hc:ki ps t){s:Nat}(h:Sub s t):Sub (dX ps s) t := OB hc _ (fun v hv => QW.1 hv) s h
theorem qg {ps:List Nat}{t:Nat}(hc:ki ps t)(k:Nat){s:Nat}(h:Sub s t):Sub (dv ps k s) t := by
  induction k with
  | zero => exact h
  | succ k ih => exact OC hc ih
theorem xq (ps:List Nat)(k s:Nat):Sub s (dv ps k s) := by
  induction k with
  | zero => exact .refl _
  | succ k ih => exact ih.trans (xn _ _)
theorem OD {ps:List Nat}{s:Nat}(h:dX ps s = s):ki ps s := by
  intro v hv hs
  have key:∀ (l:List Nat) (s0:Nat), v ∈ l -> s0.testBit v = true -> Sub (ps.getD v 0) (l.foldl (dI ps) s0) := by
    intro l
    induction l with
    | nil => intro s0 h; cases h
    | cons u l ih =>
      intro s0 hm hb
      rcases List.mem_cons.1 hm with rfl | hm
      · refine Sub.trans ?_ (Ce ps l _)
        unfold dI
        rw[QN hb]
        exact .right _ _
      · exact ih _ hm (Cd ps s0 u v hb)
  have := key (List.range ps.length) s (QW.2 hv) hs
  unfold dX at h
  rwa [h]at this
def bL (n s:Nat):Nat := (List.range n).countP fun i => s.testBit i
theorem xt (n s:Nat):bL n s <= n := by have := T7 (p := fun i => s.testBit i) (l := List.range n); simpa [bL] using this
theorem OE {l:List Nat}{p q:Nat -> Bool}(h:∀ x ∈ l, p x = true -> q x = true){a:Nat}(ha:a ∈ l)(hp:p a = false)(hq:q a = true):l.countP p < l.countP q := by
  induction l with
  | nil => cases ha
  | cons x l ih =>
    have hm:l.countP p <= l.countP q := T6 fun y hy => h y (by simp [hy])
    rcases List.mem_cons.1 ha with rfl | ha
    · rw[Rh, Rh, hp, hq]
      simp
      omega
    · have := ih (fun y hy => h y (by simp [hy])) ha
      have hx := h x (by simp)
      rw[Rh, Rh]
      cases hpx:p x
      · simp; omega
      · rw[hx hpx]; simp; omega
theorem ou {n s t i:Nat}(h:Sub s t)(hi:i < n)(h0:s.testBit i = false)(h1:t.testBit i = true):bL n s < bL n t :=
  OE (fun x _ hx => h x hx) (QW.2 hi) h0 h1
theorem OF {ps:List Nat}(hp:∀ p ∈ ps, p < 2 ^ ps.length){s:Nat}(hs:s < 2 ^ ps.length):ki ps (er ps s) := by
  have hb:∀ k, dv ps k s < 2 ^ ps.length := fun k => by
    have ht:ki ps (2 ^ ps.length - 1) := fun v _ _ i hi => by
      rw[RM]
      have:ps.getD v 0 < 2 ^ ps.length := by
        rw[QM]
        cases h:ps[v]? with
        | none => exact SO _
        | some p => exact hp p (an h)
      simpa using kh this hi
    have := qg ht k (s := s) fun i hi => by rw[RM]; simpa using kh hs hi
    exact tD fun i hi => by have := this i hi; rw[RM]at this; simpa using this
  have key:∀ k, dX ps (dv ps k s) = dv ps k s \/ k + 1 <= bL ps.length (dv ps k s) := by
    have grow:∀ t, t < 2 ^ ps.length -> dX ps t < 2 ^ ps.length -> dX ps t ≠ t -> bL ps.length t < bL ps.length (dX ps t) := fun t ht ht' hne => by
      have:∃ i, (dX ps t).testBit i = true /\ t.testBit i = false := by
        refine Re fun hno => hne (Sub.antisymm (fun i hi => ?_) (xn ps t))
        rcases Rc (t.testBit i) with e | e
        · exact e
        · exact absurd ⟨i, hi, e⟩ hno
      obtain⟨i, h1, h0⟩ := this
      exact ou (xn ps t) (kh ht' h1) h0 h1
    intro k
    induction k with
    | zero =>
      by_cases h0:s = 0
      · left
        subst h0
        show dX ps 0 = 0
        unfold dX
        have:∀ l:List Nat, l.foldl (dI ps) 0 = 0 := fun l => by
          induction l with
          | nil => rfl
          | cons v l ih => simp only[Ss, dI, RQ, Bool.false_eq_true, if_false]; exact ih
        exact this _
      · right
        obtain⟨i, hi⟩ := Nat.exists_testBit_of_ne_zero h0
        have:bL ps.length 0 < bL ps.length s := ou (fun j hj => by rw[RQ]at hj; cases hj) (kh hs hi) (RQ i) hi
        show 0 + 1 <= bL ps.length s
        omega
    | succ k ih =>
      rcases ih with ih | ih
      · left
        show dX ps (dX ps (dv ps k s)) = dX ps (dv ps k s)
        rw[ih]; exact ih
      · by_cases hf:dX ps (dv ps k s) = dv ps k s
        · left
          show dX ps (dX ps (dv ps k s)) = dX ps (dv ps k s)
          rw[hf]; exact hf
        · right
          have := grow _ (hb k) (hb (k + 1)) hf
          show k + 1 + 1 <= bL ps.length (dX ps (dv ps k s))
          omega
  rcases key ps.length with h | h
  · exact OD h
  · have := xt ps.length (dv ps ps.length s); omega
def lH (ps:List Nat)(done v:Nat):Bool := !done.testBit v && decide (g9 (ps.getD v 0) done = 0)
def kj (ps:List Nat)(done:Nat):Option Nat := (List.range ps.length).find? (lH ps done)
def jx (ps:List Nat):Nat -> List Nat -> Nat -> Option (List Nat)
  | 0, out, _ => some out
  | k + 1, out, done => match kj ps done with
    | none => none
    | some v => jx ps k (out ++ [v]) (done ||| 2 ^ v)
def eM (ps:List Nat):Option (List Nat) := jx ps ps.length [] 0
theorem xu {ps:List Nat}{done v:Nat}(hp:∀ p ∈ ps, p < 2 ^ 64)(h:kj ps done = some v):v < ps.length /\ done.testBit v = false /\ Sub (ps.getD v 0) done := by
  unfold kj at h
  have h1 := List.mem_of_find?_eq_some h
  have h2 := List.find?_some h
  unfold lH at h2
  simp only[Q7, S1, decide_eq_true_eq]at h2
  have hv := QW.1 h1
  refine⟨hv, h2.1, (tE ?_).1 h2.2⟩
  rw[QM]
  cases h:ps[v]? with
  | none => decide
  | some p => exact hp p (an h)
theorem OG {ps:List Nat}{done:Nat}(hp:∀ p ∈ ps, p < 2 ^ 64)(h:kj ps done = none):∀ v, v < ps.length -> done.testBit v = true \/ ¬ Sub (ps.getD v 0) done := by
  intro v hv
  unfold kj at h
  rw[List.find?_eq_none]at h
  have := h v (QW.2 hv)
  unfold lH at this
  rcases Rc (done.testBit v) with e | e
  · exact .inl e
  · right
    intro hs
    refine this ?_
    rw[e, (tE ?_).2 hs]
    · simp
    · rw[QM]
      cases h:ps[v]? with
      | none => decide
      | some p => exact hp p (an h)
theorem eN (d v i:Nat):(d ||| 2 ^ v).testBit i = (d.testBit i || decide (v = i)) := by rw[Sg, Tw]
theorem OH {ps : List Nat} (hp : ∀ p ∈ ps, p < 2 ^ 64) : ∀ (k : Nat) (out : List Nat) (done : Nat) (r : List Nat), jx ps k out done = some r → k + bL ps.length done = ps.length →
    ki ps done -> (∀ v, v < ps.length -> done.testBit v = true -> (er ps (ps.getD v 0)).testBit v = false) -> gX ps := by
  intro k
  induction k with
  | zero =>
    intro out done r _ hc hcl hall v hv
    refine hall v hv ?_
    rcases Rc (done.testBit v) with e | e
    · exact e
    · have:bL ps.length done < bL ps.length (2 ^ ps.length - 1 ||| done) := ou (.right _ _) hv e (by rw[Sg, RM]; simp [hv])
      have := xt ps.length (2 ^ ps.length - 1 ||| done)
      omega
  | succ k ih =>
    intro out done r h hc hcl hall
    unfold jx at h
    split at h
    · cases h
    · rename_i v hn
      obtain⟨h1, h2, h3⟩ := xu hp hn
      refine ih _ _ _ h ?_ ?_ ?_
      · have : bL ps.length (done ||| 2 ^ v) = bL ps.length done + 1 := by
          unfold bL
          have:∀ l:List Nat, l.Nodup -> v ∈ l -> l.countP (fun i => (done ||| 2 ^ v).testBit i) = l.countP (fun i => done.testBit i) + 1 := by
            intro l
            induction l with
            | nil => intro _ h; cases h
            | cons x l ihl =>
              intro hnd hmem
              obtain⟨g1, g2⟩ := S6.1 hnd
              rw[Rh, Rh]
              rcases List.mem_cons.1 hmem with rfl | hm2
              · have : l.countP (fun i => (done ||| 2 ^ v).testBit i) = l.countP (fun i => done.testBit i) := SY fun y hy => by
                  have:¬ v = y := by rintro rfl; exact g1 hy
                  simp [eN, this]
                rw[this]; simp [eN, h2]
              · have hx:¬ v = x := by rintro rfl; exact g1 hm2
                rw[ihl g2 hm2]; simp [eN, hx]; omega
          exact this _ SK (QW.2 h1)
        omega
      · intro u hu hb
        rw[eN, RE, decide_eq_true_eq]at hb
        rcases hb with hb | rfl
        · exact(hcl u hu hb).trans (.left _ _)
        · exact h3.trans (.left _ _)
      · intro u hu hb
        rw[eN, RE, decide_eq_true_eq]at hb
        rcases hb with hb | rfl
        · exact hall u hu hb
        · have := qg hcl ps.length h3
          rcases Rc ((er ps (ps.getD v 0)).testBit v) with e | e
          · have := this v e; rw[h2]at this; cases this
          · exact e
theorem Cf {ps:List Nat}(hp:∀ p ∈ ps, p < 2 ^ ps.length)(h64:ps.length <= 64)(ha:gX ps):∀ (k:Nat) (out:List Nat) (done:Nat), k + bL ps.length done = ps.length -> ∃ r, jx ps k out done = some r := by
  have hp64:∀ p ∈ ps, p < 2 ^ 64 := fun p h => QU (hp p h) (Rb (by decide) h64)
  have hpd:∀ v, ps.getD v 0 < 2 ^ ps.length := fun v => by
    rw[QM]
    cases h:ps[v]? with
    | none => exact SO _
    | some p => exact hp p (an h)
  intro k
  induction k with
  | zero => exact fun out done _ => ⟨out, rfl⟩
  | succ k ih =>
    intro out done hc
    unfold jx
    cases hn:kj ps done with
    | none =>
      exfalso
      have hno := OG hp64 hn
      -- every node that is left has a parent that is left
      have step:∀ m v, v < ps.length -> done.testBit v = false -> bL ps.length (er ps (ps.getD v 0)) <= m -> False := by
        intro m
        induction m with
        | zero =>
          intro v hv hd hm
          obtain⟨i, h1, h2⟩:∃ i, (ps.getD v 0).testBit i = true /\ done.testBit i = false := by
            rcases hno v hv with h | h
            · rw[hd]at h; cases h
            · refine Re fun hc => h fun i hi => ?_
              rcases Rc (done.testBit i) with e | e
              · exact e
              · exact absurd ⟨i, hi, e⟩ hc
          have:bL ps.length 0 < bL ps.length (er ps (ps.getD v 0)) := ou (fun j hj => by rw[RQ]at hj; cases hj) (kh (hpd v) h1) (RQ i) (xq ps _ _ i h1)
          omega
        | succ m ihm =>
          intro v hv hd hm
          obtain⟨u, h1, h2⟩:∃ i, (ps.getD v 0).testBit i = true /\ done.testBit i = false := by
            rcases hno v hv with h | h
            · rw[hd]at h; cases h
            · refine Re fun hc => h fun i hi => ?_
              rcases Rc (done.testBit i) with e | e
              · exact e
              · exact absurd ⟨i, hi, e⟩ hc
          have hu := kh (hpd v) h1
          have hcl := OF hp (hpd v)
          have hin:(er ps (ps.getD v 0)).testBit u = true := xq ps _ _ u h1
          have hsub:Sub (er ps (ps.getD u 0)) (er ps (ps.getD v 0)) := qg hcl _ (hcl u hu hin)
          have := ou hsub hu (ha u hu) hin
          exact ihm u hu h2 (by omega)
      obtain⟨v, hv, hd⟩:∃ v, v < ps.length /\ done.testBit v = false := by
        refine Re fun hno => ?_
        have:bL ps.length done = ps.length := by
          unfold bL
          conv => rhs; rw[<- Rw (n := ps.length)]
          rw[Sz]
          intro x hx
          rcases Rc (done.testBit x) with e | e
          · exact e
          · exact absurd ⟨x, QW.1 hx, e⟩ hno
        omega
      exact step _ v hv hd (Nat.le_refl _)
    | some v =>
      obtain⟨h1, h2, h3⟩ := xu hp64 hn
      refine ih _ _ ?_
      have:bL ps.length (done ||| 2 ^ v) = bL ps.length done + 1 := by
        unfold bL
        have:∀ l:List Nat, l.Nodup -> v ∈ l -> l.countP (fun i => (done ||| 2 ^ v).testBit i) = l.countP (fun i => done.testBit i) + 1 := by
          intro l
          induction l with
          | nil => intro _ h; cases h
          | cons x l ihl =>
            intro hnd hmem
            obtain⟨g1, g2⟩ := S6.1 hnd
            rw[Rh, Rh]
            rcases List.mem_cons.1 hmem with rfl | hm2
            · have : l.countP (fun i => (done ||| 2 ^ v).testBit i) = l.countP (fun i => done.testBit i) := SY fun y hy => by
                have:¬ v = y := by rintro rfl; exact g1 hy
                simp [eN, this]
              rw[this]; simp [eN, h2]
            · have hx:¬ v = x := by rintro rfl; exact g1 hm2
              rw[ihl g2 hm2]; simp [eN, hx]; omega
        exact this _ SK (QW.2 h1)
      omega
theorem Cg (n:Nat):bL n 0 = 0 := by
  unfold bL
  rw[Uk]
  intro x _
  simp
theorem OI {ps:List Nat}(hp:∀ p ∈ ps, p < 2 ^ ps.length)(h64:ps.length <= 64):(eM ps).isSome = true ↔ gX ps := by
  have hp64:∀ p ∈ ps, p < 2 ^ 64 := fun p h => QU (hp p h) (Rb (by decide) h64)
  constructor
  · intro h
    obtain⟨r, hr⟩ := Rp.1 h
    exact OH hp64 _ _ _ r hr (by rw[Cg]; omega) (fun v _ h => by rw[RQ]at h; cases h) (fun v _ h => by rw[RQ]at h; cases h)
  · intro h
    obtain⟨r, hr⟩ := Cf hp h64 h ps.length [] 0 (by rw[Cg]; omega)
    unfold eM; rw[hr]; rfl
end Go.Proofs
namespace Go.Hx
def bS (l:List Nat):AVal := .vec l.length (l.map bq)
attribute [go_sem] bq bS
theorem aF.CO {S:Nat -> Prop}{lo nx:Nat}{H:AHeap}{e:TypeId}{v:AVal}{l:List Nat}(h:aF lo H e v (l.map bq))(hS:∀ i, lo <= i -> S i):Fz S H nx v (bS l) := by
  have := h.fz (S := S) (nx := nx) (cs' := l.map bq) hS rfl fun i hi _ => by simp only[QY]; exact .lit _
  rw[QX]at this
  exact this
end Go.Hx
namespace Go.Proofs
open Go.Hx
theorem PN {H H' : AHeap} {v : AVal} {l : List Nat} (x : Nat) (ov : Over H H') (h : aF H.next H' 100 v (l.map bq)) (hl : l.length < 2 ^ 40) :
    ∃ v' H2, bC Tryd.prog (ext H' [.arr 0 100 [.lit (.int .u64 (x:Int))]]) (H'.next + 1) 44 44 v (.own H'.next 0 0 1 1) = some (v', H2) /\ Over H H2 /\ aF H.next H2 100 v' ((l ++ [x]).map bq) /\ H'.next <= H2.next /\ (∀ k, k < H'.next -> (∀ g n, v ≠ .own k g 0 n 1) -> H2.get k = H'.get k) := by
  obtain⟨v', H2, hA, hO, hn2, hp⟩ := jQ (P := Tryd.prog) (H := H') (t := 44) (x := bq x) (n := H'.next + 1) Tryd.underlying44 Tryd.Bs Tryd.Bu rfl (by rw[Tryd.Bt, QX]; omega) h ov.next rfl
  simp only[bq]at hA
  exact⟨v', H2, hA, xF ov h hn2 hp, by rw[RN]; exact hO, hn2, hp⟩
theorem CP (m v:Nat)(hm:m < 2 ^ 64)(hv:v < 2 ^ 62)(H:AHeap)(K:ARes -> AHeap -> Prop)(hK:K (.ret (.lit (.bool (m.testBit v)))) H):ah Tryd.prog G0 92 [bq m, ab v] H K := by
  refine ah.cu (n := 11) (rs := [.tmp 4]) Tryd.func92 rfl rfl rfl (by decide) (by kernel_rfl) (by simp) ?_
  have w1 := Tv (v:Int) (by omega)
  have s1 := fun t x y => tS (P := Tryd.prog) (t := t) (x := x) (y := y) (k' := .u64) (s := v) hm
  have s2 := fun t x y => xW (P := Tryd.prog) (t := t) (x := x) (y := y) (s := v) hm
  cases hb:m.testBit v
  · rw[hb]at hK
    simp (config := { maxSteps := 1000000 }) only[go_sem, w1, s1, s2, hb, aa]
    exact az.mk (Nat.le_refl _) hK
  · rw[hb]at hK
    simp (config := { maxSteps := 1000000 }) only[go_sem, w1, s1, s2, hb, aa]
    exact az.mk (Nat.le_refl _) hK
def aW (ns:List NodeP):List Nat := ns.map fun x => bV x.parents
theorem lS {ns:List NodeP}{k:Nat}{x:NodeP}(h:ns[k]? = some x):(aW ns)[k]? = some (bV x.parents) := by unfold aW; rw[List.getElem?_map, h]; rfl
theorem PO (g : Int) (ns : List NodeP) (hl : (ns.length : Int) < 2 ^ 39) (hp : ∀ x ∈ ns, (x.parents.length : Int) < 2 ^ 39 ∧ ∀ q ∈ x.parents, 0 ≤ q ∧ q < 64) (H : AHeap) (K : ARes → AHeap → Prop)
    (hK:K (.ret (bS (aW ns))) H):ah Tryd.prog G0 41 [dp g ns] H K := by
  refine ah.clo ⟨_, Tryd.func41, rfl, rfl⟩ fun hcl => ?_
  refine ah.cu (n := 43) (rs := [.tmp 2]) Tryd.func41 rfl rfl rfl (by decide) (by kernel_rfl) (by simp) ?_
  simp (config := { maxSteps := 1000000 }) only[go_sem, dp, ep, aa]
  obtain⟨H1, hH1⟩:∃ H1, H1 = ext H [.arr 0 61 [.lit (.int .i64 g), .vec ns.length (aK ns)]] := ⟨_, rfl⟩
  have l1:H1.live H.next 0 = some (61, [.lit (.int .i64 g), .vec ns.length (aK ns)]) := by rw[hH1]; exact aq (ez ..)
  have n1:H1.next = H.next + 1 := by rw[hH1]; rfl
  have o1:Over H H1 := by rw[hH1]; exact .ext _ _
  rw[<- hH1]
  refine W.aR 4398046511096 (by rfl) (fun ρ H' => ∃ k:Nat, ρ 4 = ab k /\ k <= ns.length /\ ρ 1 = .ptr H.next 0 0 /\ Over H1 H' /\ aF H1.next H' 100 (ρ 3) (((aW ns).take k).map bq)) (fun ρ H => ns.length - (iv (ρ 4)).toNat) ?_ ?_
  · simp (config := { maxSteps := 1000000 }) only[go_sem, aa]
    exact⟨0, rfl, by omega, .refl _, .nil⟩
  rintro ρ H' ⟨k, h4, hk, h1, ov, h3⟩
  refine W.vs ?_
  have l2 := (ov.live (g := 0) (by omega:H.next < H1.next)).trans l1
  by_cases hb:(k:Int) < ns.length
  · obtain⟨x, hx⟩ := get_of_lt (l := ns) (i := k) (by omega)
    have hne := jv hx
    have e1 := xj hx
    obtain⟨xl, xr⟩ := hp x (an hx)
    simp (config := { maxSteps := 1000000 }) only[go_sem, h4, h1, l2, hb, aa]
    refine W.aR 274877890656 (by rfl) (fun ρ' H2 => H2 = H' /\ ∃ j:Nat, ρ' 6 = ab j /\ j <= x.parents.length /\ ρ' 5 = bq (bV (x.parents.take j))) (fun ρ' H => x.parents.length - (iv (ρ' 6)).toNat) ?_ ?_
    · simp (config := { maxSteps := 1000000 }) only[go_sem, aa]
      exact⟨0, rfl, by omega, rfl⟩
    rintro ρ' H2 ⟨rfl, j, h6, hj, h5⟩
    refine W.vs ?_
    by_cases hb2:(j:Int) < x.parents.length
    · obtain⟨q, hq⟩ := get_of_lt (l := x.parents) (i := j) (by omega)
      obtain⟨q0, q1⟩ := xr q (an hq)
      obtain⟨u, rfl⟩ := Rf q0
      have hne2 := aM hq
      have w1 := Tv (u:Int) (by omega)
      have w2 := QL ((j:Int) + 1) (by omega)
      have b1:bV (x.parents.take j) < 2 ^ 64 := xk fun p hp => by have := xr p (Rs hp); omega
      have s1 := fun t x y => oJ (P := Tryd.prog) (t := t) (x := x) (y := y) (k' := .u64) (s := u) (by omega)
      have s2 := fun t x y => oI (P := Tryd.prog) (t := t) (x := x) (y := y) (b := 2 ^ u) b1 (Sm (by decide) (by omega))
      simp (config := { maxSteps := 1000000 }) only[go_sem, h4, h1, l2, hb, hne, e1, h6, h5, hb2, hq, hne2, w1, w2, s1, s2, aa]
      exact⟨⟨j + 1, by simp, by omega, by rw[aU hq, Cc]; rfl⟩, by omega⟩
    · obtain⟨v', H3, hA, ov2, hO, hn2, _⟩ := PN (bV x.parents) ov h3 (by simp [aW]; omega)
      have w1 := QL ((k:Int) + 1) (by omega)
      rw[QP (by omega)]at h5
      simp (config := { maxSteps := 1000000 }) only[go_sem, h4, h1, l2, hb, hne, e1, h6, h5, hb2, w1, hA]
      refine⟨by have := ov2.next; omega, ⟨k + 1, by simp, by omega, ov2, ?_⟩, by omega⟩
      rw[aU (lS hx)]
      exact hO
  · simp (config := { maxSteps := 1000000 }) only[go_sem, h4, h1, l2, hb, aa]
    rw[QP (by simp [aW]; omega)]at h3
    exact az.cC bz hcl (o1.trans ov) (h3.CO fun i hi => by omega) hK
theorem CQ {ps:List Nat}(hp:∀ p ∈ ps, p < 2 ^ 64)(l:List Nat):∀ s, s < 2 ^ 64 -> l.foldl (dI ps) s < 2 ^ 64 := by
  induction l with
  | nil => exact fun s h => h
  | cons v l ih =>
    intro s h
    refine ih _ ?_
    unfold dI
    split
    · refine TD h ?_
      rw[QM]
      cases h:ps[v]? with
      | none => decide
      | some p => exact hp p (an h)
    · exact h
theorem xP {ps:List Nat}(hp:∀ p ∈ ps, p < 2 ^ 64){s:Nat}(hs:s < 2 ^ 64):∀ k, dv ps k s < 2 ^ 64
  | 0 => hs
  | k + 1 => CQ hp _ _ (xP hp hs k)
theorem PP (ps:List Nat)(s:Nat)(hl:(ps.length:Int) < 2 ^ 39)(hp:∀ p ∈ ps, p < 2 ^ 64)(hs:s < 2 ^ 64)(H:AHeap)(K:ARes -> AHeap -> Prop)(hK:K (.ret (bq (er ps s))) H):ah Tryd.prog G0 93 [bS ps, bq s] H K := by
  refine ah.cu (n := 29) (rs := [.tmp 4]) Tryd.func93 rfl rfl rfl (by decide) (by kernel_rfl) (by simp) ?_
  simp (config := { maxSteps := 1000000 }) only[go_sem, aa]
  refine W.aR 268435426 (by rfl) (fun ρ H' => H' = H /\ ∃ k:Nat, ρ 5 = ab k /\ k <= ps.length /\ ρ 1 = bq (dv ps k s)) (fun ρ H => ps.length - (iv (ρ 5)).toNat) ?_ ?_
  · simp (config := { maxSteps := 1000000 }) only[go_sem, aa]
    exact⟨0, rfl, by omega, rfl⟩
  rintro ρ H' ⟨rfl, k, h5, hk, h1⟩
  refine W.vs ?_
  by_cases hb:(k:Int) < ps.length
  · simp (config := { maxSteps := 1000000 }) only[go_sem, h5, h1, hb, aa]
    refine W.aR 268427330 (by rfl) (fun ρ' H2 => H2 = H' /\ ∃ j:Nat, ρ' 6 = ab j /\ j <= ps.length /\ ρ' 1 = bq ((List.range j).foldl (dI ps) (dv ps k s))) (fun ρ' H => ps.length - (iv (ρ' 6)).toNat) ?_ ?_
    · simp (config := { maxSteps := 1000000 }) only[go_sem, h1, aa]
      exact⟨0, rfl, by omega, rfl⟩
    rintro ρ' H2 ⟨rfl, j, h6, hj, h1'⟩
    refine W.vs ?_
    by_cases hb2:(j:Int) < ps.length
    · obtain⟨p, hpj⟩ := get_of_lt (l := ps) (i := j) (by omega)
      have hne := aM hpj
      have b1 := CQ hp (List.range j) _ (xP hp hs k)
      have w2 := QL ((j:Int) + 1) (by omega)
      have hst:(List.range (j + 1)).foldl (dI ps) (dv ps k s) = dI ps ((List.range j).foldl (dI ps) (dv ps k s)) j := by rw[Sr, R9]; rfl
      have s2 := fun t x y => oI (P := Tryd.prog) (t := t) (x := x) (y := y) b1 (hp p (an hpj))
      obtain⟨m, hm⟩:∃ m, m = (List.range j).foldl (dI ps) (dv ps k s) := ⟨_, rfl⟩
      rw[<- hm]at b1 h1' hst s2
      simp (config := { maxSteps := 1000000 }) only[go_sem, h6, h1', hb2, aa]
      refine aG.clo (CP m j b1 (by omega) _ _ ⟨trivial, ?_⟩)
      cases hbit:m.testBit j
      · simp (config := { maxSteps := 1000000 }) only[go_sem, h6, h1', w2, aa]
        exact⟨⟨j + 1, by simp, by omega, by rw[hst]; unfold dI; rw[hbit]; rfl⟩, by omega⟩
      · simp (config := { maxSteps := 1000000 }) only[go_sem, h6, h1', w2, hb2, hpj, hne, s2, aa]
        exact⟨⟨j + 1, by simp, by omega, by rw[hst]; unfold dI; rw[hbit, QN rfl, aH hpj]⟩, by omega⟩
    · have w2 := QL ((k:Int) + 1) (by omega)
      have ej:j = ps.length := by omega
      subst ej
      simp (config := { maxSteps := 1000000 }) only[go_sem, h6, h1', hb2, h5, w2, aa]
      exact⟨⟨k + 1, by simp, by omega, rfl⟩, by omega⟩
  · simp (config := { maxSteps := 1000000 }) only[go_sem, h5, h1, hb, aa]
    have ek:k = ps.length := by omega
    subst ek
    exact az.mk (Nat.le_refl _) hK
def qt (ps:List Nat):Bool := (List.range ps.length).all fun v => !(er ps (ps.getD v 0)).testBit v
theorem tL (ps:List Nat):qt ps = true ↔ gX ps := by
  unfold qt gX
  simp only[Rd, QW, S1]
theorem PQ (ps:List Nat)(hl:(ps.length:Int) < 2 ^ 39)(hp:∀ p ∈ ps, p < 2 ^ 64)(H:AHeap)(K:ARes -> AHeap -> Prop)(hK:K (.ret (.lit (.bool (qt ps)))) H):ah Tryd.prog G0 76 [bS ps] H K := by
  have no:¬ qt ps = true -> az Tryd.prog G0 H K (.lit (.bool false)) H := fun h => az.mk (Nat.le_refl _) (by rw[Bool.eq_false_iff.2 h]at hK; exact hK)
  refine ah.cu (n := 18) (rs := [.tmp 2]) Tryd.func76 rfl rfl rfl (by decide) (by kernel_rfl) (by simp) ?_
  simp (config := { maxSteps := 1000000 }) only[go_sem, aa]
  refine W.aR 262140 (by rfl) (fun ρ H' => H' = H /\ ∃ k:Nat, ρ 3 = ab k /\ k <= ps.length /\ ∀ v, v < k -> (er ps (ps.getD v 0)).testBit v = false) (fun ρ H => ps.length - (iv (ρ 3)).toNat) ?_ ?_
  · simp (config := { maxSteps := 1000000 }) only[go_sem, aa]
    exact⟨0, rfl, by omega, fun v h => absurd h (Q5 _)⟩
  rintro ρ H' ⟨rfl, k, h3, hk, ha⟩
  refine W.vs ?_
  by_cases hb:(k:Int) < ps.length
  · obtain⟨p, hpk⟩ := get_of_lt (l := ps) (i := k) (by omega)
    have hne := aM hpk
    have hp1 := hp p (an hpk)
    simp (config := { maxSteps := 1000000 }) only[go_sem, h3, hb, hpk, hne, aa]
    refine aG.clo (PP ps p hl hp hp1 _ _ ⟨trivial, ?_⟩)
    simp (config := { maxSteps := 1000000 }) only[go_sem, h3, aa]
    refine aG.clo (CP (er ps p) k (xP hp hp1 _) (by omega) _ _ ⟨trivial, ?_⟩)
    have w2 := QL ((k:Int) + 1) (by omega)
    cases hbit:(er ps p).testBit k
    · simp (config := { maxSteps := 1000000 }) only[go_sem, h3, w2, aa]
      refine⟨⟨k + 1, by simp, by omega, fun v hv => ?_⟩, by omega⟩
      rcases Q3 v k with h | h
      · exact ha v h
      · obtain rfl:v = k := by omega
        rw[aH hpk]; exact hbit
    · simp (config := { maxSteps := 1000000 }) only[go_sem, h3, aa]
      refine no fun h => ?_
      have := (tL ps).1 h k (by omega)
      rw[aH hpk, hbit]at this; cases this
  · simp (config := { maxSteps := 1000000 }) only[go_sem, h3, hb, aa]
    rw[(tL ps).2 fun v hv => ha v (by omega)]at hK
    exact az.mk (Nat.le_refl _) hK
def jC (g card:Int)(r:List Int):Prop := (r.length:Int) = card /\ (∀ w ∈ r, 0 <= w /\ w <= g) /\ r.sum = g
def fK (g:Int)(ns:List NodeP)(x:NodeP):Prop := (x.rows.length:Int) = aQ (aO ns x) /\ ∀ r ∈ x.rows, jC g x.card r
structure NetOk (g:Int)(ns:List NodeP):Prop where
  g1:1 <= g /\ g <= 60
  n1:1 <= ns.length /\ ns.length <= 8
  node:∀ x ∈ ns, (1 <= x.card /\ x.card <= 4) /\ cD x.parents ns.length
  size:aQ (aA ns) <= 1024
  acyc:gX (aW ns)
  rows:∀ x ∈ ns, fK g ns x
noncomputable def fw (g:Int)(ns:List NodeP):Bool := @decide (NetOk g ns) (Classical.propDecidable _)
theorem qu {g:Int}{ns:List NodeP}(h:NetOk g ns):fw g ns = true := by unfold fw; exact @decide_eq_true _ (Classical.propDecidable _) h
theorem CR {g:Int}{ns:List NodeP}(h:¬ NetOk g ns):fw g ns = false := by unfold fw; exact @decide_eq_false _ (Classical.propDecidable _) h
theorem PR {g:Int}{ns:List NodeP}:fw g ns = true ↔ NetOk g ns := by unfold fw; exact @decide_eq_true_iff _ (Classical.propDecidable _)
def ku (ns:List NodeP):Prop := (ns.length:Int) < 2 ^ 38 /\ ∀ x ∈ ns, (x.parents.length:Int) < 2 ^ 38 /\ (x.rows.length:Int) < 2 ^ 38 /\ ∀ r ∈ x.rows, (r.length:Int) < 2 ^ 38
theorem xQ {l:List Int}(h:l.length <= 12)(h2:∀ x ∈ l, 1 <= x /\ x <= 4):eX l := ⟨h, fun x hx => by have := h2 x hx; omega⟩
theorem qv {ns:List NodeP}{x:NodeP}(hin:fJ x.parents ns.length)(hc:∀ y ∈ ns, 1 <= y.card /\ y.card <= 4):∀ c ∈ aO ns x, 1 <= c /\ c <= 4 := fun c h => by
  unfold aO aI at h
  obtain⟨q, hq, rfl⟩ := Q6.1 h
  obtain⟨j, rfl, y, hy⟩ := lG (l := ns) (hin q hq).1 (hin q hq).2
  rw[Int.toNat_natCast, aH (da hy)]
  exact hc y (an hy)
theorem tM {ns:List NodeP}{x:NodeP}(h8:ns.length <= 8)(hp:cD x.parents ns.length)(hc:∀ y ∈ ns, 1 <= y.card /\ y.card <= 4):eX (aO ns x) := by
  refine xQ ?_ (qv (fun q hq => by have := hp.2 q hq; omega) hc)
  rw[show (aO ns x).length = _ from fq _ _]
  have := hp.len; omega
theorem CS {ns:List NodeP}{n:Nat}(h:∀ x ∈ ns, ∀ q ∈ x.parents, 0 <= q /\ q < (n:Int)):∀ p ∈ aW ns, p < 2 ^ n := fun p hp => by
  obtain⟨x, hx, rfl⟩ := Q6.1 hp
  exact xk fun q hq => by have := h x hx q hq; omega
theorem tO (l:List Int)(x:Int):(l ++ [x]).sum = l.sum + x := by simp
set_option maxHeartbeats 2000000 in
theorem PS (g:Int)(ns:List NodeP)(hf:ku ns)(H:AHeap)(K:ARes -> AHeap -> Prop)(hK:K (.ret (.lit (.bool (fw g ns)))) H):ah Tryd.prog G0 33 [dp g ns] H K := by
  refine ah.clo ⟨_, Tryd.func33, rfl, rfl⟩ fun hcl => ?_
  have no:¬ NetOk g ns -> ∀ H', Over H H' -> az Tryd.prog G0 H K (.lit (.bool false)) H' := fun h H' ov => az.cC bz hcl ov (.lit _) (by rw[CR h]at hK; exact hK)
  refine ah.cu (n := 154) (rs := [.tmp 2]) Tryd.func33 rfl rfl rfl (by decide) (by kernel_rfl) (by simp) ?_
  simp (config := { maxSteps := 1000000 }) only[go_sem, dp, ep, aa]
  obtain⟨H1, hH1⟩:∃ H1, H1 = ext H [.arr 0 61 [.lit (.int .i64 g), .vec ns.length (aK ns)]] := ⟨_, rfl⟩
  have l1:H1.live H.next 0 = some (61, [.lit (.int .i64 g), .vec ns.length (aK ns)]) := by rw[hH1]; exact aq (ez ..)
  have n1:H1.next = H.next + 1 := by rw[hH1]; rfl
  have o1:Over H H1 := by rw[hH1]; exact .ext _ _
  rw[<- hH1]
  by_cases c1:g < 1
  · simp (config := { maxSteps := 1000000 }) only[go_sem, l1, c1, aJ, aa]
    exact no (fun h => by have := h.g1; omega) _ o1
  by_cases c2:g > 60
  · simp (config := { maxSteps := 1000000 }) only[go_sem, l1, c1, c2, aJ, aa]
    exact no (fun h => by have := h.g1; omega) _ o1
  by_cases c3:(ns.length:Int) < 1
  · simp (config := { maxSteps := 1000000 }) only[go_sem, l1, c1, c2, c3, aJ, aa]
    exact no (fun h => by have := h.n1; omega) _ o1
  by_cases c4:(ns.length:Int) > 8
  · simp (config := { maxSteps := 1000000 }) only[go_sem, l1, c1, c2, c3, c4, aJ, aa]
    exact no (fun h => by have := h.n1; omega) _ o1
  simp (config := { maxSteps := 1000000 }) only[go_sem, l1, c1, c2, c3, c4, aJ, aa]
  refine W.aR 18446744071562068028 (by rfl) (fun ρ H' => ∃ k:Nat, ρ 4 = ab k /\ k <= ns.length /\ Over H1 H' /\ (∀ x ∈ ns.take k, (1 <= x.card /\ x.card <= 4) /\ cD x.parents ns.length) /\ ρ 3 = ab (aQ ((aA ns).take k))) (fun ρ H => ns.length - (iv (ρ 4)).toNat) ?_ ?_
  · simp (config := { maxSteps := 1000000 }) only[go_sem, aa]
    exact⟨0, rfl, by omega, .refl _, by simp, by simp [kf]⟩
  · rintro ρ H' ⟨k, h4, hk, ov, hall, h3⟩
    refine W.vs ?_
    have l2 := (ov.live (g := 0) (by omega:H.next < H1.next)).trans l1
    have hlt:H.next < H'.next := by have := ov.next; omega
    have l3:∀ L, (ext H' L).live H.next 0 = _ := fun L => (jb hlt).trans l2
    by_cases hb:(k:Int) < ns.length
    · obtain⟨x, hx⟩ := get_of_lt (l := ns) (i := k) (by omega)
      have hxm := an hx
      have hne := jv hx
      have e0 := oo hx
      have e1:k * 3 + 3 <= (aK ns).length := by rw[iy]; omega
      have nb:¬ H.next = H'.next := by omega
      have ove:∀ L, Over H (ext H' L) := fun L => (o1.trans ov).trans (.ext _ _)
      by_cases d1:x.card < 1
      · simp (config := { maxSteps := 1000000 }) only[go_sem, h4, l2, l3, hb, hne, e0, e1, d1, aJ, aa]
        exact no (fun h => by have := (h.node x hxm).1; omega) _ (ove _)
      by_cases d2:x.card > 4
      · simp (config := { maxSteps := 1000000 }) only[go_sem, h4, l2, l3, hb, hne, e0, e1, d1, d2, aJ, aa]
        exact no (fun h => by have := (h.node x hxm).1; omega) _ (ove _)
      simp (config := { maxSteps := 1000000 }) only[go_sem, h4, l2, l3, hb, hne, e0, e1, d1, d2, aJ, aa]
      refine aG.clo (PI x.parents ns.length (by have := (hf.2 x hxm).1; omega) _ _ ⟨trivial, ?_⟩)
      by_cases d3:cD x.parents ns.length
      rotate_left
      · simp (config := { maxSteps := 1000000 }) only[go_sem, d3, aa]
        exact no (fun h => d3 (h.node x hxm).2) _ (ove _)
      have hall':∀ y ∈ ns.take (k + 1), (1 <= y.card /\ y.card <= 4) /\ cD y.parents ns.length := fun y hy => by
        rw[aU hx]at hy
        rcases Q1.1 hy with hy | hy
        · exact hall y hy
        · obtain rfl := List.mem_singleton.1 hy; exact⟨by omega, d3⟩
      have b1:eX ((aA ns).take (k + 1)) := xQ (by simp [aA]; omega) fun c hc => by
        rw[show (aA ns).take (k + 1) = aA (ns.take (k + 1)) by simp [aA]]at hc
        obtain⟨y, hy, rfl⟩ := Q6.1 hc
        exact(hall' y hy).1
      have b2 := b1.prod
      rw[aU (da hx), iz]at b2
      have w1 := QL ((k:Int) + 1) (by omega)
      have w2 := QL (aQ ((aA ns).take k) * x.card) (by omega)
      simp (config := { maxSteps := 1000000 }) only[go_sem, h4, h3, l2, l3, hb, hne, d3, w1, w2, aa]
      exact⟨by have := ov.next; omega, ⟨k + 1, by simp, by omega, ov.trans (.ext _ _), fun y hy => hall' y hy, by rw[aU (da hx), iz]⟩, by omega⟩
    · have ek:k = ns.length := by omega
      subst ek
      rw[QP (Nat.le_refl _)]at hall
      rw[QP (by rw[dE]; omega)]at h3
      have hcards:∀ y ∈ ns, 1 <= y.card /\ y.card <= 4 := fun y hy => (hall y hy).1
      have ov0 := o1.trans ov
      by_cases c5:aQ (aA ns) > 1024
      · simp (config := { maxSteps := 1000000 }) only[go_sem, h4, h3, l2, l3, hb, c5, aJ, aa]
        exact no (fun h => by have := h.size; omega) _ ov0
      simp (config := { maxSteps := 1000000 }) only[go_sem, h4, h3, l2, l3, hb, c5, aJ, aa]
      have hpl:∀ x ∈ ns, (x.parents.length:Int) < 2 ^ 39 /\ ∀ q ∈ x.parents, 0 <= q /\ q < 64 := fun x hx => ⟨by have := (hf.2 x hx).1; omega, fun q hq => by have := (hall x hx).2.2 q hq; omega⟩
      refine aG.clo (PO g ns (by have := hf.1; omega) hpl _ _ ⟨trivial, ?_⟩)
      simp (config := { maxSteps := 1000000 }) only[go_sem, aa]
      refine aG.clo (PQ (aW ns) (by simp [aW]; omega) (fun p hp => QU (CS (n := 64) (fun x hx q hq => by have := (hpl x hx).2 q hq; omega) p hp) (Nat.le_refl _)) _ _ ⟨trivial, ?_⟩)
      cases hac:qt (aW ns)
      · simp (config := { maxSteps := 1000000 }) only[go_sem, aa]
        exact no (fun h => by rw[(tL _).2 h.acyc]at hac; cases hac) _ ov0
      simp (config := { maxSteps := 1000000 }) only[go_sem, aa]
      refine W.aR 22835963083295358096932570788825439312478734276 (by rfl) (fun ρ' H2 => ∃ k:Nat, ρ' 6 = ab k /\ k <= ns.length /\ Over H' H2 /\ ∀ x ∈ ns.take k, fK g ns x) (fun ρ' H => ns.length - (iv (ρ' 6)).toNat) ?_ ?_
      · simp (config := { maxSteps := 1000000 }) only[go_sem, aa]
        exact⟨0, rfl, by omega, .refl _, by simp⟩
      rintro ρ' H2 ⟨k, h6, hk, ov2', hrows⟩
      have ov2 := ov.trans ov2'
      refine W.vs ?_
      have l2 := (ov2.live (g := 0) (by omega:H.next < H1.next)).trans l1
      have hlt:H.next < H2.next := by have := ov2.next; omega
      by_cases hb:(k:Int) < ns.length
      rotate_left
      · simp (config := { maxSteps := 1000000 }) only[go_sem, h6, l2, hb, aa]
        rw[QP (by omega)]at hrows
        rw[qu ⟨by omega, by omega, hall, by omega, (tL _).1 hac, hrows⟩]at hK
        exact az.cC bz hcl (o1.trans ov2) (.lit _) hK
      obtain⟨x, hx⟩ := get_of_lt (l := ns) (i := k) (by omega)
      have hxm := an hx
      have hne := jv hx
      have e0 := oo hx
      have e1:k * 3 + 3 <= (aK ns).length := by rw[iy]; omega
      obtain⟨x1, x2⟩ := hall x hxm
      obtain⟨f1, f2, f3⟩ := hf.2 x hxm
      have sm := tM (by omega) x2 hcards
      simp (config := { maxSteps := 1000000 }) only[go_sem, h6, l2, hb, hne, e0, e1, aa]
      obtain⟨H3, hH3⟩:∃ H3, H3 = ext H2 [.arr 0 91 [.lit (.int .i64 x.card), .vec x.parents.length (ints x.parents), aD x.rows]] := ⟨_, rfl⟩
      have m1:H3.live H2.next 0 = some (91, [.lit (.int .i64 x.card), .vec x.parents.length (ints x.parents), aD x.rows]) := by rw[hH3]; exact aq (ez ..)
      have m2:H3.live H.next 0 = some (61, [.lit (.int .i64 g), .vec ns.length (aK ns)]) := by rw[hH3, jb hlt]; exact l2
      have m3:H3.next = H2.next + 1 := by rw[hH3]; rfl
      have ov3:Over H1 H3 := by rw[hH3]; exact ov2.trans (.ext _ _)
      have ov4:Over H H3 := o1.trans ov3
      rw[<- hH3]
      refine W.draw 7 [0, 1, 3, 0, 0, 24, 56] Tryd.mixed (by kernel_rfl) (by kernel_rfl) ?_
      simp (config := { maxSteps := 1000000 }) only[go_sem, h6, m1, m2, aD, aa]
      refine⟨ag (aO ns x), [], fQ.pure fun H2 => PM g ns k x hx (by have := hf.1; omega) (by omega) (fun q hq => by have := x2.2 q hq; omega) H2 _ ⟨rfl, rfl⟩, ?_⟩
      simp (config := { maxSteps := 1000000 }) only[go_sem, aa]
      refine⟨ab (aQ (aO ns x)), [], fQ.pure fun H2 => PH (aO ns x) sm H2 _ ⟨rfl, rfl⟩, ?_⟩
      by_cases d1:(x.rows.length:Int) = aQ (aO ns x)
      rotate_left
      · simp (config := { maxSteps := 1000000 }) only[go_sem, d1, aa]
        exact no (fun h => d1 (h.rows x hxm).1) _ ov4
      simp (config := { maxSteps := 1000000 }) only[go_sem, d1, aa]
      refine W.aR 22835963083295358091980815354050401082527450884 (by rfl) (fun ρ2 H4 => H4 = H3 /\ ∃ j:Nat, ρ2 8 = ab j /\ j <= x.rows.length /\ ∀ r ∈ x.rows.take j, jC g x.card r) (fun ρ2 H => x.rows.length - (iv (ρ2 8)).toNat) ?_ ?_
      · simp (config := { maxSteps := 1000000 }) only[go_sem, aa]
        exact⟨0, rfl, by omega, by simp⟩
      rintro ρ2 H4 ⟨rfl, j, h8, hj, hrj⟩
      refine W.vs ?_
      by_cases hb2:(j:Int) < x.rows.length
      rotate_left
      · have w1 := QL ((k:Int) + 1) (by omega)
        have hb2':¬ (j:Int) < aQ (aO ns x) := by omega
        simp (config := { maxSteps := 1000000 }) only[go_sem, h6, h8, m1, m2, hb2, hb2', d1, w1, aD, aa]
        rw[QP (by omega)]at hrj
        refine⟨by have := ov2'.next; omega, ⟨k + 1, by simp, by omega, by rw[hH3]; exact ov2'.trans (.ext _ _), fun y hy => ?_⟩, by omega⟩
        rw[aU hx]at hy
        rcases Q1.1 hy with hy | hy
        · exact hrows y hy
        · obtain rfl := List.mem_singleton.1 hy; exact⟨d1, hrj⟩
      obtain⟨r, hr⟩ := get_of_lt (l := x.rows) (i := j) (by omega)
      have hrm := an hr
      have hrne := aM hr
      have hb2':(j:Int) < aQ (aO ns x) := by omega
      have nope:¬ jC g x.card r -> ¬ NetOk g ns := fun h h' => h ((h'.rows x hxm).2 r hrm)
      simp (config := { maxSteps := 1000000 }) only[go_sem, h8, m1, m2, hb2, hb2', d1, aD, aa]
      refine W.draw 8 [0, 1, 0, 7, 15, 31, 0, 64] Tryd.mixed (by kernel_rfl) (by kernel_rfl) ?_
      by_cases d2:(r.length:Int) = x.card
      rotate_left
      · simp (config := { maxSteps := 1000000 }) only[go_sem, h8, m1, m2, hb2, hb2', d1, d2, hr, hrne, aD, aa]
        exact no (nope fun h => d2 h.1) _ ov4
      simp (config := { maxSteps := 1000000 }) only[go_sem, h8, m1, m2, hb2, hb2', d1, d2, hr, hrne, aD, aa]
      refine W.aR 1427247692705635362504627542722711980362171908 (by rfl) (fun ρ3 H5 => H5 = H4 /\ ∃ i:Nat, ρ3 10 = ab i /\ i <= r.length /\ ρ3 9 = ab (r.take i).sum /\ ∀ w ∈ r.take i, 0 <= w /\ w <= g) (fun ρ3 H => r.length - (iv (ρ3 10)).toNat) ?_ ?_
      · simp (config := { maxSteps := 1000000 }) only[go_sem, aa]
        exact⟨0, rfl, by omega, by simp, by simp⟩
      rintro ρ3 H5 ⟨rfl, i, h10, hi, h9, hw⟩
      refine W.vs ?_
      have sb:0 <= (r.take i).sum /\ (r.take i).sum <= 60 * i := by
        have key:∀ l:List Int, (∀ w ∈ l, 0 <= w /\ w <= g) -> 0 <= l.sum /\ l.sum <= 60 * l.length := by
          intro l
          induction l with
          | nil => intro _; simp
          | cons a l ih =>
            intro h
            have h1 := ih fun w hw => h w (by simp [hw])
            have h2 := h a (by simp)
            simp only[RA, List.length_cons]
            push_cast
            omega
        have := key _ hw
        rw[QV, SP (by omega)]at this
        exact this
      have r4:r.length <= 4 := by omega
      by_cases hb3:(i:Int) < r.length <;> have hb3' := hb3 <;> rw[d2]at hb3'
      rotate_left
      · rw[QP (by omega)]at h9 hw
        by_cases d3:r.sum = g
        rotate_left
        · simp (config := { maxSteps := 1000000 }) only[go_sem, h8, h9, h10, m1, m2, hb3, hb3', hr, hrne, hb2, hb2', d1, d2, d3, aD, aa]
          exact no (nope fun h => d3 h.2.2) _ ov4
        have w1 := QL ((j:Int) + 1) (by have := (hf.2 x hxm).2.1; omega)
        simp (config := { maxSteps := 1000000 }) only[go_sem, h8, h9, h10, m1, m2, hb3, hb3', hr, hrne, hb2, hb2', d1, d2, d3, w1, aD, aa]
        refine⟨⟨j + 1, by simp, by omega, fun y hy => ?_⟩, by omega⟩
        rw[aU hr]at hy
        rcases Q1.1 hy with hy | hy
        · exact hrj y hy
        · obtain rfl := List.mem_singleton.1 hy; exact⟨d2, hw, d3⟩
      obtain⟨a, ha⟩ := get_of_lt (l := r) (i := i) (by omega)
      have ham := an ha
      have hane := aM ha
      simp (config := { maxSteps := 1000000 }) only[go_sem, h8, h10, m1, m2, hr, hrne, hb2, hb2', hb3, hb3', d1, d2, aD, aa]
      refine W.draw 20 [0, 1, 0, 7, 15, 0, 63, 127, 255, 511, 1023, 2047, 1023, 8191, 16383, 1023, 65535, 131071, 1023, 263167] Tryd.mixed (by kernel_rfl) (by kernel_rfl) ?_
      by_cases d3:a < 0
      · simp (config := { maxSteps := 1000000 }) only[go_sem, h8, h10, m1, m2, hr, hrne, hb2, hb2', hb3, hb3', ha, hane, d1, d2, d3, aD, aJ, aa]
        exact no (nope fun h => by have := h.2.1 a ham; omega) _ ov4
      by_cases d4:a > g
      · simp (config := { maxSteps := 1000000 }) only[go_sem, h8, h10, m1, m2, hr, hrne, hb2, hb2', hb3, hb3', ha, hane, d1, d2, d3, d4, aD, aJ, aa]
        exact no (nope fun h => by have := h.2.1 a ham; omega) _ ov4
      have w1 := QL ((i:Int) + 1) (by omega)
      have w2 := QL ((r.take i).sum + a) (by omega)
      simp (config := { maxSteps := 1000000 }) only[go_sem, h8, h9, h10, m1, m2, hr, hrne, hb2, hb2', hb3, hb3', ha, hane, d1, d2, d3, d4, w1, w2, aD, aJ, aa]
      refine⟨⟨i + 1, by simp, by omega, by rw[aU ha, tO], fun w hw' => ?_⟩, by omega⟩
      rw[aU ha]at hw'
      rcases Q1.1 hw' with hw' | hw'
      · exact hw w hw'
      · obtain rfl := List.mem_singleton.1 hw'; exact⟨by omega, by omega⟩
def dT (cs:List Int)(xs:List (List Int)):AVal := .agg [ag cs, aD xs]
def fV (cs r:List Int):Prop := r.length = cs.length /\ ∀ (v:Nat) (c x:Int), cs[v]? = some c -> r[v]? = some x -> -1 <= x /\ x < c
structure DataOk (cs:List Int)(xs:List (List Int)):Prop where
  c1:1 <= cs.length /\ cs.length <= 6
  x1:xs.length <= 40
  card:∀ c ∈ cs, 2 <= c /\ c <= 4
  size:aQ cs <= 1024
  row:∀ r ∈ xs, fV cs r
noncomputable def eU (cs:List Int)(xs:List (List Int)):Bool := @decide (DataOk cs xs) (Classical.propDecidable _)
theorem s6 {cs:List Int}{xs:List (List Int)}(h:DataOk cs xs):eU cs xs = true := by unfold eU; exact @decide_eq_true _ (Classical.propDecidable _) h
theorem Lv {cs:List Int}{xs:List (List Int)}(h:¬ DataOk cs xs):eU cs xs = false := by unfold eU; exact @decide_eq_false _ (Classical.propDecidable _) h
theorem A6 {cs:List Int}{xs:List (List Int)}:eU cs xs = true ↔ DataOk cs xs := by unfold eU; exact @decide_eq_true_iff _ (Classical.propDecidable _)
def n8 (cs:List Int)(xs:List (List Int)):Prop := (cs.length:Int) < 2 ^ 38 /\ (xs.length:Int) < 2 ^ 38 /\ ∀ r ∈ xs, (r.length:Int) < 2 ^ 38
theorem pV {xs:List (List Int)}{k:Nat}{r:List Int}(h:xs[k]? = some r):(xs.map ag)[k]? = some (.vec r.length (ints r)) := by rw[List.getElem?_map, h]; rfl
theorem A7 {l:List Int}(h:∀ c ∈ l, 2 <= c /\ c <= 4)(hl:l.length <= 6):1 <= aQ l /\ aQ l <= 4096 := by
  have h1 := tz (b := 4) (by omega) (l := l) fun x hx => by have := h x hx; omega
  have h2 := oq (l := l) fun x hx => by have := h x hx; omega
  have h3:(4:Nat) ^ l.length <= 4 ^ 6 := Rb (by decide) hl
  have h4:((4:Int) ^ l.length) <= 4 ^ 6 := by exact_mod_cast h3
  have:(4:Int) ^ 6 = 4096 := by decide
  omega
theorem fV.of {cs r:List Int}(hl:r.length = cs.length)(h:∀ (v:Nat) (c x:Int), v < r.length -> cs[v]? = some c -> r[v]? = some x -> -1 <= x /\ x < c):fV cs r := ⟨hl, fun v c x h1 h2 => h v c x (get_lt h2) h1 h2⟩
def jm (r:List Int):Bool := decide (∀ x ∈ r, ¬ x < 0)
theorem Lw {r:List Int}(h:∀ x ∈ r, ¬ x < 0):jm r = true := by unfold jm; exact Rk h
theorem Lx {cs:List Int}{r:List Int}(h:fV cs r)(hw:jm r = true):dq cs r := ⟨h.1, fun k c v h1 h2 => by
  have := of_decide_eq_true hw v (an h2)
  have := h.2 k c v h1 h2
  omega⟩
theorem Ly {cs r:List Int}(h:fV cs r):jm r = true ↔ (-1:Int) ∉ r := by
  constructor
  · intro hw hm
    exact of_decide_eq_true hw (-1) hm (by decide)
  · intro hm
    refine Lw fun x hx hlt => ?_
    obtain⟨k, hk⟩ := Ub hx
    obtain⟨c, hc⟩ := get_of_lt (l := cs) (i := k) (by rw[<- h.1]; exact get_lt hk)
    have := h.2 k c x hc hk
    exact hm (by rw[show (-1:Int) = x by omega]; exact hx)
set_option maxHeartbeats 1000000 in
theorem A8 (cs:List Int)(xs:List (List Int))(hf:n8 cs xs)(H:AHeap)(K:ARes -> AHeap -> Prop)(hK:K (.ret (ab (if eU cs xs then 0 else 250))) H):ah Tryd.prog G0 52 [dT cs xs] H K := by
  refine ah.clo ⟨_, Tryd.func52, rfl, rfl⟩ fun hcl => ?_
  have no:¬ DataOk cs xs -> ∀ H', Over H H' -> az Tryd.prog G0 H K (ab 250) H' := fun h H' ov => az.cC bz hcl ov (.lit _) (by rw[Lv h]at hK; exact hK)
  obtain⟨f1, f2, f3⟩ := hf
  refine ah.cu (n := 80) (rs := [.tmp 2]) Tryd.func52 rfl rfl rfl (by decide) (by kernel_rfl) (by simp) ?_
  simp (config := { maxSteps := 1000000 }) only[go_sem, dT, aD, aa]
  obtain⟨H1, hH1⟩:∃ H1, H1 = ext H [.arr 0 50 [.vec cs.length (ints cs), .vec xs.length (xs.map ag)]] := ⟨_, rfl⟩
  have l1:H1.live H.next 0 = some (50, [.vec cs.length (ints cs), .vec xs.length (xs.map ag)]) := by rw[hH1]; exact aq (ez ..)
  have o1:Over H H1 := by rw[hH1]; exact .ext _ _
  rw[<- hH1]
  by_cases c1:(cs.length:Int) < 1
  · simp (config := { maxSteps := 1000000 }) only[go_sem, l1, c1, aJ, aa]
    exact no (fun h => by have := h.c1; omega) _ o1
  by_cases c2:(cs.length:Int) > 6
  · simp (config := { maxSteps := 1000000 }) only[go_sem, l1, c1, c2, aJ, aa]
    exact no (fun h => by have := h.c1; omega) _ o1
  by_cases c3:(xs.length:Int) > 40
  · simp (config := { maxSteps := 1000000 }) only[go_sem, l1, c1, c2, c3, aJ, aa]
    exact no (fun h => by have := h.x1; omega) _ o1
  simp (config := { maxSteps := 1000000 }) only[go_sem, l1, c1, c2, c3, aJ, aa]
  refine W.aR 17591112302636 (by rfl) (fun ρ H' => H' = H1 /\ ∃ k:Nat, ρ 30 = ab k /\ k <= cs.length /\ (∀ c ∈ cs.take k, 2 <= c /\ c <= 4) /\ ρ 3 = ab (aQ (cs.take k))) (fun ρ H => cs.length - (iv (ρ 30)).toNat) ?_ ?_
  · simp (config := { maxSteps := 1000000 }) only[go_sem, aa]
    exact⟨0, rfl, by omega, by simp, by simp [kf]⟩
  rintro ρ H' ⟨rfl, k, h30, hk, hall, h3⟩
  refine W.vs ?_
  by_cases hb:(k:Int) < cs.length
  · obtain⟨c, hc⟩ := get_of_lt (l := cs) (i := k) (by omega)
    have hne := aM hc
    have hcm := an hc
    by_cases d1:c < 2
    · simp (config := { maxSteps := 1000000 }) only[go_sem, h30, hb, hne, hc, d1, aJ, aa]
      exact no (fun h => by have := h.card c hcm; omega) _ o1
    by_cases d2:c > 4
    · simp (config := { maxSteps := 1000000 }) only[go_sem, h30, hb, hne, hc, d1, d2, aJ, aa]
      exact no (fun h => by have := h.card c hcm; omega) _ o1
    have hall':∀ y ∈ cs.take (k + 1), 2 <= y /\ y <= 4 := fun y hy => by
      rw[aU hc]at hy
      rcases Q1.1 hy with hy | hy
      · exact hall y hy
      · obtain rfl := List.mem_singleton.1 hy; omega
    have b1 := A7 hall' (by simp; omega)
    rw[aU hc, iz]at b1
    have w1 := QL ((k:Int) + 1) (by omega)
    have w2 := QL (aQ (cs.take k) * c) (by omega)
    simp (config := { maxSteps := 1000000 }) only[go_sem, h30, h3, hb, hne, hc, d1, d2, w1, w2, aJ, aa]
    exact⟨⟨k + 1, rfl, by omega, hall', by rw[aU hc, iz]⟩, by omega⟩
  rw[QP (by omega)]at hall h3
  by_cases c4:aQ cs > 1024
  · simp (config := { maxSteps := 1000000 }) only[go_sem, h30, h3, hb, c4, aa]
    exact no (fun h => by have := h.size; omega) _ o1
  simp (config := { maxSteps := 1000000 }) only[go_sem, h30, h3, hb, c4, l1, aa]
  refine W.aR 604462909244364633933632 (by rfl) (fun ρ Ha => Ha = H' /\ ∃ k:Nat, ρ 49 = ab k /\ k <= xs.length /\ (∀ r ∈ xs.take k, fV cs r) /\ ρ 6 = ab 0) (fun ρ H => xs.length - (iv (ρ 49)).toNat) ?_ ?_
  · simp (config := { maxSteps := 1000000 }) only[go_sem, aa]
    exact⟨0, rfl, by omega, by simp⟩
  rintro ρ' Ha ⟨rfl, i, h49, hi, hrows, h6⟩
  refine W.vs ?_
  by_cases hb2:(i:Int) < xs.length
  rotate_left
  · simp (config := { maxSteps := 1000000 }) only[go_sem, h49, h6, hb2, aa]
    rw[QP (by omega)]at hrows
    rw[s6 ⟨by omega, by omega, hall, by omega, hrows⟩]at hK
    exact az.cC bz hcl o1 (.lit _) hK
  obtain⟨r, hr⟩ := get_of_lt (l := xs) (i := i) (by omega)
  have hrm := an hr
  have hr' := pV hr
  have hrn := aM hr'
  by_cases hl:(r.length:Int) = cs.length
  rotate_left
  · simp (config := { maxSteps := 1000000 }) only[go_sem, h49, hb2, hr', hrn, l1, hl, aa]
    exact no (fun h => hl (by have := (h.row r hrm).1; omega)) _ o1
  simp (config := { maxSteps := 1000000 }) only[go_sem, h49, h6, hb2, hr', hrn, l1, hl, aa]
  refine W.aR 302229149060648079984192 (by rfl) (fun ρ2 Hb => Hb = Ha /\ ∃ j:Nat, ρ2 61 = ab j /\ j <= r.length /\ (∀ (v:Nat) (c x:Int), v < j -> cs[v]? = some c -> r[v]? = some x -> -1 <= x /\ x < c) /\ ρ2 6 = ab 0) (fun ρ2 H => r.length - (iv (ρ2 61)).toNat) ?_ ?_
  · simp (config := { maxSteps := 1000000 }) only[go_sem, h6, aa]
    exact⟨0, rfl, by omega, fun v _ _ h => by omega⟩
  rintro ρ2 Hb ⟨rfl, j, h61, hj, hin, h6'⟩
  refine W.vs ?_
  have w1 := QL ((i:Int) + 1) (by omega)
  by_cases hb3:(j:Int) < cs.length
  · obtain⟨x, hx⟩ := get_of_lt (l := r) (i := j) (by omega)
    obtain⟨c, hc⟩ := get_of_lt (l := cs) (i := j) (by omega)
    have hxn := aM hx
    have hcn := aM hc
    by_cases d1:x < -1
    · simp (config := { maxSteps := 1000000 }) only[go_sem, h61, hb3, hl, hx, hxn, d1, aJ, aa]
      exact no (fun h => by have := (h.row r hrm).2 j c x hc hx; omega) _ o1
    by_cases d2:x >= c
    · simp (config := { maxSteps := 1000000 }) only[go_sem, h61, hb3, hl, hx, hxn, hc, hcn, l1, d1, d2, aJ, aa]
      exact no (fun h => by have := (h.row r hrm).2 j c x hc hx; omega) _ o1
    have w2 := QL ((j:Int) + 1) (by omega)
    simp (config := { maxSteps := 1000000 }) only[go_sem, h61, h6', hb3, hl, hx, hxn, hc, hcn, l1, d1, d2, w2, aJ, aa]
    refine⟨⟨j + 1, rfl, by omega, fun v c' x' hv h1 h2 => ?_⟩, by omega⟩
    rcases Q3 v j with h | h
    · exact hin v c' x' h h1 h2
    · obtain rfl:v = j := by omega
      rw[hc]at h1; rw[hx]at h2
      cases h1; cases h2; omega
  · simp (config := { maxSteps := 1000000 }) only[go_sem, h61, h6', h49, hb3, hl, w1, aa]
    refine⟨⟨i + 1, rfl, by omega, fun q hq => ?_⟩, by omega⟩
    rw[aU hr]at hq
    rcases Q1.1 hq with hq | hq
    · exact hrows q hq
    · obtain rfl := List.mem_singleton.1 hq
      exact .of (by omega) fun v c x hv => hin v c x (by omega)
end Go.Proofs
namespace Go.Hx
variable {P:Program} {G:Nat -> Option (List AVal)} {n:Nat} {rd:Option Nat} {Q:AX -> St -> Prop}
def C4 (P:Program)(G:Nat -> Option (List AVal))(f:FuncId)(first cap:List AVal)(xs:List (List AVal))(S:AHeap -> Prop):Prop :=
  ∀ (idy:Nat) (J:Nat -> AHeap -> Prop) (Stop:AHeap -> Prop) (H:AHeap) (K:ARes -> AHeap -> Prop),
    (∀ k H1, J k H1 -> S H1) -> J 0 H ->
    (∀ k x H1 K1, xs[k]? = some x -> J k H1 -> H.next <= H1.next -> (∀ H', J (k + 1) H' -> H1.next <= H'.next -> K1 (.ret (.lit (.bool true))) H') -> (∀ H', Stop H' -> H1.next <= H'.next -> K1 (.ret (.lit (.bool false))) H') -> aG P G (.yld idy) x H1 K1) ->
    (∀ H', J xs.length H' -> H.next <= H'.next -> K (.ret (.tup [])) H') ->
    (∀ H', Stop H' -> H.next <= H'.next -> K (.ret (.tup [])) H') ->
    ah P G f (first ++ [.yld idy] ++ cap) H K
def mH (idy:Nat)(B:Blk)(lo:Nat)(J:AHeap -> Prop)(Stop:AX -> AHeap -> Prop):AX -> St -> Prop
  | .normal, s => s.H.get idy = some B /\ lo <= s.H.next /\ J s.H
  | .ret, s => s.H.get idy = some B /\ lo <= s.H.next /\ Stop .ret s.H
  | .exit i, s => s.H.get idy = some B /\ lo <= s.H.next /\ Stop (.exit i) s.H
  | _, _ => False
def tT (P:Program)(G:Nat -> Option (List AVal))(n idy:Nat)(B Bb:Blk)(lo:Nat)(body:Code)(J:AHeap -> Prop)(Stop:AX -> AHeap -> Prop):AX -> St -> Prop
  | .normal, s => s.H.get idy = some B /\ W P G n (some idy) body (mH idy Bb lo J Stop) ⟨s.ρ, s.H.upd idy Bb⟩
  | _, _ => False
theorem W.Qn {g : Operand} {ps : Array Tmp} {asg body : Code} {ρ : Env} {H : AHeap} {f : FuncId} {first cap : List AVal} {xs : List (List AVal)} {S : AHeap → Prop} (hg : af G ρ g = .clo f first cap)
    (hit:C4 P G f first cap xs S) (J:Nat -> AHeap -> Prop) (Stop:AX -> AHeap -> Prop) (hS:∀ k H1, J k H1 -> S H1)
    (hJu:∀ k H1 b, J k H1 -> J k (H1.upd H.next b)) (hSu:∀ c H1 b, Stop c H1 -> Stop c (H1.upd H.next b))
    (hJ0:∀ b, J 0 (ext H [b])) (hps:ps.toList.all (fun t => decide (t < n)) = true) (hxl:∀ x ∈ xs, x.length = ps.size)
    (hrd:∀ k H1, J k H1 -> dc H1 rd) (hrd2:∀ c H1, Stop c H1 -> dc H1 rd)
    (hround:∀ k x H1 B Bb, xs[k]? = some x -> J k H1 -> H.next + 1 <= H1.next -> H1.get H.next = some B -> (∃ st pd n' en ps' as' bo, Bb = Blk.loop st pd n' en ps' as' bo) ->
      W P G n (some H.next) asg (tT P G n H.next B Bb H1.next body (J (k + 1)) Stop) ⟨kM (dz ρ n) (ps.toList.zip x), H1⟩)
    (hend:∀ H', J xs.length H' -> H.next + 1 <= H'.next -> Q .normal ⟨ρ, H'⟩)
    (hret:∀ H', Stop .ret H' -> H.next + 1 <= H'.next -> Q .ret ⟨ρ, H'⟩) (hexit:∀ i H', Stop (.exit i) H' -> H.next + 1 <= H'.next -> Q (.exit i) ⟨ρ, H'⟩):
    W P G n rd (.rangeFunc g ps asg body) Q ⟨ρ, H⟩ := by
  refine W.rangeFunc (s := ⟨ρ, H⟩) hg ⟨_, rj _ _, ?_⟩
  obtain⟨B, hB⟩:∃ B, B = Blk.loop .ready none n ρ ps asg body := ⟨_, rfl⟩
  obtain⟨Bb, hBb⟩:∃ B, B = Blk.loop .busy none n ρ ps asg body := ⟨_, rfl⟩
  have nx:(ext H [B]).next = H.next + 1 := rfl
  show ah P G f (first ++ [.yld H.next] ++ cap) (ext H [Blk.loop .ready none n ρ ps asg body]) (rA rd Q ρ H.next)
  rw[<- hB]
  refine hit H.next (fun k H1 => H1.get H.next = some B /\ J k H1) (fun H1 => ∃ c pend, H1.get H.next = some (.loop .done (some pend) n ρ ps asg body) /\ Stop c H1 /\ ((c = .ret /\ pend = .ret) \/ ∃ i, c = .exit i /\ pend = .exit i)) _ _
    (fun k H1 h => hS k H1 h.2) ⟨cQ, hJ0 B⟩ (fun k x H1 K1 hx hj hn hgo hst => ?_) (fun H' hj hn => ?_) (fun H' hj hn => ?_)
  · have hxm := hxl x (an hx)
    refine aG.yld (hj.1.trans (congrArg some hB)) hxm hps ?_
    refine(hround k x H1 B Bb hx hj.2 hn hj.1 ⟨_, _, _, _, _, _, _, hBb⟩).mono fun e s1 h1 => ?_
    cases e with
    | normal =>
      obtain⟨a1, a2⟩ := h1
      refine⟨Bb, by rw[a1, hB, hBb]; rfl, ?_⟩
      refine a2.mono fun e2 s2 h2 => ?_
      cases e2 with
      | normal =>
        obtain⟨b1, b2, b3⟩ := h2
        exact⟨B, by rw[b1, hB, hBb]; rfl, hgo _ ⟨by rw[ao, QN rfl], hJu _ _ _ b3⟩ b2⟩
      | ret =>
        obtain⟨b1, b2, b3⟩ := h2
        exact⟨.loop .done (some .ret) n ρ ps asg body, by rw[b1, hBb]; rfl, hst _ ⟨.ret, .ret, by rw[ao, QN rfl], hSu _ _ _ b3, .inl ⟨rfl, rfl⟩⟩ b2⟩
      | exit i =>
        obtain⟨b1, b2, b3⟩ := h2
        exact⟨.loop .done (some (.exit i)) n ρ ps asg body, by rw[b1, hBb]; rfl, hst _ ⟨.exit i, .exit i, by rw[ao, QN rfl], hSu _ _ _ b3, .inr ⟨i, rfl, rfl⟩⟩ b2⟩
      | _ => exact h2.elim
    | _ => exact h1.elim
  · refine⟨hrd _ _ hj.2, (none, .loop .exhausted none n ρ ps asg body), by rw[hj.1, hB]; rfl, ?_⟩
    exact hend _ (hJu _ _ _ hj.2) hn
  · obtain⟨c, pend, h1, h2, h3⟩ := hj
    refine⟨hrd2 _ _ h2, (some pend, .loop .exhausted (some pend) n ρ ps asg body), by rw[h1]; rfl, ?_⟩
    rcases h3 with ⟨rfl, rfl⟩ | ⟨i, rfl, rfl⟩
    · exact hret _ (hSu _ _ _ h2) hn
    · exact hexit i _ (hSu _ _ _ h2) hn
end Go.Hx
