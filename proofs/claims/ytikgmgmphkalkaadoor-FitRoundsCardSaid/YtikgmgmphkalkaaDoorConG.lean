/-
  Weights of worlds, utilities, sums. Plain: no program stands in this text. No conditions.
-/
import Derived.Test.YtikgmgmphkalkaaDoorConF
import Derived.Test.YtikgmgmphkalkaaDoorConB
import Derived.Test.YtikgmgmphkalkaaDoorConE
import Derived.Test.YtikgmgmphkalkaaDoorRows
import Derived.Test.YtikgmgmphkalkaaDoorLibE
import Derived.ProofKit
import Derived.LaidMore
import Derived.Stop.Joined
import Derived.Test.YtikgmgmphkalkaaDoorLibD
set_option linter.all false
namespace Go.Proofs
open Go.Hx
def rowV (ns : List NodeP) (x : NodeP) (vals : List Int) : List Int := x.rows.getD (idxL (parC ns x) (atL vals x.parents)).toNat []
def wgtN (ns : List NodeP) (vals : List Int) (v : Nat) : Int := match ns[v]? with
  | some x => (rowV ns x vals).getD (vals.getD v 0).toNat 0
  | none => 1
def worlds (ns : List NodeP) : Nat := (prodL (cardsL ns)).toNat
end Go.Proofs
set_option maxRecDepth 100000
namespace Go.Proofs
open Go.Hx
structure RowAtW (g : Int) (ns : List NodeP) (x : NodeP) (vals : List Int) (v : Nat) (i : Nat) (r : List Int) (a w : Int) : Prop where
  idx : idxL (parC ns x) (atL vals x.parents) = i
  row : x.rows[i]? = some r
  val : vals[v]? = some a
  a0 : 0 ≤ a
  hw : r[a.toNat]? = some w
  wb : 0 ≤ w ∧ w ≤ g
  eq : wgtN ns vals v = w
  rv : rowV ns x vals = r
  len : (r.length : Int) = x.card
  al : a < r.length
def placeStep (ps : List Nat) (pl v : Nat) : Nat := if subN (ps.getD v 0) pl = 0 then pl ||| 2 ^ v else pl
def placeOnce (ps : List Nat) (pl : Nat) : Nat := (List.range ps.length).foldl (placeStep ps) pl
def placeN (ps : List Nat) : Nat → Nat → Nat
  | 0, pl => pl
  | k + 1, pl => placeN ps k (placeOnce ps pl)
theorem getD_lt {ps : List Nat} {b : Nat} (hb : 0 < b) (hp : ∀ p ∈ ps, p < b) (v : Nat) : ps.getD v 0 < b := by
  rw [List.getD_eq_getElem?_getD]
  cases h : ps[v]? with
  | none => exact hb
  | some p => exact hp p (List.mem_of_getElem? h)
def Placed (ps : List Nat) (pl : Nat) : Prop := Closed ps pl ∧ ∀ v, v < ps.length → pl.testBit v = true → (upL ps (ps.getD v 0)).testBit v = false
theorem Placed.step {ps : List Nat} (hp : ∀ p ∈ ps, p < 2 ^ 64) {pl v : Nat} (h : Placed ps pl) (hv : v < ps.length) : Placed ps (placeStep ps pl v) := by
  unfold placeStep
  split
  · rename_i hs
    have hsub := (subN_zero (getD_lt (by decide) hp v)).1 hs
    rcases Bool.eq_false_or_eq_true (pl.testBit v) with hb | hb
    · have e : pl ||| 2 ^ v = pl := Nat.eq_of_testBit_eq fun i => by
        rw [or_pow_bit]
        by_cases hi : v = i
        · subst hi; rw [hb]; rfl
        · simp [hi]
      rw [e]; exact h
    · refine ⟨fun w hw hwb => ?_, fun w hw hwb => ?_⟩
      · rw [or_pow_bit] at hwb
        rcases Bool.or_eq_true_iff.1 hwb with hwb | hwb
        · exact (h.1 w hw hwb).trans (.left _ _)
        · obtain rfl := of_decide_eq_true hwb; exact hsub.trans (.left _ _)
      · rw [or_pow_bit] at hwb
        rcases Bool.or_eq_true_iff.1 hwb with hwb | hwb
        · exact h.2 w hw hwb
        · obtain rfl := of_decide_eq_true hwb
          have hu := upN_closed h.1 ps.length hsub
          rcases Bool.eq_false_or_eq_true ((upL ps (ps.getD v 0)).testBit v) with e | e
          · have := hu v e; rw [hb] at this; cases this
          · exact e
  · exact h
theorem Placed.fold {ps : List Nat} (hp : ∀ p ∈ ps, p < 2 ^ 64) (l : List Nat) (hl : ∀ v ∈ l, v < ps.length) : ∀ pl, Placed ps pl → Placed ps (l.foldl (placeStep ps) pl) := by
  induction l with
  | nil => exact fun pl h => h
  | cons v l ih => exact fun pl h => ih (fun w hw => hl w (by simp [hw])) _ (h.step hp (hl v (by simp)))
theorem Placed.rounds {ps : List Nat} (hp : ∀ p ∈ ps, p < 2 ^ 64) : ∀ (k : Nat) {pl : Nat}, Placed ps pl → Placed ps (placeN ps k pl)
  | 0, _, h => h
  | k + 1, _, h => Placed.rounds hp k (Placed.fold hp _ (fun v hv => List.mem_range.1 hv) _ h)
def prm (i : Nat) : Int := primesL.getD i 2
def cntQ (q : Int) : Nat → Int → Nat
  | 0, _ => 0
  | f + 1, n => if n % q = 0 then cntQ q f (n / q) + 1 else 0
def rstQ (q : Int) : Nat → Int → Int
  | 0, n => n
  | f + 1, n => if n % q = 0 then rstQ q f (n / q) else n
def leftP (n : Int) : Nat → Int
  | 0 => n
  | i + 1 => rstQ (prm i) 6 (leftP n i)
def expN (n : Int) (i : Nat) : Nat := cntQ (prm i) 6 (leftP n i)
def addP (e : List Int) (t n : Int) : List Int := (List.range 18).map fun k => e.getD k 0 + t * (expN n k : Int)
def zeroP : List Int := List.replicate 18 0
theorem cnt_le (q : Int) : ∀ (f : Nat) (n : Int), cntQ q f n ≤ f := by
  intro f
  induction f with
  | zero => intro n; exact Nat.le_refl _
  | succ f ih =>
    intro n
    unfold cntQ
    split
    · have := ih (n / q); omega
    · omega
theorem exp_le (n : Int) (i : Nat) : expN n i ≤ 6 := cnt_le _ _ _
def InB (e : List Int) (b : Int) : Prop := ∀ x ∈ e, -b ≤ x ∧ x ≤ b
theorem InB.getD {e : List Int} {b : Int} (h : InB e b) (hb : 0 ≤ b) (k : Nat) : -b ≤ e.getD k 0 ∧ e.getD k 0 ≤ b := by
  rw [List.getD_eq_getElem?_getD]
  cases hk : e[k]? with
  | none => exact ⟨by simp; omega, by simpa using hb⟩
  | some x => exact h x (List.mem_of_getElem? hk)
theorem sgn_mul {t : Int} (ht : t = 1 ∨ t = -1) {c : Nat} (hc : c ≤ 6) : -6 ≤ t * (c : Int) ∧ t * (c : Int) ≤ 6 := by
  rcases ht with rfl | rfl <;> omega
theorem InB.add {e : List Int} {b t : Int} (h : InB e b) (hb : 0 ≤ b) (ht : t = 1 ∨ t = -1) (n : Int) : InB (addP e t n) (b + 6) := fun x hx => by
  obtain ⟨k, _, rfl⟩ := List.mem_map.1 hx
  have := h.getD hb k
  have := sgn_mul ht (exp_le n k)
  omega
theorem InB.zero : InB zeroP 0 := fun x hx => by
  obtain rfl := List.eq_of_mem_replicate hx
  omega
end Go.Proofs
namespace Go.Hx
variable {P : Program} {G : Nat → Option (List AVal)} {rd : Option Nat} {Q : AX → St → Prop} {K : St → Prop} {KF : FP → St → Prop} {s : St} {d : Option Tmp} {ty : TypeId} {pos : String} {aft : Array Edge} {g : Option (Nat × Bool)}
@[go_sem] theorem opD_lookup (t : TypeId) (x i : Operand) (ok : Bool) : opD P G ⟨d, .lookup t x i ok, ty, pos, aft, g⟩ KF s = opV P G none QF ⟨d, .lookup t x i ok, ty, pos, aft, g⟩ (KF ⟨[], idsM (evA G s.ρ x)⟩) s := (rfl)
@[go_sem] theorem opD_mapUpdate (t : TypeId) (m k x : Operand) : opD P G ⟨d, .mapUpdate t m k x, ty, pos, aft, g⟩ KF s = opV P G none QF ⟨d, .mapUpdate t m k x, ty, pos, aft, g⟩ (KF ⟨idsM (evA G s.ρ m), idsM (evA G s.ρ m)⟩) s := (rfl)
@[go_sem] theorem partU_map (a b : TypeId) (n : Nat) (cells : List AVal) (off : Nat) : partU (some (.map a b)) n cells off = cells[off]? := rfl
@[go_sem] theorem cells_yld (id : Nat) : (AVal.yld id).cells = [.yld id] := rfl
@[go_sem] theorem one_yld (id : Nat) : (AVal.yld id).one = true := rfl
@[go_sem] theorem idsM_yld (id : Nat) : idsM (.yld id) = [id] := rfl
end Go.Hx
namespace Go.Hx
end Go.Hx
namespace Go.Proofs
open Go.Hx
def parOk (P r : List Int) : Bool := decide (∀ p ∈ P, ¬ r.getD p.toNat 0 < 0)
def rowI (cs P r : List Int) : Int := idxL (atL cs P) (atL r P)
def keyC (cs P : List Int) (v : Nat) (r : List Int) : Option Int := if ¬ r.getD v 0 < 0 ∧ parOk P r = true then some (rowI cs P r * cs.getD v 0 + r.getD v 0) else none
def cntF (cs P : List Int) (v : Nat) (xs : List (List Int)) (k : Int) : Nat := xs.countP fun r => decide (keyC cs P v r = some k)
def parsL (n s : Nat) : List Int := ((List.range n).filter fun p => s.testBit p).map fun (p : Nat) => (p : Int)
def cntsL (cs P : List Int) (v : Nat) (xs : List (List Int)) (prior : Int) (j : Nat) : List Int := (List.range (cs.getD v 0).toNat).map fun (k : Nat) => prior + (cntF cs P v xs ((j : Int) * cs.getD v 0 + k) : Int)
structure FitN (cs : List Int) (xs : List (List Int)) (grain prior least : Int) (n v s : Nat) (x : NodeP) : Prop where
  card : x.card = cs.getD v 0
  par : x.parents = parsL n s
  len : (x.rows.length : Int) = prodL (atL cs (parsL n s))
  row : ∀ j r, x.rows[j]? = some r → ShareOk least (spareOf grain least (cntsL cs (parsL n s) v xs prior j)) (cntsL cs (parsL n s) v xs prior j) r
structure ParIn (cs P : List Int) : Prop where
  rng : ∀ p ∈ P, 0 ≤ p ∧ p < cs.length
  len : P.length ≤ 6
  card : ∀ c ∈ cs, 2 ≤ c ∧ c ≤ 4
theorem ParIn.at_get {cs P r : List Int} (h : ParIn cs P) (hr : r.length = cs.length) {k : Nat} {q : Int} (hq : P[k]? = some q) : ∃ (j : Nat) (c b : Int), q = j ∧ cs[j]? = some c ∧ r[j]? = some b ∧ (atL cs P)[k]? = some c ∧ (atL r P)[k]? = some b := by
  obtain ⟨j, rfl, c, hc⟩ := get_of_int (l := cs) (h.rng q (List.mem_of_getElem? hq)).1 (h.rng q (List.mem_of_getElem? hq)).2
  obtain ⟨b, hb⟩ := get_of_lt (l := r) (i := j) (by rw [hr]; exact get_lt hc)
  exact ⟨j, c, b, rfl, hc, hb, by rw [atL_get hq, Int.toNat_natCast, getD_of_get hc], by rw [atL_get hq, Int.toNat_natCast, getD_of_get hb]⟩
theorem ParIn.fits {cs P r : List Int} (h : ParIn cs P) (hc : CaseOk cs r) (hp : parOk P r = true) : FitsC (atL cs P) (atL r P) := by
  refine ⟨by rw [atL_len, atL_len], fun k c v h1 h2 => ?_⟩
  obtain ⟨q, hq⟩ := get_of_lt (l := P) (i := k) (by have := get_lt h1; rw [atL_len] at this; exact this)
  obtain ⟨j, c', b, rfl, hc', hb, e1, e2⟩ := h.at_get hc.1 hq
  rw [h1] at e1; rw [h2] at e2
  cases e1; cases e2
  have := hc.2 j _ _ hc' hb
  have hp' := of_decide_eq_true hp j (List.mem_of_getElem? hq)
  rw [Int.toNat_natCast, getD_of_get hb] at hp'
  omega
theorem ParIn.small {cs P : List Int} (h : ParIn cs P) : SmallC (atL cs P) ∧ ∀ c ∈ atL cs P, 2 ≤ c ∧ c ≤ 4 := by
  have h4 : ∀ c ∈ atL cs P, 2 ≤ c ∧ c ≤ 4 := fun c hc => by
    obtain ⟨q, hq, rfl⟩ := List.mem_map.1 hc
    obtain ⟨j, rfl, c, hc⟩ := get_of_int (l := cs) (h.rng q hq).1 (h.rng q hq).2
    rw [Int.toNat_natCast, getD_of_get hc]
    exact h.card c (List.mem_of_getElem? hc)
  exact ⟨⟨by rw [atL_len]; have := h.len; omega, fun x hx => by have := h4 x hx; omega⟩, h4⟩
end Go.Proofs
namespace Go.Proofs.R01
open Go.Hx
section
variable {P : Program} {t : TypeId} {x y : Operand} {k k' : IntKind} {a b : Int}
end
section
variable {P : Program} {G : Nat → Option (List AVal)}
end
end Go.Proofs.R01
namespace Go.Proofs.R01
open Go.Hx
def val : List Int → Nat
  | [] => 0
  | a :: l => a.toNat + 10000 * val l
end Go.Proofs.R01
namespace Go.Proofs.R01
open Go.Hx
end Go.Proofs.R01
namespace Go.Proofs.R01
open Go.Hx
end Go.Proofs.R01
namespace Go.Proofs.R01
open Go.Hx
theorem setAt_ints {l : List Int} {k : Nat} (v : Int) (h : k < l.length) : setAt (ints l) k [.lit (.int .i64 v)] = ints (l.set k v) := by
  unfold setAt ints
  rw [List.map_set, List.set_eq_take_append_cons_drop, if_pos (by simpa using h)]
  simp [lin]
end Go.Proofs.R01
namespace Go.Proofs.R01
open Go.Hx
end Go.Proofs.R01
namespace Go.Proofs.R01
open Go.Hx
end Go.Proofs.R01
namespace Go.Proofs.R01
open Go.Hx
end Go.Proofs.R01
namespace Go.Proofs.R01
open Go.Hx
end Go.Proofs.R01
namespace Go.Proofs
open Go.Hx
def bytesL (l : List Int) : List AVal := l.map fun n => .lit (.int .u8 n)
theorem bytesL_get {l : List Int} {k : Nat} {a : Int} (h : l[k]? = some a) : (bytesL l)[k]? = some (.lit (.int .u8 a)) := by unfold bytesL; rw [List.getElem?_map, h]; rfl
theorem bytesL_len (l : List Int) : (bytesL l).length = l.length := by simp [bytesL]
end Go.Proofs
namespace Go.Hx
variable {P : Program} {H H' : AHeap}
end Go.Hx
namespace Go.Proofs
open Go.Hx
def U8 (n : Int) : Prop := 0 ≤ n ∧ n < 256
structure IsPerm (n : Nat) (p : List Int) : Prop where
  len : p.length = n
  nd : p.Nodup
  rng : ∀ x ∈ p, 0 ≤ x ∧ x < n
end Go.Proofs
namespace Go.Hx
open Go.Proofs (get_lt get_of_lt)
variable {P : Program} {H : AHeap} {G : Nat → Option (List AVal)}
def OwnD2 (lo : Nat) (H : AHeap) (e1 e0 : TypeId) (v : AVal) (rows : List (List AVal)) : Prop :=
  ∃ cs : List AVal, OwnG lo H e1 v cs ∧ cs.length = rows.length ∧ (∀ (j : Nat) (r : List AVal) (c : AVal), rows[j]? = some r → cs[j]? = some c → OwnG lo H e0 c r) ∧ ∀ (i j a g g' n n' : Nat), cs[i]? = some (.own a g 0 n 1) → cs[j]? = some (.own a g' 0 n' 1) → i = j
theorem OwnD2.nil {lo : Nat} {e1 e0 : TypeId} : OwnD2 lo H e1 e0 (.lit (.slice none 0 0)) [] := ⟨[], .nil, rfl, fun j r c h => by simp at h, fun i j a g g' n n' h => by simp at h⟩
theorem OwnD2.lo {lo lo' : Nat} {e1 e0 : TypeId} {v : AVal} {rows : List (List AVal)} (h : OwnD2 lo H e1 e0 v rows) (hl : lo' ≤ lo) : OwnD2 lo' H e1 e0 v rows :=
  let ⟨cs, a, b, c, d⟩ := h; ⟨cs, a.keep hl (Nat.le_refl _) fun _ _ _ _ _ _ => rfl, b, fun j r q h1 h2 => (c j r q h1 h2).keep hl (Nat.le_refl _) fun _ _ _ _ _ _ => rfl, d⟩
theorem OwnD2.row {lo : Nat} {e1 e0 : TypeId} {v : AVal} {rows : List (List AVal)} (h : OwnD2 lo H e1 e0 v rows) (hne : e1 ≠ e0) {k : Nat} {r : List AVal} (hr : rows[k]? = some r) (h0 : r ≠ []) :
    ∃ idt gt idr gr cells, v = .own idt gt 0 rows.length 1 ∧ H.get idt = some (.arr gt e1 cells) ∧ cells.length = rows.length ∧ lo ≤ idt ∧ idt < H.next ∧ cells[k]? = some (.own idr gr 0 r.length 1) ∧ H.get idr = some (.arr gr e0 r) ∧ lo ≤ idr ∧ idr < H.next ∧
      ∀ r' : List AVal, r'.length = r.length → OwnD2 lo (H.upd idr (.arr gr e0 r')) e1 e0 v (rows.set k r') := by
  obtain ⟨cs, h1, h2, h3, h4⟩ := h
  have hk := get_lt hr
  obtain ⟨c, hc⟩ := get_of_lt (l := cs) (i := k) (by omega)
  rcases h3 k r c hr hc with ⟨_, e⟩ | ⟨idr, gr, a1, a2, e, a4⟩
  · exact absurd e h0
  rcases h1 with ⟨_, e'⟩ | ⟨idt, gt, b1, b2, e', b4⟩
  · rw [e'] at h2; simp at h2; omega
  subst e
  have hit : idt ≠ idr := fun e => by rw [e, a4] at b4; cases b4; exact hne rfl
  refine ⟨idt, gt, idr, gr, cs, by rw [e', h2], b4, h2, b1, b2, hc, a4, a1, a2, fun r' hl => ⟨cs, .inr ⟨idt, gt, b1, by rw [upd_next]; exact b2, e', by rw [upd_get, if_neg hit]; exact b4⟩, by rw [List.length_set]; exact h2, fun j q c' hj hc' => ?_, h4⟩⟩
  by_cases e : j = k
  · subst e
    rw [List.getElem?_set_self hk] at hj
    rw [hc] at hc'
    cases hj
    cases hc'
    exact .inr ⟨idr, gr, a1, by rw [upd_next]; exact a2, by rw [hl], by rw [upd_get, if_pos rfl]⟩
  · rw [List.getElem?_set_ne (fun h => e h.symm)] at hj
    refine (h3 j q c' hj hc').keep (Nat.le_refl _) (by rw [upd_next]; exact Nat.le_refl _) fun i g _ _ _ hv => ?_
    rw [upd_get, if_neg]
    rintro rfl
    rw [hv] at hc'
    exact e (h4 j k i g gr _ _ hc' hc)
theorem WeakS.cutE (hG : GOk G) {s : St} {n t0 : Nat} {v' : AVal} (hv : Fz (fun id => n ≤ id) s.H s.H.next (s.ρ t0) v') : WeakS P G s ⟨fun t => if t = t0 then v' else s.ρ t, s.H.cut n⟩ := by
  intro m wb Γ a w hs
  refine WeakS.freeze (s := s) (s' := ⟨fun t => if t = t0 then v' else s.ρ t, s.H.cut n⟩) hG (fzH_cut hs.heap.clo n) (fun t => ?_) m wb Γ a w hs
  by_cases h : t = t0
  · subst h
    simp only [if_true]
    exact hv
  · simp only [h, if_false]
    exact .dead (hs.env t).belowN
end Go.Hx
namespace Go.Proofs
open Go.Hx
structure D25 where
  cards : List Int
  cases : List (List Int)
  follow : Int
  miss : List Int
def casesC (l : List (List Int)) : List AVal := (l.map bytesL).flatten
def D25.cells (d : D25) : List AVal := [.vec d.cards.length (bytesL d.cards), .vec d.cases.length (casesC d.cases), .lit (.int .u8 d.follow), .vec d.miss.length (bytesL d.miss)]
structure D25.Ok (d : D25) : Prop where
  cl : (d.cards.length : Int) < 2 ^ 63
  c8 : ∀ x ∈ d.cards, U8 x
  xl : (d.cases.length : Int) < 2 ^ 63
  x8 : ∀ r ∈ d.cases, r.length = 5 ∧ ∀ x ∈ r, U8 x
  f8 : U8 d.follow
  ml : (d.miss.length : Int) < 2 ^ 63
  m8 : ∀ x ∈ d.miss, U8 x
def RowsN (n : Nat) (xs : List (List Int)) : Prop := ∀ r ∈ xs, r.length = n
theorem RowsN.set {n : Nat} {xs : List (List Int)} (h : RowsN n xs) {i : Nat} {r : List Int} (hr : r.length = n) : RowsN n (xs.set i r) := fun q hq => by
  rcases List.mem_or_eq_of_mem_set hq with h' | rfl
  · exact h q h'
  · exact hr
end Go.Proofs
namespace Go.Hx
variable {P : Program} {G : Nat → Option (List AVal)}
theorem OwnG2.upd {lo : Nat} {H : AHeap} {e1 e0 : TypeId} {v : AVal} {rows : List (List AVal)} (h : OwnG2 lo H e1 e0 v rows) {k : Nat} {b : Blk} (hk : k < lo) : OwnG2 lo (H.upd k b) e1 e0 v rows := by
  obtain ⟨cs, c1, c2, c3⟩ := h
  refine ⟨cs, c1.keep (Nat.le_refl _) (by rw [upd_next]; exact Nat.le_refl _) fun id _ h1 _ _ _ => by rw [upd_get, if_neg (by omega)], c2, fun j r c hr hc => (c3 j r c hr hc).keep (Nat.le_refl _) (by rw [upd_next]; exact Nat.le_refl _) fun id _ h1 _ _ _ => by rw [upd_get, if_neg (by omega)]⟩
end Go.Hx
namespace Go.Proofs
open Go.Hx
structure RInv (g : Int) (c : List Int) (m : Nat) (d : List Int) (last : Nat) : Prop where
  dl : d.length = c.length
  d0 : ∀ x ∈ d, 0 ≤ x
  dd : d.drop m = c.drop m
  dg : (d.take m).sum ≤ g
  ds : c.sum * (d.take m).sum ≤ g * (c.take m).sum
  la : last < c.length
structure DrP where
  card : Int
  par : Int
  w : List Int
def DrP.cells (x : DrP) : List AVal := [.lit (.int .u8 x.card), .lit (.int .u8 x.par), .vec x.w.length (bytesL x.w)]
theorem sum_take_succ {c : List Int} {i : Nat} {x : Int} (h : c[i]? = some x) : (c.take (i + 1)).sum = (c.take i).sum + x := by rw [take_succ_get h]; simp
theorem sum_take_rng {c : List Int} (hc : ∀ x ∈ c, 0 ≤ x ∧ x ≤ 1099511627776) (i : Nat) : 0 ≤ (c.take i).sum ∧ (c.take i).sum ≤ 1099511627776 * (c.take i).length := by
  have : ∀ l : List Int, (∀ x ∈ l, 0 ≤ x ∧ x ≤ 1099511627776) → 0 ≤ l.sum ∧ l.sum ≤ 1099511627776 * l.length := by
    intro l
    induction l with
    | nil => intro _; simp
    | cons a l ih =>
      intro h
      have h1 := h a (by simp)
      have h2 := ih fun x hx => h x (by simp [hx])
      rw [List.sum_cons, List.length_cons]
      omega
  exact this _ fun x hx => hc x (List.mem_of_mem_take hx)
end Go.Proofs
namespace Go.Hx
variable {P : Program}
structure Own2 (lo : Nat) (H : AHeap) (e : TypeId) (v : AVal) (l : List AVal) (u : AVal) (m : List AVal) : Prop where
  a : OwnG lo H e v l
  b : OwnG lo H e u m
  ne : ∀ i g n g' n', v = .own i g 0 n 1 → u ≠ .own i g' 0 n' 1
theorem Own2.symm {lo : Nat} {H : AHeap} {e : TypeId} {v u : AVal} {l m : List AVal} (h : Own2 lo H e v l u m) : Own2 lo H e u m v l := ⟨h.b, h.a, fun i g n g' n' h1 h2 => h.ne i g' n' g n h2 h1⟩
theorem Own2.nil {lo : Nat} {H : AHeap} {e : TypeId} : Own2 lo H e (.lit (.slice none 0 0)) [] (.lit (.slice none 0 0)) [] := ⟨.nil, .nil, fun _ _ _ _ _ h => (by cases h)⟩
theorem Own2.keep {lo : Nat} {H H' : AHeap} {e : TypeId} {v u : AVal} {l m : List AVal} (h : Own2 lo H e v l u m) (hn : H.next ≤ H'.next) (hk : ∀ id, lo ≤ id → id < H.next → H'.get id = H.get id) : Own2 lo H' e v l u m :=
  ⟨h.a.keep (Nat.le_refl _) hn fun id _ h1 h2 _ _ => hk id h1 h2, h.b.keep (Nat.le_refl _) hn fun id _ h1 h2 _ _ => hk id h1 h2, h.ne⟩
theorem Own2.app {lo n : Nat} {H : AHeap} {e t : TypeId} {v u x : AVal} {l m z : List AVal} (ht : P.underlying t = some (.slice e)) (hz : P.cellsOf e = 1) (hzero : zeroA P e = some z) (hx : x.one = true)
    (hb : (l.length + 1) * P.bytesOf e ≤ 2 ^ 46 ∧ l.length + 1 ≤ 2 ^ 46) (h : Own2 lo H e v l u m) (hlo : lo ≤ H.next) (hn : n = H.next + 1) :
    ∃ v' H', appendA P (ext H [.arr 0 e [x]]) n t t v (.own H.next 0 0 1 1) = some (v', H') ∧ Own2 lo H' e v' (l ++ [x]) u m ∧ H.next ≤ H'.next ∧ (∀ k, k < lo → H'.get k = H.get k) := by
  have hsrc : sourceA (ext H [.arr 0 e [x]]) 1 (.own H.next 0 0 1 1) = some (1, [x]) := by
    unfold sourceA
    have := get_live (H := ext H [.arr 0 e [x]]) (g := 0) (ext1_get_new (b := .arr 0 e [x]))
    simp [this]
  have hne : (ext H [Blk.arr 0 e [x]]).next = H.next + 1 := rfl
  obtain ⟨ha, hbb, hnn⟩ := h
  rcases ha with ⟨rfl, rfl⟩ | ⟨i, g, h1, h2, rfl, h4⟩
  · have n2 : (ext (ext H [.arr 0 e [x]]) [.arr 0 e [x]]).next = H.next + 2 := rfl
    have old : ∀ k, k < H.next → (ext (ext H [.arr 0 e [x]]) [.arr 0 e [x]]).get k = H.get k := fun k hk => by rw [ext1_get_old (by rw [hne]; omega), ext1_get_old hk]
    refine ⟨.own (H.next + 1) 0 0 1 1, ext (ext H [.arr 0 e [x]]) [.arr 0 e [x]], ?_, ⟨.inr ⟨H.next + 1, 0, by omega, by rw [n2]; omega, by simp, ?_⟩, hbb.keep (Nat.le_refl _) (by rw [n2]; omega) fun id _ _ hid _ _ => old id hid, fun i g n g' n' he hu => ?_⟩, by rw [n2]; omega, fun k hk => old k (by omega)⟩
    · unfold appendA; rw [ht]
      simp only [hzero, hz, Option.bind_some, hsrc]
      rw [if_neg (by decide), if_pos (by simpa using hb), lay_at (by rw [hn, hne]), hn]
      rfl
    · rw [← hne]; exact ext1_get_new
    · have := (AVal.own.inj he).1
      rcases hbb with ⟨rfl, _⟩ | ⟨j, g2, _, a2, rfl, _⟩
      · cases hu
      · have := (AVal.own.inj hu).1
        omega
  · have h4' : (ext H [.arr 0 e [x]]).get i = some (.arr g e l) := by rw [ext1_get_old h2]; exact h4
    refine ⟨.own i (g + 1) 0 (l.length + 1) 1, (ext H [.arr 0 e [x]]).upd i (.arr (g + 1) e (l ++ [x])), ?_, ⟨.inr ⟨i, g + 1, h1, by rw [upd_next, hne]; omega, by simp, by rw [upd_get, if_pos rfl]⟩, hbb.keep (Nat.le_refl _) (by rw [upd_next, hne]; omega) fun id g3 _ hid _ hu => ?_, fun i' g' n' g'' n'' he hu => hnn i g l.length g'' n'' rfl (by rw [hu, (AVal.own.inj he).1])⟩, by rw [upd_next, hne]; omega, fun k hk => ?_⟩
    · unfold appendA; rw [ht]
      have hl := get_live h4'
      simp only [hzero, hz, Option.bind_some, hsrc, hl]
      rw [if_pos ⟨trivial, trivial, by omega, hb.1, hb.2, by simp [hx]⟩]
      simp
    · rw [upd_get, if_neg, ext1_get_old hid]
      rintro rfl
      exact hnn id g l.length g3 _ rfl hu
    · rw [upd_get, if_neg (by omega), ext1_get_old (by omega)]
end Go.Hx
namespace Go.Proofs
open Go.Hx
end Go.Proofs
namespace Go.Proofs.YtikgmgmphkalkaaDoor
open Go.ChangeShapes Go.WideShapes Go.ChangeAt Go.RowKit Go.Hx

theorem Tryd.own : ownKnob Tryd.prog.godebug = none := by kernel_rfl
theorem Tryd.laidOut : laidOutB Tryd.prog = true := by kernel_rfl
theorem Tryd.boolT : Tryd.prog.underlying 4 = some .bool := by kernel_rfl
def nameF : String := match (Rows.fitKnownRow.laid) with
  | p :: _ => p.1
  | [] => Tryd.f0.name
theorem Tryd.gFact : Tryd.prog.globalNamed nameF = some 0 := by kernel_rfl
theorem Tryd.tFact : (Tryd.prog.globals[0]?).map (·.type) = some 83 := by kernel_rfl
theorem Tryd.uFact : Tryd.prog.underlying 83 = some (.array 18 3) := by kernel_rfl
theorem Tryd.cFact : Tryd.prog.cellsOf 83 = 18 * Tryd.prog.cellsOf 3 := by kernel_rfl
theorem Tryd.door_met (os : Os) (args : Array Value) : laidMetH Tryd.prog Rows.fitKnownRow.laid ((World.doorLaid Tryd.prog 400 os).forCall (fun _ _ => 0) ⟨#[], args, []⟩).memory :=
  laidMetH_of_parts3 (fuel := 8) (laidMet_of_run' 8 (by kernel_rfl) (by kernel_rfl)) (by kernel_rfl) (by kernel_rfl)
theorem Tryd.glob_ok {W : World} (h : laidMetH Tryd.prog Rows.fitKnownRow.laid W) : GlobOk Tryd.prog G0 W := by
  rw [MakeChecks.laidMetH_plain _ _ _ (by kernel_rfl)] at h
  obtain ⟨ps, hL, _⟩ := h
  have hL' : DataW.LaidVars Tryd.prog W [(nameF, .agg (primesL.map fun n => .lit (.int .i64 n)))] ps := hL
  obtain ⟨h1, _⟩ := table_glob Tryd.gFact Tryd.tFact Tryd.uFact Tryd.underlying3 Tryd.cFact hL'
  intro g cells hg
  unfold G0 at hg
  split at hg
  · rename_i h0
    subst h0
    cases hg
    exact h1
  · cases hg
section
variable {W : World} {H : Type} {enc : TypeId × Value → H} {spare : Nat → Bool} {held : Bool}
theorem arg_bytes {r : Reach} {b : Nat} {v : Value} {d : DataW H} {ps : List MemPlace} (hval : Value.okWide Tryd.prog W r b 23 v) (hd : DataW.Trod enc Tryd.prog W 0 spare held 23 v d ps) :
    ∃ l : List Int, RelV Tryd.prog noG noH W (.vec l.length (bytesL l)) v ∧ (l.length : Int) < 2 ^ 63 ∧ ∀ x ∈ l, 0 ≤ x ∧ x ≤ 255 := by
  obtain ⟨l, h1, h2, h3⟩ := arg_ints Tryd.underlying23 Tryd.underlying5 Tryd.cells5 hval hd
  exact ⟨l, h1, by have : maxLen < 2 ^ 63 := by decide
                   omega, fun c hc => wf_u8 (h3 c hc)⟩
end
end Go.Proofs.YtikgmgmphkalkaaDoor
namespace Go.Proofs
open Go.Hx
noncomputable def Tryd.epW : EP := { P := Tryd.prog, G := G0, gd := fun _ => none, known := knownOf [] }
theorem Tryd.epW_ok : EOk Tryd.epW := .of_known (l := []) rfl G0_ok Tryd.mixed (fun _ _ h => by cases h) trivial
theorem Tryd.works_chk : chk Tryd.epW 1000000 14 [] (.lit (.bool true)) = true := by kernel_rfl
theorem works_ok (H : AHeap) (K : ARes → AHeap → Prop) (hK : K (.ret (.lit (.bool true))) H) : ACall Tryd.prog G0 14 [] H K :=
  (ACall.frame (args' := []) G0_ok rfl (fun i h _ => absurd h (Nat.not_lt_zero _)) (chk_ok Tryd.epW_ok Tryd.works_chk)).mono fun r H' ⟨h1, h2⟩ => by rw [h1, h2]; exact hK
end Go.Proofs
namespace Go.Hx
theorem OwnG.neF {lo : Nat} {H : AHeap} {e : TypeId} {v : AVal} {cs : List AVal} (h : OwnG lo H e v cs) {k : Nat} (hk : k < lo) : ∀ g n, v ≠ .own k g 0 n 1 := fun g n he => by
  rcases h with ⟨h, _⟩ | ⟨id, g', a, _, h, _⟩
  · rw [h] at he; cases he
  · rw [h] at he; have := (AVal.own.inj he).1; omega
end Go.Hx
namespace Go.Proofs
open Go.Hx
set_option maxHeartbeats 4000000 in
theorem due26_spec {c : List Int} {grain least : Int} (h1 : 1 ≤ c.length) (hl : c.length ≤ 1024) (hc : ∀ x ∈ c, 0 ≤ x ∧ x ≤ 1099511627776) (hg : 1 ≤ grain ∧ grain ≤ 720) (hle : 0 ≤ least ∧ least ≤ 720) (H : AHeap) (K : ARes → AHeap → Prop)
    (hK : K (.ret (.tup [vecI (effC c), lin (effT c), lin (spareOf grain least c)])) H) :
    ACall Tryd.prog G0 50 [vecI c, lin grain, lin least] H K := by
  refine ACall.clo ⟨_, Tryd.func50, rfl, rfl⟩ fun hcl => ?_
  have m0 : 0 ≤ least * c.length := Int.mul_nonneg hle.1 (by omega)
  have m1 : least * c.length ≤ 720 * 1024 := Int.mul_le_mul hle.2 (by omega) (by omega) (by omega)
  have wm := IntWalk.i64_in (least * (c.length : Int)) (by omega)
  have ws := IntWalk.i64_in (grain - least * (c.length : Int)) (by omega)
  have hsp : spareOf grain least c = grain - least * c.length := rfl
  refine ACall.of_bodyW (n := 53) (rs := [.tmp 6, .tmp 7, .tmp 8]) Tryd.func50 rfl rfl rfl (by decide) (by simp) ?_
  refine W.seq (vc_sound _ _ _ (by rfl) ?_)
  simp (config := { maxSteps := 1000000 }) only [go_sem, appendA_U]
  refine W.seq (vc_sound _ _ _ (by rfl) ?_)
  simp (config := { maxSteps := 1000000 }) only [go_sem, appendA_U]
  refine W.seq (vc_sound _ _ _ (by rfl) ?_)
  simp (config := { maxSteps := 1000000 }) only [go_sem, appendA_U]
  refine W.env fun E hE => ?_
  have e0 : E 0 = vecI c := by rw [hE]; simp (config := { maxSteps := 1000000 }) only [go_sem, appendA_U]
  have e1 : E 1 = lin grain := by rw [hE]; simp (config := { maxSteps := 1000000 }) only [go_sem, appendA_U]
  have e2 : E 2 = lin least := by rw [hE]; simp (config := { maxSteps := 1000000 }) only [go_sem, appendA_U]
  have e9 : E 9 = lin 0 := by rw [hE]; simp (config := { maxSteps := 1000000 }) only [go_sem, appendA_U]
  have e10 : E 10 = lin 0 := by rw [hE]; simp (config := { maxSteps := 1000000 }) only [go_sem, appendA_U]
  clear hE
  refine W.loop0 33547776 (by rfl) (fun ρ Hx => Hx = H ∧ ∃ i : Nat, ρ 10 = lin i ∧ i ≤ c.length ∧ ρ 9 = lin (c.take i).sum) (fun ρ Hx => c.length - (iv (ρ 10)).toNat) ?_ ?_
  · exact ⟨rfl, 0, e10, by omega, e9⟩
  rintro ρ Hx ⟨hHx, i, h10, hi, h9⟩
  rw [hHx]
  refine W.env fun E1 hE1 => ?_
  have f0 : E1 0 = vecI c := by rw [hE1]; simp (config := { maxSteps := 1000000 }) only [go_sem, e0, appendA_U]
  have f1 : E1 1 = lin grain := by rw [hE1]; simp (config := { maxSteps := 1000000 }) only [go_sem, e1, appendA_U]
  have f2 : E1 2 = lin least := by rw [hE1]; simp (config := { maxSteps := 1000000 }) only [go_sem, e2, appendA_U]
  have f9 : E1 9 = lin (c.take i).sum := by rw [hE1]; simp (config := { maxSteps := 1000000 }) only [go_sem, h9, appendA_U]
  have f10 : E1 10 = lin i := by rw [hE1]; simp (config := { maxSteps := 1000000 }) only [go_sem, h10, appendA_U]
  clear hE1
  have hsr := sum_take_rng hc i
  have htl : ((c.take i).length : Int) ≤ 1024 := by rw [List.length_take]; omega
  by_cases hb : (i : Int) < c.length
  · obtain ⟨x, hx⟩ := get_of_lt (l := c) (i := i) (by omega)
    have hxr := hc x (List.mem_of_getElem? hx)
    have hxn := ne_of_get hx
    have w1 := IntWalk.i64_in ((c.take i).sum + x) (by omega)
    have w2 := IntWalk.i64_in ((i : Int) + 1) (by omega)
    refine vc_sound _ _ _ (by rfl) ?_
    simp (config := { maxSteps := 1000000 }) only [go_sem, f0, f9, f10, hb, hx, hxn, w1, w2, appendA_U]
    exact ⟨⟨i + 1, rfl, by omega, by rw [sum_take_succ hx]⟩, by rw [h10]; simp only [lin, iv_int]; omega⟩
  refine vc_sound _ _ _ (by rfl) ?_
  simp (config := { maxSteps := 1000000 }) only [go_sem, f0, f9, f10, hb, appendA_U]
  rw [List.take_of_length_le (by omega)] at f9
  by_cases hs : c.sum > 0
  · refine W.seq (vc_sound _ _ _ (by rfl) ?_)
    simp (config := { maxSteps := 1000000 }) only [go_sem, f0, f1, f2, f9, hs, wm, ws, appendA_U]
    refine FinV.mk (Nat.le_refl _) ?_
    unfold effC effT at hK
    rw [if_pos hs, if_pos hs] at hK
    exact hK
  refine W.seq (vc_sound _ _ _ (by rfl) ?_)
  simp (config := { maxSteps := 1000000 }) only [go_sem, f0, f9, hs, appendA_U]
  refine W.seq (vc_sound _ _ _ (by rfl) ?_)
  simp (config := { maxSteps := 1000000 }) only [go_sem, appendA_U]
  refine W.seq (vc_sound _ _ _ (by rfl) ?_)
  simp (config := { maxSteps := 1000000 }) only [go_sem, appendA_U]
  refine W.env fun E2 hE2 => ?_
  have g0 : E2 0 = vecI c := by rw [hE2]; simp (config := { maxSteps := 1000000 }) only [go_sem, f0, appendA_U]
  have g1 : E2 1 = lin grain := by rw [hE2]; simp (config := { maxSteps := 1000000 }) only [go_sem, f1, appendA_U]
  have g2 : E2 2 = lin least := by rw [hE2]; simp (config := { maxSteps := 1000000 }) only [go_sem, f2, appendA_U]
  have g11 : E2 11 = .lit (.slice none 0 0) := by rw [hE2]; simp (config := { maxSteps := 1000000 }) only [go_sem, appendA_U]
  have g12 : E2 12 = lin 0 := by rw [hE2]; simp (config := { maxSteps := 1000000 }) only [go_sem, appendA_U]
  clear hE2
  refine W.loop0 17557826312192 (by rfl) (fun ρ Hx => Over H Hx ∧ ∃ (i : Nat), ρ 12 = lin i ∧ i ≤ c.length ∧ OwnG H.next Hx 3 (ρ 11) (ints (List.replicate i 1))) (fun ρ Hx => c.length - (iv (ρ 12)).toNat) ?_ ?_
  · exact ⟨.refl _, 0, g12, by omega, by show OwnG _ _ _ (E2 11) _; rw [g11]; exact .nil⟩
  rintro ρ2 Hx2 ⟨ov, k, h12, hk, ho⟩
  obtain ⟨v, hv⟩ : ∃ v, v = ρ2 11 := ⟨_, rfl⟩
  rw [← hv] at ho
  refine W.env fun E3 hE3 => ?_
  have d0 : E3 0 = vecI c := by rw [hE3]; simp (config := { maxSteps := 1000000 }) only [go_sem, g0, appendA_U]
  have d1 : E3 1 = lin grain := by rw [hE3]; simp (config := { maxSteps := 1000000 }) only [go_sem, g1, appendA_U]
  have d2 : E3 2 = lin least := by rw [hE3]; simp (config := { maxSteps := 1000000 }) only [go_sem, g2, appendA_U]
  have d11 : E3 11 = v := by rw [hE3]; simp (config := { maxSteps := 1000000 }) only [go_sem, hv, appendA_U]
  have d12 : E3 12 = lin k := by rw [hE3]; simp (config := { maxSteps := 1000000 }) only [go_sem, h12, appendA_U]
  clear hE3
  have vo := ho.one
  have vcl := ho.cells
  by_cases hb2 : (k : Int) < c.length
  · obtain ⟨v', Ha, hA, hOa, hna, hpa⟩ := app_oneG (P := Tryd.prog) (t := 22) (x := lin 1) (n := Hx2.next + 1) Tryd.underlying22 Tryd.cells3 Tryd.zero3 rfl (by rw [Tryd.bytes3, ints_length, List.length_replicate]; omega) ho ov.next rfl
    simp only [lin] at hA
    have vo2 := hOa.one
    have vc2 := hOa.cells
    have w2 := IntWalk.i64_in ((k : Int) + 1) (by omega)
    refine vc_sound _ _ _ (by rfl) ?_
    simp (config := { maxSteps := 1000000 }) only [go_sem, d0, d11, d12, hb2, vo, vcl, hA, vo2, vc2, w2]
    have er : ints (List.replicate k 1) ++ [lin 1] = ints (List.replicate (k + 1) 1) := by rw [List.replicate_succ']; unfold ints; rw [List.map_append]; rfl
    rw [er] at hOa
    exact ⟨by have := ov.next; omega, ⟨⟨by have := ov.next; omega, fun id hid => (hpa id (by have := ov.next; omega) (OwnG.neF ho hid)).trans (ov.old id hid)⟩, k + 1, rfl, by omega, hOa⟩, by rw [h12]; simp only [lin, iv_int]; omega⟩
  refine vc_sound _ _ _ (by rfl) ?_
  simp (config := { maxSteps := 1000000 }) only [go_sem, d0, d11, d12, hb2, appendA_U]
  refine vc_sound _ _ _ (by rfl) ?_
  simp (config := { maxSteps := 1000000 }) only [go_sem, d0, d1, d2, d11, vo, vcl, wm, ws, appendA_U]
  obtain rfl : k = c.length := by omega
  unfold effC effT at hK
  rw [if_neg hs, if_neg hs] at hK
  refine FinV.dropO (v' := .tup [vecI (List.replicate c.length 1), lin c.length, lin (spareOf grain least c)]) G0_ok hcl ov (.tup rfl fun i hi _ => ?_) hK
  match i, hi with
  | 0, _ => exact ho.fzI fun i h => h
  | 1, _ => exact .lit _
  | 2, _ => exact .lit _
theorem least_ex {r : Nat → Int} {M : Nat → Bool} : ∀ m, (∃ j, j < m ∧ M j = false) → ∃ b, b < m ∧ M b = false ∧ ∀ j, j < m → M j = false → j ≠ b → before r b j
  | 0, ⟨j, h, _⟩ => absurd h (Nat.not_lt_zero _)
  | m + 1, ⟨j, hj, hM⟩ => by
    by_cases hex : ∃ j, j < m ∧ M j = false
    · obtain ⟨b, hb, hMb, hmin⟩ := least_ex m hex
      cases hm : M m with
      | true => exact ⟨b, by omega, hMb, fun j hj h1 h2 => hmin j (by have : j ≠ m := (by rintro rfl; rw [hm] at h1; cases h1); omega) h1 h2⟩
      | false =>
        by_cases hlt : r b < r m
        · refine ⟨m, by omega, hm, fun j hj h1 h2 => ?_⟩
          have hjm : j < m := by omega
          by_cases hjb : j = b
          · subst hjb; exact .inl hlt
          · have := hmin j hjm h1 hjb
            unfold before at this ⊢
            omega
        · refine ⟨b, by omega, hMb, fun j hj h1 h2 => ?_⟩
          by_cases hjm : j = m
          · subst hjm; unfold before; omega
          · exact hmin j (by omega) h1 h2
    · have : j = m := by
        refine Classical.byContradiction fun h => hex ⟨j, by omega, hM⟩
      subst this
      exact ⟨j, by omega, hM, fun i hi h1 h2 => absurd ⟨i, by omega, h1⟩ hex⟩
theorem Top.some {r : Nat → Int} {n k : Nat} {M : Nat → Bool} (h : Top r n k M) (hk : k < n) : ∃ j, j < n ∧ M j = false := by
  refine Classical.byContradiction fun hno => ?_
  have := h.count
  have e : (List.range n).countP M = (List.range n).length := List.countP_eq_length.2 fun x hx => by
    rcases Bool.eq_false_or_eq_true (M x) with e | e
    · exact e
    · exact absurd ⟨x, List.mem_range.1 hx, e⟩ hno
  rw [e, List.length_range] at this
  omega
theorem Top.ex (r : Nat → Int) (n : Nat) : ∀ k, k ≤ n → ∃ M, Top r n k M
  | 0, _ => ⟨_, .zero⟩
  | k + 1, h => by
    obtain ⟨M, hM⟩ := Top.ex r n k (by omega)
    obtain ⟨b, hb, hMb, hmin⟩ := least_ex (r := r) n (hM.some (by omega))
    exact ⟨_, hM.step hb hMb hmin⟩
theorem share_ex (least sp : Int) {c : List Int} (h : 0 < c.length) : ∃ s, ShareOk least sp c s := by
  have := left_bound (sp := sp) h
  obtain ⟨M, hM⟩ := Top.ex (restAt sp c) c.length (leftOf sp c).toNat (by omega)
  exact ⟨_, M, hM, rfl⟩
theorem effC_rng {c : List Int} (hc : ∀ x ∈ c, 0 ≤ x ∧ x ≤ 1099511627776) : ∀ x ∈ effC c, 0 ≤ x ∧ x ≤ 1099511627776 := by
  unfold effC; split
  · exact hc
  · intro x hx; rw [List.mem_replicate] at hx; omega
theorem part_at {sp : Int} {c : List Int} {i : Nat} {x : Int} (h : (effC c)[i]? = Option.some x) : partAt sp c i = sp * x / effT c ∧ restAt sp c i = sp * x % effT c := by
  unfold partAt restAt
  rw [List.getD_eq_getElem?_getD, h]
  exact ⟨rfl, rfl⟩
def restM (sp : Int) (c : List Int) (M : Nat → Bool) : List Int := (List.range c.length).map fun i => if M i then -1 else restAt sp c i
theorem restM_len (sp : Int) (c : List Int) (M : Nat → Bool) : (restM sp c M).length = c.length := by simp [restM]
theorem restM_get {sp : Int} {c : List Int} {M : Nat → Bool} {i : Nat} (h : i < c.length) : (restM sp c M)[i]? = Option.some (if M i then -1 else restAt sp c i) := by
  unfold restM; rw [List.getElem?_map, List.getElem?_range h]; rfl
theorem restM_set {sp : Int} {c : List Int} {M : Nat → Bool} {b : Nat} (h : b < c.length) : (restM sp c M).set b (-1) = restM sp c fun i => decide (i = b) || M i := by
  apply List.ext_getElem?
  intro i
  rw [List.getElem?_set]
  rcases Nat.lt_or_ge i c.length with hi | hi
  · rw [restM_get hi, restM_get hi, restM_len]
    by_cases hb : b = i
    · subst hb; simp [h]
    · have : i ≠ b := fun e => hb e.symm
      simp [hb, this]
  · rw [List.getElem?_eq_none (by rw [restM_len]; omega), List.getElem?_eq_none (by rw [restM_len]; omega), if_neg (by omega)]
theorem sharesM_set {least sp : Int} {c : List Int} {M : Nat → Bool} {b : Nat} (h : b < c.length) (hM : M b = false) {w : Int} (hw : (sharesM least sp c M)[b]? = Option.some w) : (sharesM least sp c M).set b (w + 1) = sharesM least sp c fun i => decide (i = b) || M i := by
  apply List.ext_getElem?
  intro i
  rw [List.getElem?_set]
  rcases Nat.lt_or_ge i c.length with hi | hi
  · rw [shares_get hi, shares_get hi, shares_len]
    by_cases hb : b = i
    · subst hb
      rw [shares_get hi, hM] at hw
      cases hw
      simp [h, hM]
    · have : i ≠ b := fun e => hb e.symm
      simp [hb, this]
  · rw [List.getElem?_eq_none (by rw [shares_len]; omega), List.getElem?_eq_none (by rw [shares_len]; omega), if_neg (by omega)]
theorem best_free {sp : Int} {c : List Int} {M : Nat → Bool} {k b : Nat} (hT : Top (restAt sp c) c.length k M) (hk : k < c.length) (hb : b < c.length) (hmin : ∀ j, j < c.length → j ≠ b → before (fun i => if M i then -1 else restAt sp c i) b j) :
    M b = false ∧ ∀ j, j < c.length → M j = false → j ≠ b → before (restAt sp c) b j := by
  have hMb : M b = false := by
    obtain ⟨j, hj, hMj⟩ := hT.some hk
    rcases Bool.eq_false_or_eq_true (M b) with e | e
    · have hne : j ≠ b := by rintro rfl; rw [e] at hMj; cases hMj
      have := hmin j hj hne
      unfold before at this
      simp only [hMj, e, if_true] at this
      have := (rest_bound (sp := sp) (c := c) (by omega) j).1
      simp only [Bool.false_eq_true, if_false] at *
      omega
    · exact e
  refine ⟨hMb, fun j hj h1 h2 => ?_⟩
  have := hmin j hj h2
  unfold before at this ⊢
  simp only [hMb, h1, Bool.false_eq_true, if_false] at this
  exact this
end Go.Proofs
