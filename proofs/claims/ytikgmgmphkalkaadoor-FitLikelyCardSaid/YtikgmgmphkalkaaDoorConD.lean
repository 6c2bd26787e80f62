/- Own work: contracts. -/
import Derived.Test.YtikgmgmphkalkaaDoorConC
import Derived.Test.YtikgmgmphkalkaaDoorConB
import Derived.Test.YtikgmgmphkalkaaDoorConA
import Derived.Test.YtikgmgmphkalkaaDoorLibC
set_option linter.all false
set_option maxRecDepth 100000
namespace Go.Proofs
open Go.Hx
def wB (w a r n:Int):List AVal := [.lit (.int .u8 w), .lit (.int .u8 a), .lit (.int .u8 r), .lit (.int .i64 n)]
def dS (ns:List NodeP)(a k:Nat)(pv rv:AVal):List AVal := ((dY (ns.take k)).set (a * 3 + 1) pv).set (a * 3 + 2) rv
theorem Lc {ns:List NodeP}{k:Nat}{x:NodeP}(h:ns[k]? = some x)(pv rv pk rk:AVal):dS ns k k pv rv ++ [ab x.card, pk, rk] = dS ns k (k + 1) pk rk := by
  have hk := get_lt h
  have hl := lL (ns.take k)
  have hkl:(ns.take k).length = k := by rw[QV]; omega
  unfold dS
  rw[RX (l := dY (ns.take k)) (by omega), RX (by omega), aU h, xA, S3 _ _ (by omega), S3 _ _ (by omega), hl, hkl, show k * 3 + 1 - k * 3 = 1 by omega, show k * 3 + 2 - k * 3 = 2 by omega]
  rfl
theorem Ld {ns:List NodeP}{a k:Nat}{x:NodeP}(h:ns[k]? = some x)(hne:k ≠ a)(pv rv:AVal):dS ns a (k + 1) pv rv = dS ns a k pv rv ++ [ab x.card, ag x.parents, eW x] := by
  have hk := get_lt h
  have hl := lL (ns.take k)
  have hkl:(ns.take k).length = k := by rw[QV]; omega
  unfold dS
  rw[aU h, xA]
  by_cases ha:a < k
  · rw[SF _ _ (by omega), SF _ _ (by rw[Q8]; omega)]
  · rw[RX (by simp [hl]; omega), RX (by simp [hl]; omega), RX (l := dY (ns.take k)) (by omega), RX (by omega)]
def AZ (ns:List NodeP)(a lo:Nat)(k:Nat)(H:AHeap)(nh:AVal):Prop :=
  ∃ pv rv, dK lo H 91 3 nh k (dS ns a k pv rv) /\ pv.one = true /\ rv.one = true /\ (a < k -> ∃ x, ns[a]? = some x /\ ∃ ids, NodO lo H pv rv ids x)
end Go.Proofs
namespace Go.Hx
open Go.Proofs.R01 (pureRun_bind)
variable {P:Program} {t e:TypeId} {x y:Operand} {k k':IntKind}
end Go.Hx
namespace Go.Proofs
open Go.Hx
theorem SmallN.fit {m:Nat}{ns:List NodeP}(h:SmallN m ns)(hm:m < 2 ^ 37):ku ns := ⟨by have := h.len; omega, fun x hx => by have := h.node x hx; exact⟨by omega, by omega, fun r hr => by have := (h.node x hx).2.2 r hr; omega⟩⟩
theorem Ma {cs:List Int}{xs:List (List Int)}(hc:cs.length <= 64)(hx:xs.length <= 41)(hr:∀ r ∈ xs, r.length <= 64):n8 cs xs := ⟨by omega, by omega, fun r h => by have := hr r h; omega⟩
theorem Cp (ord:List Int):∀ (n v:Nat), v < n -> (v:Int) ∈ ks ord n
  | 0, v, h => by omega
  | n + 1, v, h => by
    unfold ks
    by_cases hv:v = n
    · subst hv; simp
    · have := Cp ord n v (by omega)
      rw[<- RW (xB ord n) (ks ord n)]at this
      rcases Q1.1 this with h | h
      · exact So _ h
      · exact Se _ (RB _ h)
def xD (ps:List DrP)(i:Nat):Int × List Int := match ps[i]? with
  | some y => (y.par, y.w)
  | none => (0, [])
def O0 (p:Int)(k:Nat):Int := IntKind.u8.wrap (((BitVec.ofInt IntKind.u8.bits (p.fdiv (2 ^ (min ((k:Int)).toNat IntKind.u8.bits))) &&& BitVec.ofInt IntKind.u8.bits 1).toNat:Nat):Int)
def Cq (par:Int)(P:List Int)(u:Nat)(l:List Int)(k:Nat):List Int := if P[k]? = some (u:Int) /\ O0 par k = 1 /\ l.length < 3 then l ++ [(u:Int)] else l
def Cr (par:Int)(P:List Int)(i u k:Nat):List Int := (List.range k).foldl (Cq par P u) ((List.range u).foldl (fun l u => (List.range i).foldl (Cq par P u) l) [])
def Cs (ps:List DrP)(i:Nat):Int := match ps[i]? with
  | some y => 2 + y.card % 2
  | none => 2
def qj (ps:List DrP)(n i:Nat)(W:Int):Int := if IntKind.i64.wrap (W * Cs ps i * 2 ^ (min ((n:Int) - 1 - i).toNat IntKind.i64.bits)) > 100 then 2 else Cs ps i
def oB (ps:List DrP)(n:Nat):Nat -> Int
  | 0 => 1
  | i + 1 => oB ps n i * qj ps n i (oB ps n i)
def O1 (g c:Int)(bs:List Int)(R:Nat):List (List Int) := (List.range R).map fun (q:Nat) => OT g c.toNat bs ((q:Int) * (c + 1))
def Ct (g:Int)(ps:List DrP)(cs P:List Int)(n j:Nat):NodeP := ⟨qj ps n j (oB ps n j), Cr (xD ps j).1 P j n 0, O1 g (qj ps n j (oB ps n j)) (xD ps j).2 (aQ (aI cs (Cr (xD ps j).1 P j n 0))).toNat⟩
structure DoneN (g:Int)(cs P:List Int)(n j:Nat)(x:NodeP):Prop where
  pl:cD x.parents n
  p3:x.parents.length <= 3
  rk:∀ q ∈ x.parents, ∃ k, k < j /\ P[k]? = some q
  rl:(x.rows.length:Int) = aQ (aI cs x.parents)
  ro:∀ r ∈ x.rows, jC g x.card r
  ne:x.rows ≠ []
structure LoopN (g:Int)(ps:List DrP)(cs P:List Int)(n i:Nat)(ns:List NodeP):Prop where
  len:ns.length = n
  cards:aA ns = cs
  todo:∀ (j v:Nat) (x:NodeP), i <= j -> P[j]? = some (v:Int) -> ns[v]? = some x -> x.rows = [] /\ x.parents = []
  done:∀ (j v:Nat) (x:NodeP), j < i -> P[j]? = some (v:Int) -> ns[v]? = some x -> DoneN g cs P n j x
  eq:∀ (j v:Nat) (x:NodeP), j < i -> P[j]? = some (v:Int) -> ns[v]? = some x -> x = Ct g ps cs P n j
  cd:∀ (j v:Nat) (x:NodeP), P[j]? = some (v:Int) -> ns[v]? = some x -> x.card = qj ps n j (oB ps n j)
structure ParU (P:List Int)(i u k:Nat)(l:List Int):Prop where
  pw:l.Pairwise (· < ·)
  rng:∀ q ∈ l, 0 <= q /\ (q < u \/ (q = u /\ ∃ k', k' < k /\ P[k']? = some q))
  p3:l.length <= 3
  rk:∀ q ∈ l, ∃ k', k' < i /\ P[k']? = some q
theorem ParU.skip {P:List Int}{i u k:Nat}{l:List Int}(h:ParU P i u k l):ParU P i u (k + 1) l := ⟨h.pw, fun q hq => ⟨(h.rng q hq).1, (h.rng q hq).2.imp id fun ⟨a, k', b, c⟩ => ⟨a, k', by omega, c⟩⟩, h.p3, h.rk⟩
theorem ParU.next {P:List Int}{i u k:Nat}{l:List Int}(h:ParU P i u k l):ParU P i (u + 1) 0 l := ⟨h.pw, fun q hq => ⟨(h.rng q hq).1, .inl (by rcases(h.rng q hq).2 with h1 | h1 <;> omega)⟩, h.p3, h.rk⟩
theorem ParU.add {P:List Int}{n i u k:Nat}{l:List Int}(hP:IsPerm n P)(h:ParU P i u k l)(hk:k < i)(hu:P[k]? = some (u:Int))(h3:l.length < 3):ParU P i u (k + 1) (l ++ [(u:Int)]) := by
  have lt:∀ q ∈ l, q < u := fun q hq => by
    rcases(h.rng q hq).2 with h1 | ⟨h1, k', h2, h4⟩
    · exact h1
    · exfalso
      have e:P[k']? = P[k]? := by rw[h4, hu, h1]
      have := (Sh (get_lt h4) hP.nd).1 e
      omega
  refine⟨SG.2 ⟨h.pw, by simp, fun a ha b hb => by obtain rfl := List.mem_singleton.1 hb; exact lt a ha⟩, fun q hq => ?_, by simp; omega, fun q hq => ?_⟩
  · rcases Q1.1 hq with h1 | h1
    · exact⟨(h.rng q h1).1, .inl (lt q h1)⟩
    · obtain rfl := List.mem_singleton.1 h1
      exact⟨by omega, .inr ⟨rfl, k, by omega, hu⟩⟩
  · rcases Q1.1 hq with h1 | h1
    · exact h.rk q h1
    · obtain rfl := List.mem_singleton.1 h1
      exact⟨k, hk, hu⟩
def xE (g:Int)(ps:List DrP)(ord:List Int)(ns:List NodeP):Prop := ns.length = min (max ps.length 1) 5 /\ (∀ (j v:Nat) (x:NodeP), (ks ord ns.length)[j]? = some (v:Int) -> ns[v]? = some x -> x = Ct g ps (aA ns) (ks ord ns.length) ns.length j) /\ ∀ (j v:Nat) (x:NodeP), (ks ord ns.length)[j]? = some (v:Int) -> ns[v]? = some x -> x.card = qj ps ns.length j (oB ps ns.length j)
theorem xE.unique {g:Int}{ps:List DrP}{ord:List Int}{ns ns':List NodeP}(h:xE g ps ord ns)(h':xE g ps ord ns'):ns = ns' := by
  obtain⟨l1, e1, c1⟩ := h
  obtain⟨l2, e2, c2⟩ := h'
  have hl:ns'.length = ns.length := by rw[l1, l2]
  rw[hl]at e2 c2
  obtain⟨n, hn⟩:∃ n, n = ns.length := ⟨_, rfl⟩
  rw[<- hn]at e1 e2 c1 c2
  have at':∀ v, v < n -> ∃ j:Nat, (ks ord n)[j]? = some (v:Int) := fun v hv => Q4.1 (Cp ord n v hv)
  have hc:aA ns = aA ns' := by
    refine Q9 fun v => ?_
    rcases Q3 v n with h | h
    · obtain⟨j, hj⟩ := at' v h
      obtain⟨x, hx⟩ := get_of_lt (l := ns) (i := v) (by omega)
      obtain⟨y, hy⟩ := get_of_lt (l := ns') (i := v) (by omega)
      rw[da hx, da hy, c1 j v x hj hx, c2 j v y hj hy]
    · rw[QR (by rw[dE]; omega), QR (by rw[dE]; omega)]
  refine Q9 fun v => ?_
  rcases Q3 v n with h | h
  · obtain⟨j, hj⟩ := at' v h
    obtain⟨x, hx⟩ := get_of_lt (l := ns) (i := v) (by omega)
    obtain⟨y, hy⟩ := get_of_lt (l := ns') (i := v) (by omega)
    rw[hx, hy, e1 j v x hj hx, e2 j v y hj hy, hc]
  · rw[QR (by omega), QR (by omega)]
noncomputable def Tryd.C9:EP := { P := Tryd.prog, G := G0, gd := fun _ => none, known := sV [] }
theorem Tryd.Qq:EOk Tryd.C9 := .KV (l := []) rfl bz Tryd.mixed (fun _ _ h => by cases h) trivial
theorem Tryd.Qr:wz Tryd.C9 1000000 14 [] (.lit (.bool true)) = true := by kernel_rfl
theorem Qs (H:AHeap)(K:ARes -> AHeap -> Prop)(hK:K (.ret (.lit (.bool true))) H):ah Tryd.prog G0 14 [] H K :=
  (ah.frame (args' := []) bz rfl (fun i h _ => absurd h (Q5 _)) (KW Tryd.Qq Tryd.Qr)).mono fun r H' ⟨h1, h2⟩ => by rw[h1, h2]; exact hK
structure D05 where
  g:Int
  ps:List DrP
  ord:List Int
def D05.val (d:D05):AVal := OY d.g d.ps d.ord
structure D05.Ok (d:D05):Prop where
  g:U8 d.g
  ps:∀ x ∈ d.ps, x.Ok
  pl:(d.ps.length:Int) < 2 ^ 63
  ol:(d.ord.length:Int) < 2 ^ 63
  o8:∀ x ∈ d.ord, U8 x
end Go.Proofs
namespace Go.Proofs.YtikgmgmphkalkaaDoor
open Go.ChangeShapes Go.WideShapes Go.ChangeAt Go.RowKit Go.Hx
section
variable {W:World} {H:Type} {enc:TypeId × Value -> H} {spare:Nat -> Bool} {held:Bool}
theorem wN {n:Nat}(h:n <= maxLen):(n:Int) < 2 ^ 63 := by
  have:maxLen = 9223372036854775807 := by decide
  omega
theorem od {n:Int}(h:(Lit.int .u8 n).wf = true):U8 n := by
  have := wf_u8 h
  unfold U8; omega
theorem Mb {n:Int}(h:(Lit.int .u16 n).wf = true):0 <= n /\ n < 65536 := by
  have:0 <= n /\ n <= 65535 := by simpa [Lit.wf, IntKind.min, IntKind.max, IntKind.signed, IntKind.bits] using h
  omega
theorem Mc {α : Type} {t e : TypeId} {f : α → List AVal} {q : α → Prop} (ht : Tryd.prog.underlying t = some (.slice e)) (hz : 0 < Tryd.prog.cellsOf e) (he : dQ enc Tryd.prog W spare held e fun _ zs => ∃ x : α, zs = f x ∧ q x) :
    dQ enc Tryd.prog W spare held t fun _ zs => ∃ l:List α, zs = [.vec l.length (l.map f).flatten] /\ l.length <= maxLen /\ ∀ x ∈ l, q x :=
  (yZ ht hz he).mono fun d zs h => by
    rcases h with ⟨_, rfl⟩ | ⟨ds, rest, rows, _, rfl, hr, _, hl⟩
    · exact⟨[], rfl, SX _, fun c h => by cases h⟩
    · obtain⟨l, rfl, hq⟩ := uI (f := f) (q := q) (fun d zs h => h) hr
      exact⟨l, by rw[QX], by simpa using hl, hq⟩
theorem Md:dQ enc Tryd.prog W spare held 112 fun _ zs => ∃ l:List Int, zs = dA l /\ l.length = 5 /\ ∀ x ∈ l, U8 x :=
  (y7 Tryd.underlying112 Tryd.underlying5 Tryd.ti (by kernel_rfl)).mono fun _ _ ⟨l, h1, h2, h3⟩ => ⟨l, h1, h2, fun c hc => od (h3 c hc)⟩
theorem Me:dQ enc Tryd.prog W spare held 37 fun _ zs => ∃ d:D25, zs = d.cells /\ d.Ok := by
  have hu := Tryd.underlying37
  have c1 := Tryd.ti
  have c2 := Tryd.Bp
  have c3 := Tryd.Bq
  have c4:Tryd.prog.cellsOf 112 = 5 := by kernel_rfl
  refine(y2 (φ := fun i _ xs => if i = 1 then ∃ l:List (List Int), xs = [.vec l.length (l.map dA).flatten] /\ l.length <= maxLen /\ ∀ r ∈ l, r.length = 5 /\ ∀ x ∈ r, U8 x else if i = 2 then ∃ n, xs = [.lit (.int .u8 n)] /\ (Lit.int .u8 n).wf = true else ∃ l:List Int, xs = [.vec l.length (mf .u8 l)] /\ l.length <= maxLen /\ ∀ c, c ∈ l -> (Lit.int .u8 c).wf = true) hu
    (fun cs hcs => by
      have hc:Tryd.prog.cellsOf 37 = 4 := by kernel_rfl
      rw[hc]at hcs
      match cs, hcs with
      | [a, b, c, d], _ => simp [c1, c2, c3])
    (fun i hi => match i, hi with
      | 0, _ => (y6 Tryd.underlying23 Tryd.underlying5 c1).mono fun _ _ h => h
      | 1, _ => (Mc Tryd.underlying35 (by rw[c4]; decide) Md).mono fun _ _ h => h
      | 2, _ => (me Tryd.underlying5).mono fun _ _ ⟨n, _, h, w⟩ => ⟨n, h, w⟩
      | 3, _ => (y6 Tryd.underlying23 Tryd.underlying5 c1).mono fun _ _ h => h)).mono fun d zs ⟨ds, rows, _, e, hl1, hl2, hall⟩ => ?_
  match rows, ds, hl2, hl1, hall with
  | [x, y, z, u], [d0, d1, d2, d3], _, _, hall =>
    obtain⟨l0, e0, w0, v0⟩ := hall 0 (by simp) (by simp)
    obtain⟨l1, e1, w1, v1⟩ := hall 1 (by simp) (by simp)
    obtain⟨n2, e2, w2⟩ := hall 2 (by simp) (by simp)
    obtain⟨l3, e3, w3, v3⟩ := hall 3 (by simp) (by simp)
    simp only[Rq, SU]at e0 e1 e2 e3
    subst e0; subst e1; subst e2; subst e3
    exact⟨⟨l0, l1, n2, l3⟩, by rw[e]; rfl, ⟨wN w0, fun c hc => od (v0 c hc), wN w1, v1, od w2, wN w3, fun c hc => od (v3 c hc)⟩⟩
theorem Mf {r : Reach} {b : Nat} {v : Value} {d : DataW H} {ps : List MemPlace} (hval : Value.okWide Tryd.prog W r b 37 v) (hd : DataW.Trod enc Tryd.prog W 0 spare held 37 v d ps) :
    ∃ x:D25, RelV Tryd.prog eY bT W (.agg x.cells) v /\ x.Ok := by
  obtain⟨xs, h1, x, rfl, h2⟩ := y8 Me (.inl ⟨_, Tryd.underlying37⟩) hval hd
  exact⟨x, h1, h2⟩
end
end Go.Proofs.YtikgmgmphkalkaaDoor
namespace Go.Proofs
open Go.Hx
def eL (ps:List Nat)(pl v:Nat):Nat := if g9 (ps.getD v 0) pl = 0 then pl ||| 2 ^ v else pl
def lq (ps:List Nat)(pl:Nat):Nat := (List.range ps.length).foldl (eL ps) pl
def fY (ps:List Nat):Nat -> Nat -> Nat
  | 0, pl => pl
  | k + 1, pl => fY ps k (lq ps pl)
theorem Bv (ps:List Nat):∀ (k pl:Nat), fY ps (k + 1) pl = lq ps (fY ps k pl)
  | 0, _ => rfl
  | k + 1, pl => Bv ps k (lq ps pl)
theorem Bw {ps:List Nat}{b:Nat}(hb:0 < b)(hp:∀ p ∈ ps, p < b)(v:Nat):ps.getD v 0 < b := by
  rw[QM]
  cases h:ps[v]? with
  | none => exact hb
  | some p => exact hp p (an h)
theorem Bx (ps:List Nat)(pl v:Nat):Sub pl (eL ps pl v) := by unfold eL; split; exact .left _ _; exact .refl _
theorem wS (ps:List Nat)(l:List Nat):∀ pl, Sub pl (l.foldl (eL ps) pl) := by
  induction l with
  | nil => exact fun pl => .refl pl
  | cons v l ih => exact fun pl => (Bx ps pl v).trans (ih _)
theorem Nh {ps:List Nat}{n pl v:Nat}(h:pl < 2 ^ n)(hv:v < n):eL ps pl v < 2 ^ n := by
  unfold eL
  split
  · refine tD fun i hi => ?_
    rw[eN]at hi
    rcases Tx.1 hi with hi | hi
    · exact kh h hi
    · obtain rfl := of_decide_eq_true hi; exact hv
  · exact h
theorem By {ps:List Nat}{n:Nat}(l:List Nat)(hl:∀ v ∈ l, v < n):∀ pl, pl < 2 ^ n -> l.foldl (eL ps) pl < 2 ^ n := by
  induction l with
  | nil => exact fun pl h => h
  | cons v l ih => exact fun pl h => ih (fun w hw => hl w (by simp [hw])) _ (Nh h (hl v (by simp)))
theorem Ni {ps:List Nat}{pl:Nat}(h:pl < 2 ^ ps.length):lq ps pl < 2 ^ ps.length := By _ (fun v hv => QW.1 hv) pl h
theorem wT {ps:List Nat}:∀ (k:Nat) {pl:Nat}, pl < 2 ^ ps.length -> fY ps k pl < 2 ^ ps.length
  | 0, _, h => h
  | k + 1, _, h => wT k (Ni h)
def iw (ps:List Nat)(pl:Nat):Prop := ki ps pl /\ ∀ v, v < ps.length -> pl.testBit v = true -> (er ps (ps.getD v 0)).testBit v = false
theorem iw.step {ps:List Nat}(hp:∀ p ∈ ps, p < 2 ^ 64){pl v:Nat}(h:iw ps pl)(hv:v < ps.length):iw ps (eL ps pl v) := by
  unfold eL
  split
  · rename_i hs
    have hsub := (tE (Bw (by decide) hp v)).1 hs
    rcases Rc (pl.testBit v) with hb | hb
    · have e : pl ||| 2 ^ v = pl := Sn fun i => by
        rw[eN]
        by_cases hi:v = i
        · subst hi; rw[hb]; rfl
        · simp [hi]
      rw[e]; exact h
    · refine⟨fun w hw hwb => ?_, fun w hw hwb => ?_⟩
      · rw[eN]at hwb
        rcases Tx.1 hwb with hwb | hwb
        · exact(h.1 w hw hwb).trans (.left _ _)
        · obtain rfl := of_decide_eq_true hwb; exact hsub.trans (.left _ _)
      · rw[eN]at hwb
        rcases Tx.1 hwb with hwb | hwb
        · exact h.2 w hw hwb
        · obtain rfl := of_decide_eq_true hwb
          have hu := qg h.1 ps.length hsub
          rcases Rc ((er ps (ps.getD v 0)).testBit v) with e | e
          · have := hu v e; rw[hb]at this; cases this
          · exact e
  · exact h
theorem iw.fold {ps:List Nat}(hp:∀ p ∈ ps, p < 2 ^ 64)(l:List Nat)(hl:∀ v ∈ l, v < ps.length):∀ pl, iw ps pl -> iw ps (l.foldl (eL ps) pl) := by
  induction l with
  | nil => exact fun pl h => h
  | cons v l ih => exact fun pl h => ih (fun w hw => hl w (by simp [hw])) _ (h.step hp (hl v (by simp)))
theorem iw.rounds {ps:List Nat}(hp:∀ p ∈ ps, p < 2 ^ 64):∀ (k:Nat) {pl:Nat}, iw ps pl -> iw ps (fY ps k pl)
  | 0, _, h => h
  | k + 1, _, h => iw.rounds hp k (iw.fold hp _ (fun v hv => QW.1 hv) _ h)
theorem Nj {ps:List Nat}(hp:∀ p ∈ ps, p < 2 ^ 64){v:Nat}(l:List Nat):∀ pl, v ∈ l -> Sub (ps.getD v 0) pl -> (l.foldl (eL ps) pl).testBit v = true := by
  induction l with
  | nil => intro pl h; cases h
  | cons w l ih =>
    intro pl h hs
    by_cases hw:v = w
    · subst hw
      refine wS ps l _ v ?_
      unfold eL
      rw[QN ((tE (Bw (by decide) hp v)).2 hs), eN]
      simp
    · exact ih _ (by simpa [hw] using h) (hs.trans (Bx ps pl w))
theorem Bz {n s:Nat}(h:n <= bL n s):∀ i, i < n -> s.testBit i = true := by
  have h1:(List.range n).countP (fun i => s.testBit i) = (List.range n).length := by
    have := xt n s
    unfold bL at this h
    rw[Rw]
    omega
  intro i hi
  exact Sz.1 h1 i (QW.2 hi)
theorem Nk {ps:List Nat}(hp:∀ p ∈ ps, p < 2 ^ ps.length)(h64:ps.length <= 64)(ha:gX ps):∀ (k pl:Nat), ps.length <= bL ps.length pl + k -> ∀ i, i < ps.length -> (fY ps k pl).testBit i = true := by
  have hp64:∀ p ∈ ps, p < 2 ^ 64 := fun p h => QU (hp p h) (Rb (by decide) h64)
  intro k
  induction k with
  | zero => exact fun pl h => Bz h
  | succ k ih =>
    intro pl h
    refine ih (lq ps pl) ?_
    by_cases hf:ps.length <= bL ps.length pl
    · have h1 := Bz hf
      have:ps.length <= bL ps.length (lq ps pl) := by
        have h2:(List.range ps.length).countP (fun i => (lq ps pl).testBit i) = (List.range ps.length).length := Sz.2 fun i hi => wS ps _ pl i (h1 i (QW.1 hi))
        unfold bL
        rw[h2, Rw]
        exact Nat.le_refl _
      omega
    · obtain⟨q, hq⟩:∃ q, q + 1 + bL ps.length pl = ps.length := ⟨ps.length - bL ps.length pl - 1, by omega⟩
      obtain⟨r, hr⟩ := Cf hp h64 ha (q + 1) [] pl hq
      unfold jx at hr
      cases hn:kj ps pl with
      | none => rw[hn]at hr; cases hr
      | some v =>
        obtain⟨v1, v2, v3⟩ := xu hp64 hn
        have := ou (wS ps (List.range ps.length) pl) v1 v2 (Nj hp64 _ pl (QW.2 v1) v3)
        unfold lq
        omega
theorem Nl {ps:List Nat}(hp:∀ p ∈ ps, p < 2 ^ ps.length)(h64:ps.length <= 64):fY ps ps.length 0 = 2 ^ ps.length - 1 ↔ gX ps := by
  have hp64:∀ p ∈ ps, p < 2 ^ 64 := fun p h => QU (hp p h) (Rb (by decide) h64)
  constructor
  · intro h v hv
    have := iw.rounds hp64 ps.length (pl := 0) ⟨fun w _ hb => (by rw[RQ]at hb; cases hb), fun w _ hb => (by rw[RQ]at hb; cases hb)⟩
    refine this.2 v hv ?_
    rw[h, RM]
    simpa using hv
  · intro h
    have h1 := Nk hp h64 h ps.length 0 (by omega)
    have h2 := wT (ps := ps) ps.length (pl := 0) (SO _)
    refine Sn fun i => ?_
    rw[RM]
    by_cases hi:i < ps.length
    · rw[h1 i hi]; simp [hi]
    · rcases Rc ((fY ps ps.length 0).testBit i) with e | e
      · exact absurd (kh h2 e) hi
      · rw[e]; simp [hi]
def dU (ps:List Nat)(n:Nat):Prop := ps.length = n /\ (∀ p ∈ ps, p < 2 ^ n) /\ gX ps
noncomputable def lu (ps:List Nat)(n:Nat):Bool := @decide (dU ps n) (Classical.propDecidable _)
theorem BA {ps:List Nat}{n:Nat}(h:dU ps n):lu ps n = true := by unfold lu; exact @decide_eq_true _ (Classical.propDecidable _) h
theorem Nm {ps:List Nat}{n:Nat}(h:¬ dU ps n):lu ps n = false := by unfold lu; exact @decide_eq_false _ (Classical.propDecidable _) h
theorem Nn {ps:List Nat}{n:Nat}:lu ps n = true ↔ dU ps n := by unfold lu; exact @decide_eq_true_iff _ (Classical.propDecidable _)
theorem BB {p n:Nat}:((p >>> n:Nat):Int) = 0 ↔ p < 2 ^ n := by
  rw[Sl]
  have : p / 2 ^ n = 0 ↔ p < 2 ^ n := by rw [Nat.div_eq_zero_iff]; constructor
                                         · rintro(h | h)
                                           · exact absurd h (Nat.ne_of_gt (SO n))
                                           · exact h
                                         · exact .inr
  omega
set_option maxHeartbeats 1000000 in
theorem No (ps:List Nat)(n:Nat)(hn:1 <= n /\ n <= 6)(hl:(ps.length:Int) < 2 ^ 39)(hp:∀ p ∈ ps, p < 2 ^ 64)(H:AHeap)(K:ARes -> AHeap -> Prop)(hK:K (.ret (.lit (.bool (lu ps n)))) H):ah Tryd.prog G0 53 [bS ps, ab n] H K := by
  have no:¬ dU ps n -> az Tryd.prog G0 H K (.lit (.bool false)) H := fun h => az.mk (Nat.le_refl _) (by rw[Nm h]at hK; exact hK)
  refine ah.cu (n := 50) (rs := [.tmp 4]) Tryd.func53 rfl rfl rfl (by decide) (by kernel_rfl) (by simp) ?_
  by_cases hln:(ps.length:Int) = n
  rotate_left
  · simp (config := { maxSteps := 1000000 }) only[go_sem, hln, aa]
    exact no fun h => hln (by rw[h.1])
  simp (config := { maxSteps := 1000000 }) only[go_sem, hln, aa]
  refine W.aR 33488976 (by rfl) (fun ρ H' => H' = H /\ ∃ k:Nat, ρ 16 = ab k /\ k <= ps.length /\ ∀ p ∈ ps.take k, p < 2 ^ n) (fun ρ H => ps.length - (iv (ρ 16)).toNat) ?_ ?_
  · simp (config := { maxSteps := 1000000 }) only[go_sem, aa]
    exact⟨0, rfl, by omega, by simp⟩
  rintro ρ H' ⟨rfl, k, h16, hk, hall⟩
  refine W.vs ?_
  by_cases hb:(k:Int) < n
  · obtain⟨p, hpk⟩ := get_of_lt (l := ps) (i := k) (by omega)
    have hne := aM hpk
    have hpm := an hpk
    have s1 := fun t x y => tS (P := Tryd.prog) (t := t) (x := x) (y := y) (k' := .i64) (s := n) (hp p hpm)
    have w1 := QL ((k:Int) + 1) (by omega)
    by_cases hz:((p >>> n:Nat):Int) = 0
    · simp (config := { maxSteps := 1000000 }) only[go_sem, h16, hb, hln, hpk, hne, s1, hz, w1, aa]
      refine⟨⟨k + 1, rfl, by omega, fun q hq => ?_⟩, by omega⟩
      rw[aU hpk]at hq
      rcases Q1.1 hq with hq | hq
      · exact hall q hq
      · obtain rfl := List.mem_singleton.1 hq; exact BB.1 hz
    · simp (config := { maxSteps := 1000000 }) only[go_sem, h16, hb, hln, hpk, hne, s1, hz, aa]
      exact no fun h => hz (BB.2 (h.2.1 p hpm))
  rw[QP (by omega)]at hall
  have hpn:∀ p ∈ ps, p < 2 ^ ps.length := fun p h => by have := hall p h; rw[show ps.length = n by omega]; exact this
  have hb2n:2 ^ n <= 2 ^ 6 := Rb (by decide) hn.2
  have h64:∀ m:Nat, m < 2 ^ n -> m < 2 ^ 64 := fun m h => by omega
  simp (config := { maxSteps := 1000000 }) only[go_sem, h16, hb, hln, aa]
  refine W.aR 35184304980864 (by rfl) (fun ρ H2 => H2 = H' /\ ∃ k:Nat, ρ 26 = ab k /\ k <= n /\ ρ 7 = bq (fY ps k 0)) (fun ρ H => n - (iv (ρ 26)).toNat) ?_ ?_
  · simp (config := { maxSteps := 1000000 }) only[go_sem, aa]
    exact⟨0, rfl, by omega, rfl⟩
  rintro ρ2 H2 ⟨rfl, i, h26, hi, h7⟩
  refine W.vs ?_
  have hpl := wT (ps := ps) i (SO _)
  rw[show ps.length = n by omega]at hpl
  by_cases hb2:(i:Int) < n
  rotate_left
  · obtain rfl:i = n := by omega
    have s3 := fun t x y => oJ (P := Tryd.prog) (t := t) (x := x) (y := y) (k' := .i64) (s := i) (by omega)
    have w2:IntKind.u64.wrap (((2 ^ i:Nat):Int) - 1) = ((2 ^ i - 1:Nat):Int) := by rw[Tv _ (by omega)]; have := SO i; omega
    have key:dU ps i ↔ fY ps i 0 = 2 ^ i - 1 := by
      have := Nl hpn (by omega)
      rw[show ps.length = i by omega]at this
      exact⟨fun h => this.2 h.2.2, fun h => ⟨by omega, hall, this.1 h⟩⟩
    by_cases hq:((fY ps i 0:Nat):Int) = ((2 ^ i - 1:Nat):Int)
    · simp (config := { maxSteps := 1000000 }) only[go_sem, h26, h7, hb2, hln, s3, w2, hq, aa]
      rw[BA (key.2 (by omega))]at hK
      exact az.mk (Nat.le_refl _) hK
    · simp (config := { maxSteps := 1000000 }) only[go_sem, h26, h7, hb2, hln, s3, w2, hq, aa]
      exact no fun h => hq (by rw[key.1 h])
  simp (config := { maxSteps := 1000000 }) only[go_sem, h26, h7, hb2, hln, aa]
  refine W.aR 17591112303488 (by rfl) (fun ρ3 H3 => H3 = H2 /\ ∃ v:Nat, ρ3 30 = ab v /\ v <= ps.length /\ ρ3 7 = bq ((List.range v).foldl (eL ps) (fY ps i 0))) (fun ρ3 H => ps.length - (iv (ρ3 30)).toNat) ?_ ?_
  · simp (config := { maxSteps := 1000000 }) only[go_sem, h7, aa]
    exact⟨0, rfl, by omega, rfl⟩
  rintro ρ3 H3 ⟨rfl, v, h30, hv, h7'⟩
  refine W.vs ?_
  obtain⟨m, hm⟩:∃ m, m = (List.range v).foldl (eL ps) (fY ps i 0) := ⟨_, rfl⟩
  have hml:m < 2 ^ n := by rw[hm]; exact By _ (fun w hw => by have := QW.1 hw; omega) _ hpl
  by_cases hb3:(v:Int) < n
  · obtain⟨p, hpv⟩ := get_of_lt (l := ps) (i := v) (by omega)
    have hne := aM hpv
    have w1 := QL ((v:Int) + 1) (by omega)
    have s3 := fun t x y => oJ (P := Tryd.prog) (t := t) (x := x) (y := y) (k' := .i64) (s := v) (by omega)
    have s4 := fun t x y => C1 (P := Tryd.prog) (t := t) (x := x) (y := y) (a := p) (b := m)
    have s5 := fun t x y => oI (P := Tryd.prog) (t := t) (x := x) (y := y) (h64 m hml) (h64 (2 ^ v) (Sm (by decide) (by omega)))
    have hst:(List.range (v + 1)).foldl (eL ps) (fY ps i 0) = eL ps m v := by rw[Sr, R9, hm]; rfl
    rw[<- hm]at h7'
    by_cases hz:((g9 p m:Nat):Int) = 0
    · simp (config := { maxSteps := 1000000 }) only[go_sem, h30, h7', hb3, hln, hpv, hne, s3, s4, s5, hz, w1, aa]
      refine⟨⟨v + 1, rfl, by omega, by rw[hst]; unfold eL; rw[aH hpv, QN (by omega)]⟩, by omega⟩
    · simp (config := { maxSteps := 1000000 }) only[go_sem, h30, h7', hb3, hln, hpv, hne, s4, hz, w1, aa]
      refine⟨⟨v + 1, rfl, by omega, by rw[hst]; unfold eL; rw[aH hpv, QQ (by omega)]⟩, by omega⟩
  · obtain rfl:v = ps.length := by omega
    have w1 := QL ((i:Int) + 1) (by omega)
    have hnn:¬ ((n:Int) < n) := Int.lt_irrefl _
    simp (config := { maxSteps := 1000000 }) only[go_sem, h30, h7', hb3, hnn, hln, h26, w1, aa]
    exact⟨⟨i + 1, rfl, by omega, by rw[Bv]; rfl⟩, by omega⟩
end Go.Proofs
namespace Go.Hx
variable {P:Program} {G:Nat -> Option (List AVal)} {rd:Option Nat} {Q:AX -> St -> Prop} {K:St -> Prop} {KF:FP -> St -> Prop} {s:St} {d:Option Tmp} {ty:TypeId} {pos:String} {aft:Array Edge} {g:Option (Nat × Bool)}
@[go_sem] theorem Qx (t:TypeId):aC P G rd Q ⟨d, .makeMap t none, ty, pos, aft, g⟩ K s = aP (s.H.lay s.H.next (.mp [])) fun H' => K ⟨ay s.ρ d (.yld s.H.next), H'⟩ := by
  simp [aC, ae, eF]
@[go_sem] theorem Qy (t:TypeId)(x i:Operand)(ok:Bool):aC P G rd Q ⟨d, .lookup t x i ok, ty, pos, aft, g⟩ K s = aP (iE P s.H t (af G s.ρ x) (af G s.ρ i) ok) fun v => K ⟨ay s.ρ d v, s.H⟩ := by
  simp [aC, ae, eF]
@[go_sem] theorem Qz (t:TypeId)(m k x:Operand):aC P G rd Q ⟨d, .mapUpdate t m k x, ty, pos, aft, g⟩ K s = aP (ib P s.H t (af G s.ρ m) (af G s.ρ k) (af G s.ρ x)) fun vH => K ⟨ay s.ρ d vH.1, vH.2⟩ := by
  simp [aC, ae]
@[go_sem] theorem QA (t:TypeId)(x i:Operand)(ok:Bool):bE P G ⟨d, .lookup t x i ok, ty, pos, aft, g⟩ KF s = aC P G none QF ⟨d, .lookup t x i ok, ty, pos, aft, g⟩ (KF ⟨[], cB (af G s.ρ x)⟩) s := (rfl)
@[go_sem] theorem QB (t:TypeId)(m k x:Operand):bE P G ⟨d, .mapUpdate t m k x, ty, pos, aft, g⟩ KF s = aC P G none QF ⟨d, .mapUpdate t m k x, ty, pos, aft, g⟩ (KF ⟨cB (af G s.ρ m), cB (af G s.ρ m)⟩) s := (rfl)
@[go_sem] theorem QC (a b:TypeId)(n:Nat)(cells:List AVal)(off:Nat):ja (some (.map a b)) n cells off = cells[off]? := rfl
@[go_sem] theorem QD (id:Nat):(AVal.yld id).cells = [.yld id] := rfl
@[go_sem] theorem QE (id:Nat):(AVal.yld id).one = true := rfl
@[go_sem] theorem QG (id:Nat):cB (.yld id) = [id] := rfl
end Go.Hx
namespace Go.Hx
def dV (es:List (Int × Int))(k:Int):Int := ((bX k 0 es).map Prod.snd).getD 0
theorem Np {k:Int}:∀ {es:List (Int × Int)} {s i:Nat} {w:Int}, bX k s es = some (i, w) -> s <= i := by
  intro es
  induction es with
  | nil => intro s i w h; cases h
  | cons a es ih =>
    intro s i w h
    obtain⟨a, b⟩ := a
    unfold bX at h
    split at h
    · cases h; exact Nat.le_refl _
    · have := ih h; omega
theorem Nq {k v:Int}:∀ {es:List (Int × Int)} {s i:Nat} {w:Int}, bX k s es = some (i, w) -> ∀ (j:Int) (t:Nat), (bX j t (es.set (i - s) (k, v))).map Prod.snd = if j = k then some v else (bX j t es).map Prod.snd := by
  intro es
  induction es with
  | nil => intro s i w h; cases h
  | cons a es ih =>
    intro s i w h j t
    obtain⟨a, b⟩ := a
    unfold bX at h
    split at h
    · rename_i e
      subst e
      cases h
      rw[R7, List.set_cons_zero]
      unfold bX
      by_cases hj:j = k
      · rw[QN hj, QN hj]; rfl
      · rw[QQ hj, QQ hj, QQ hj]
    · rename_i e
      have h1 := Np h
      rw[show i - s = (i - (s + 1)) + 1 by omega, List.set_cons_succ]
      unfold bX
      by_cases hj:j = a
      · rw[QN hj, QN hj, QQ (fun h' => e (by rw[<- h', hj]))]
      · rw[QQ hj, QQ hj]; exact ih h j (t + 1)
theorem Nr {k v:Int}:∀ {es:List (Int × Int)} {s:Nat}, bX k s es = none -> ∀ (j:Int) (t:Nat), (bX j t (es ++ [(k, v)])).map Prod.snd = if j = k then some v else (bX j t es).map Prod.snd := by
  intro es
  induction es with
  | nil =>
    intro s _ j t
    rw[List.nil_append]
    unfold bX
    by_cases hj:j = k
    · rw[QN hj, QN hj]; rfl
    · rw[QQ hj, QQ hj]; rfl
  | cons a es ih =>
    intro s h j t
    obtain⟨a, b⟩ := a
    unfold bX at h
    split at h
    · cases h
    · rename_i e
      rw[List.cons_append]
      unfold bX
      by_cases hj:j = a
      · rw[QN hj, QN hj, QQ (fun h' => e (by rw[<- h', hj]))]
      · rw[QQ hj, QQ hj]; exact ih h j (t + 1)
theorem Ns (es:List (Int × Int))(k v j:Int):dV (kz es k v) j = if j = k then v else dV es j := by
  unfold dV kz
  cases h:bX k 0 es with
  | none =>
    simp only
    rw[Nr h]
    split <;> rfl
  | some p =>
    obtain⟨i, w⟩ := p
    simp only
    have := Nq (v := v) h j 0
    rw[Nat.sub_zero]at this
    rw[this]
    split <;> rfl
theorem BC (es:List (Int × Int))(k:Int):oS false (bX k 0 es) = .lit (.int .i64 (dV es k)) := by
  unfold dV
  cases bX k 0 es with
  | none => rfl
  | some p => rfl
end Go.Hx
namespace Go.Proofs
open Go.Hx
def tn (P r:List Int):Bool := decide (∀ p ∈ P, ¬ r.getD p.toNat 0 < 0)
def de (cs P r:List Int):Int := dD (aI cs P) (aI r P)
def fZ (cs P:List Int)(v:Nat)(r:List Int):Option Int := if ¬ r.getD v 0 < 0 /\ tn P r = true then some (de cs P r * cs.getD v 0 + r.getD v 0) else none
def j8 (cs P:List Int)(v:Nat)(es:List (Int × Int))(r:List Int):List (Int × Int) := match fZ cs P v r with
  | some k => kz es k (dV es k + 1)
  | none => es
def dB (cs P:List Int)(v:Nat)(xs:List (List Int))(k:Int):Nat := xs.countP fun r => decide (fZ cs P v r = some k)
theorem BD (cs P:List Int)(v:Nat)(xs:List (List Int)):∀ (es:List (Int × Int)) (k:Int), dV (xs.foldl (j8 cs P v) es) k = dV es k + dB cs P v xs k := by
  induction xs with
  | nil => intro es k; simp [dB]
  | cons r xs ih =>
    intro es k
    rw[Ss, ih]
    unfold dB
    rw[Rh]
    unfold j8
    cases h:fZ cs P v r with
    | none => simp
    | some q =>
      simp only
      rw[Ns]
      by_cases hq:k = q
      · subst hq; simp; omega
      · have hq':¬ q = k := fun e => hq e.symm
        simp [hq, hq']
theorem wU (cs P:List Int)(v:Nat)(xs:List (List Int))(k:Int):dB cs P v xs k <= xs.length := T7
def bK (n s:Nat):List Int := ((List.range n).filter fun p => s.testBit p).map fun (p:Nat) => (p:Int)
theorem pY {n s:Nat}:∀ p ∈ bK n s, 0 <= p /\ p < n := fun p hp => by
  obtain⟨q, hq, rfl⟩ := Q6.1 hp
  have := QW.1 (Tp.1 hq).1
  omega
theorem tp (n s:Nat):(bK n s).length <= n := by
  unfold bK
  rw[QX]
  have := List.length_filter_le (fun p => s.testBit p) (List.range n)
  rw[Rw]at this
  exact this
theorem BE (n s:Nat):bK (n + 1) s = if s.testBit n then bK n s ++ [(n:Int)] else bK n s := by
  unfold bK
  rw[Sr, List.filter_append]
  by_cases h:s.testBit n = true
  · rw[QN h]; simp [h]
  · rw[QQ h]; simp [h]
def cR (cs P:List Int)(v:Nat)(xs:List (List Int))(prior:Int)(j:Nat):List Int := (List.range (cs.getD v 0).toNat).map fun (k:Nat) => prior + (dB cs P v xs ((j:Int) * cs.getD v 0 + k):Int)
theorem oe (cs P:List Int)(v:Nat)(xs:List (List Int))(prior:Int)(j:Nat):(cR cs P v xs prior j).length = (cs.getD v 0).toNat := by simp [cR]
theorem tq {cs P:List Int}{v:Nat}{xs:List (List Int)}{prior:Int}{j k:Nat}(h:k < (cs.getD v 0).toNat):(cR cs P v xs prior j)[k]? = some (prior + (dB cs P v xs ((j:Int) * cs.getD v 0 + k):Int)) := by
  unfold cR; rw[List.getElem?_map, RO h]; rfl
theorem BG {cs P:List Int}{v:Nat}{xs:List (List Int)}{prior:Int}{j:Nat}(hp:0 <= prior /\ prior <= 10)(hx:xs.length <= 40):∀ x ∈ cR cs P v xs prior j, 0 <= x /\ x <= 50 := fun x h => by
  obtain⟨k, _, rfl⟩ := Q6.1 h
  have := wU cs P v xs ((j:Int) * cs.getD v 0 + k)
  omega
structure FitN (cs:List Int)(xs:List (List Int))(grain prior least:Int)(n v s:Nat)(x:NodeP):Prop where
  card:x.card = cs.getD v 0
  par:x.parents = bK n s
  len:(x.rows.length:Int) = aQ (aI cs (bK n s))
  row:∀ j r, x.rows[j]? = some r -> gu least (cZ grain least (cR cs (bK n s) v xs prior j)) (cR cs (bK n s) v xs prior j) r
def dC (cs:List Int)(xs:List (List Int))(ps:List Nat)(grain prior least:Int)(k:Nat)(ns:List NodeP):Prop := ns.length = k /\ ∀ (v s:Nat) (x:NodeP), ps[v]? = some s -> ns[v]? = some x -> FitN cs xs grain prior least ps.length v s x
theorem FitN.unique {cs:List Int}{xs:List (List Int)}{grain prior least:Int}{n v s:Nat}{x y:NodeP}(hx:FitN cs xs grain prior least n v s x)(hy:FitN cs xs grain prior least n v s y):x = y := by
  obtain⟨xc, xp, xr⟩ := x
  obtain⟨yc, yp, yr⟩ := y
  obtain⟨a1, a2, a3, a4⟩ := hx
  obtain⟨b1, b2, b3, b4⟩ := hy
  simp only at a1 a2 a3 a4 b1 b2 b3 b4
  have hl:xr.length = yr.length := by omega
  have hr:xr = yr := by
    apply Q9
    intro j
    rcases Q3 j xr.length with h | h
    · obtain⟨r, h1⟩ := get_of_lt h
      obtain⟨q, h2⟩ := get_of_lt (l := yr) (i := j) (by omega)
      rw[h1, h2, (a4 j r h1).unique (b4 j q h2)]
    · rw[QR h, QR (by omega)]
  rw[a1, a2, b1, b2, hr]
theorem dC.unique {cs:List Int}{xs:List (List Int)}{ps:List Nat}{grain prior least:Int}{ns ns':List NodeP}(h:dC cs xs ps grain prior least ps.length ns)(h':dC cs xs ps grain prior least ps.length ns'):ns = ns' := by
  apply Q9
  intro v
  rcases Q3 v ps.length with hv | hv
  · obtain⟨s, hs⟩ := get_of_lt hv
    obtain⟨x, hx⟩ := get_of_lt (l := ns) (i := v) (by rw[h.1]; exact hv)
    obtain⟨y, hy⟩ := get_of_lt (l := ns') (i := v) (by rw[h'.1]; exact hv)
    rw[hx, hy, (h.2 v s x hs hx).unique (h'.2 v s y hs hy)]
  · rw[QR (by rw[h.1]; exact hv), QR (by rw[h'.1]; exact hv)]
theorem dC.snoc {cs:List Int}{xs:List (List Int)}{ps:List Nat}{grain prior least:Int}{k s:Nat}{ns:List NodeP}{x:NodeP}(h:dC cs xs ps grain prior least k ns)(hs:ps[k]? = some s)(hx:FitN cs xs grain prior least ps.length k s x):dC cs xs ps grain prior least (k + 1) (ns ++ [x]) := by
  refine⟨by simp [h.1], fun v s' x' hs' hx' => ?_⟩
  rcases Q3 v ns.length with hv | hv
  · rw[Q0 hv]at hx'
    exact h.2 v s' x' hs' hx'
  · have := get_lt hx'
    rw[List.length_append, Sy]at this
    obtain rfl:v = ns.length := by omega
    rw[Q2 (Nat.le_refl _), R7]at hx'
    cases hx'
    rw[h.1]at hs' ⊢
    rw[hs]at hs'
    cases hs'
    exact hx
def j9 (cs:List Int)(grain prior least:Int):Prop := (1 <= grain /\ grain <= 60) /\ (0 <= prior /\ prior <= 10) /\ (0 <= least /\ least <= grain) /\ ∀ c ∈ cs, least * c <= grain
noncomputable def jt (cs:List Int)(xs:List (List Int))(ps:List Nat)(grain prior least:Int):Int := if eU cs xs = true then (@ite _ (dU ps cs.length /\ j9 cs grain prior least) (Classical.propDecidable _) 0 2) else 250
theorem Ny {cs:List Int}{xs:List (List Int)}{ps:List Nat}{grain prior least:Int}(h:eU cs xs = false):jt cs xs ps grain prior least = 250 := by unfold jt; rw[QQ (by rw[h]; decide)]
theorem Nz {cs:List Int}{xs:List (List Int)}{ps:List Nat}{grain prior least:Int}(h:eU cs xs = true)(h2:¬ (dU ps cs.length /\ j9 cs grain prior least)):jt cs xs ps grain prior least = 2 := by
  unfold jt; rw[QN h]; exact @if_neg _ (Classical.propDecidable _) h2 _ _ _
theorem BH {cs:List Int}{xs:List (List Int)}{ps:List Nat}{grain prior least:Int}(h:eU cs xs = true)(h2:dU ps cs.length /\ j9 cs grain prior least):jt cs xs ps grain prior least = 0 := by
  unfold jt; rw[QN h]; exact @if_pos _ (Classical.propDecidable _) h2 _ _ _
structure ParIn (cs P:List Int):Prop where
  rng:∀ p ∈ P, 0 <= p /\ p < cs.length
  len:P.length <= 6
  card:∀ c ∈ cs, 2 <= c /\ c <= 4
theorem ParIn.at_get {cs P r:List Int}(h:ParIn cs P)(hr:r.length = cs.length){k:Nat}{q:Int}(hq:P[k]? = some q):∃ (j:Nat) (c b:Int), q = j /\ cs[j]? = some c /\ r[j]? = some b /\ (aI cs P)[k]? = some c /\ (aI r P)[k]? = some b := by
  obtain⟨j, rfl, c, hc⟩ := lG (l := cs) (h.rng q (an hq)).1 (h.rng q (an hq)).2
  obtain⟨b, hb⟩ := get_of_lt (l := r) (i := j) (by rw[hr]; exact get_lt hc)
  exact⟨j, c, b, rfl, hc, hb, by rw[lR hq, Int.toNat_natCast, aH hc], by rw[lR hq, Int.toNat_natCast, aH hb]⟩
theorem ParIn.fits {cs P r:List Int}(h:ParIn cs P)(hc:fV cs r)(hp:tn P r = true):dq (aI cs P) (aI r P) := by
  refine⟨by rw[fq, fq], fun k c v h1 h2 => ?_⟩
  obtain⟨q, hq⟩ := get_of_lt (l := P) (i := k) (by have := get_lt h1; rw[fq]at this; exact this)
  obtain⟨j, c', b, rfl, hc', hb, e1, e2⟩ := h.at_get hc.1 hq
  rw[h1]at e1; rw[h2]at e2
  cases e1; cases e2
  have := hc.2 j _ _ hc' hb
  have hp' := of_decide_eq_true hp j (an hq)
  rw[Int.toNat_natCast, aH hb]at hp'
  omega
theorem ParIn.small {cs P:List Int}(h:ParIn cs P):eX (aI cs P) /\ ∀ c ∈ aI cs P, 2 <= c /\ c <= 4 := by
  have h4:∀ c ∈ aI cs P, 2 <= c /\ c <= 4 := fun c hc => by
    obtain⟨q, hq, rfl⟩ := Q6.1 hc
    obtain⟨j, rfl, c, hc⟩ := lG (l := cs) (h.rng q hq).1 (h.rng q hq).2
    rw[Int.toNat_natCast, aH hc]
    exact h.card c (an hc)
  exact⟨⟨by rw[fq]; have := h.len; omega, fun x hx => by have := h4 x hx; omega⟩, h4⟩
theorem ParIn.prod {cs P:List Int}(h:ParIn cs P)(k:Nat):1 <= aQ ((aI cs P).take k) /\ aQ ((aI cs P).take k) <= 4096 := A7 (fun c hc => h.small.2 c (Rs hc)) (by rw[QV, fq]; have := h.len; omega)
theorem Nt {cs P r : List Int} (h : ParIn cs P) (hc : fV cs r) (hp : tn P r = true) (hcl : (cs.length : Int) < 2 ^ 38) (H : AHeap) (K : ARes → AHeap → Prop)
    (hK:K (.ret (ab (de cs P r))) H):ah Tryd.prog G0 69 [ag cs, ag P, ag r] H K := by
  have pl:(aI cs P).length = P.length := fq _ _
  have vl:(aI r P).length = P.length := fq _ _
  have hf := h.fits hc hp
  have ft:∀ k, dq ((aI cs P).take k) ((aI r P).take k) := fun k => ⟨by simp [pl, vl], fun i c b h1 h2 => by
    rw[Th]at h1 h2
    split at h1
    · rename_i hik
      rw[QN hik]at h2
      exact hf.2 i c b h1 h2
    · cases h1⟩
  have hr:∀ k, 0 <= eV ((aI cs P).take k) ((aI r P).take k) /\ eV ((aI cs P).take k) ((aI r P).take k) < 4096 := fun k => by
    rw[tB (ft k).1]
    have a := ot (ft k)
    have b := h.prod k
    omega
  have plen := h.len
  refine ah.cu (n := 29) (rs := [.tmp 6]) Tryd.func69 rfl rfl rfl (by decide) (by kernel_rfl) (by simp) ?_
  simp (config := { maxSteps := 1000000 }) only[go_sem, aa]
  refine W.aR 268432000 (by rfl) (fun ρ H' => H' = H /\ ∃ k:Nat, ρ 12 = ab k /\ k <= P.length /\ ρ 7 = ab (eV ((aI cs P).take k) ((aI r P).take k))) (fun ρ H => P.length - (iv (ρ 12)).toNat) ?_ ?_
  · simp (config := { maxSteps := 1000000 }) only[go_sem, aa]
    exact⟨0, rfl, by omega, rfl⟩
  rintro ρ H' ⟨rfl, k, h16, hk, h7⟩
  refine W.vs ?_
  by_cases hb:(k:Int) < P.length
  · obtain⟨q, hq⟩ := get_of_lt (l := P) (i := k) (by omega)
    obtain⟨j, c, b, rfl, hcj, hbv, a1, a2⟩ := h.at_get hc.1 hq
    have a3 := hf.2 k _ _ a1 a2
    have c4 := h.card c (an hcj)
    have hne2 := aM hq
    have hne3 := aM hbv
    have hne := aM hcj
    have hj:(j:Int) < cs.length := by have := get_lt hcj; omega
    have hj2:(j:Int) < r.length := by have := get_lt hbv; omega
    have w1 := QL ((k:Int) + 1) (by omega)
    have r1 := hr (k + 1)
    rw[tC a1 a2]at r1
    have r0 := hr k
    have m0:0 <= eV ((aI cs P).take k) ((aI r P).take k) * c := Sc r0.1 (by omega)
    have w2 := QL (eV ((aI cs P).take k) ((aI r P).take k) * c) (by omega)
    have w3 := QL (eV ((aI cs P).take k) ((aI r P).take k) * c + b) (by omega)
    simp (config := { maxSteps := 1000000 }) only[go_sem, h16, h7, hb, hq, hne2, aa]
    refine W.draw 10 [0, 0, 0, 6, 14, 31, 0, 0, 192, 448] Tryd.mixed (by kernel_rfl) (by kernel_rfl) ?_
    simp (config := { maxSteps := 1000000 }) only[go_sem, h16, h7, hb, hq, hne, hne2, hne3, hj, hj2, hbv, hcj, w1, w2, w3, aa]
    exact⟨⟨k + 1, by simp, by omega, by rw[tC a1 a2]⟩, by omega⟩
  · simp (config := { maxSteps := 1000000 }) only[go_sem, h16, h7, hb, aa]
    rw[QP (by omega), QP (by omega), tB (by rw[pl, vl])]
    exact az.mk (Nat.le_refl _) hK
set_option maxHeartbeats 1000000 in
theorem Nu {cs P r : List Int} {xs : List (List Int)} {v : Nat} {es : List (Int × Int)} (h : ParIn cs P) (hc : fV cs r) (hcl : (cs.length : Int) < 2 ^ 38) (hv : v < cs.length) (hes : ∀ k, 0 ≤ dV es k ∧ dV es k ≤ 1000) (H : AHeap) (bv bp bt bd m : Nat)
    (gv:H.get bv = some (.arr 0 3 [ab v])) (gp:H.get bp = some (.arr 0 22 [ag P])) (gt:H.get bt = some (.arr 0 119 [.yld m])) (gd:H.get bd = some (.arr 0 50 [ag cs, aD xs])) (gm:H.get m = some (.mp es)) (hm:m < H.next)
    (K:ARes -> AHeap -> Prop) (hK:∀ H', H'.get m = some (.mp (j8 cs P v es r)) -> (∀ j, j ≠ m -> H'.get j = H.get j) -> H'.next = H.next -> K (.ret (.tup [])) H'):
    ah Tryd.prog G0 83 [ag r, .ptr bv 0 0, .ptr bp 0 0, .ptr bt 0 0, .ptr bd 0 0] H K := by
  have lv := aq gv
  have lp := aq gp
  have lt := aq gt
  have ld := aq gd
  obtain⟨x, hx⟩ := get_of_lt (l := r) (i := v) (by rw[hc.1]; exact hv)
  obtain⟨c, hcv⟩ := get_of_lt (l := cs) (i := v) hv
  have hxn := aM hx
  have hcn := aM hcv
  have rl := hc.1
  have hvr:(v:Int) < r.length := by omega
  have hvc:(v:Int) < cs.length := by omega
  have c4 := h.card c (an hcv)
  have hx2 := hc.2 v c x hcv hx
  have plen := h.len
  have skip:fZ cs P v r = none -> az Tryd.prog G0 H K (.tup []) H := fun hk => az.mk (Nat.le_refl _) (hK H (by unfold j8; rw[hk]; exact gm) (fun _ _ => rfl) rfl)
  refine ah.cu (n := 44) (rs := []) Tryd.func83 rfl rfl rfl (by decide) (by kernel_rfl) (by simp) ?_
  by_cases hx0:x < 0
  · simp (config := { maxSteps := 1000000 }) only[go_sem, lv, hx, hxn, hvr, hx0, aa]
    exact skip (by unfold fZ; rw[QQ]; rw[aH hx]; exact fun hh => hh.1 hx0)
  simp (config := { maxSteps := 1000000 }) only[go_sem, lv, lp, hx, hxn, hvr, hx0, aa]
  refine W.aR 33521792 (by rfl) (fun ρ H' => H' = H /\ ∃ k:Nat, ρ 15 = ab k /\ k <= P.length /\ ∀ p ∈ P.take k, ¬ r.getD p.toNat 0 < 0) (fun ρ H => P.length - (iv (ρ 15)).toNat) ?_ ?_
  · simp (config := { maxSteps := 1000000 }) only[go_sem, aa]
    exact⟨0, rfl, by omega, by simp⟩
  rintro ρ H' ⟨rfl, k, h15, hk, hall⟩
  refine W.vs ?_
  by_cases hb:(k:Int) < P.length
  · obtain⟨q, hq⟩ := get_of_lt (l := P) (i := k) (by omega)
    obtain⟨j, cj, b, rfl, hcj, hbj, a1, a2⟩ := h.at_get hc.1 hq
    have hqn := aM hq
    have hbn := aM hbj
    have hjr:(j:Int) < r.length := by have := get_lt hbj; omega
    by_cases hb0:b < 0
    · simp (config := { maxSteps := 1000000 }) only[go_sem, h15, hb, hq, hqn, hbj, hbn, hjr, hb0, aa]
      refine skip ?_
      unfold fZ
      rw[QQ]
      intro hh
      have := of_decide_eq_true hh.2 j (an hq)
      rw[Int.toNat_natCast, aH hbj]at this
      exact this hb0
    · have w1 := QL ((k:Int) + 1) (by omega)
      simp (config := { maxSteps := 1000000 }) only[go_sem, h15, hb, hq, hqn, hbj, hbn, hjr, hb0, w1, aa]
      refine⟨⟨k + 1, rfl, by omega, fun p hp => ?_⟩, by omega⟩
      rw[aU hq]at hp
      rcases Q1.1 hp with hp | hp
      · exact hall p hp
      · obtain rfl := List.mem_singleton.1 hp
        rw[Int.toNat_natCast, aH hbj]; exact hb0
  rw[QP (by omega)]at hall
  have hpo:tn P r = true := Rk hall
  have hkey:fZ cs P v r = some (de cs P r * c + x) := by unfold fZ; rw[QN ⟨by rw[aH hx]; exact hx0, hpo⟩, aH hx, aH hcv]
  have hri := ot (h.fits hc hpo)
  have hpr := h.prod (aI cs P).length
  rw[QP (Nat.le_refl _)]at hpr
  have hri':0 <= de cs P r /\ de cs P r < 4096 := ⟨hri.1, by unfold de; omega⟩
  have m0:0 <= de cs P r * c := Sc hri'.1 (by omega)
  have m1:de cs P r * c <= 4096 * 4 := S2 (by omega) c4.2 (by omega) (by omega)
  have w2 := QL (de cs P r * c) (by omega)
  have w3 := QL (de cs P r * c + x) (by omega)
  have eb := hes (de cs P r * c + x)
  have w4 := QL (dV es (de cs P r * c + x) + 1) (by omega)
  have isM:lX Tryd.prog 119 = true := by kernel_rfl
  have hlk:iE Tryd.prog H' 119 (.yld m) (.lit (.int .i64 (de cs P r * c + x))) false = some (.lit (.int .i64 (dV es (de cs P r * c + x)))) := by
    unfold iE
    rw[QN isM]
    simp only[gm]
    rw[BC]
  have hup:ib Tryd.prog H' 119 (.yld m) (.lit (.int .i64 (de cs P r * c + x))) (.lit (.int .i64 (dV es (de cs P r * c + x) + 1))) = some (.lit undef, H'.upd m (.mp (kz es (de cs P r * c + x) (dV es (de cs P r * c + x) + 1)))) := by
    unfold ib
    rw[QN isM]
    simp only[gm]
  simp (config := { maxSteps := 1000000 }) only[go_sem, h15, hb, aa]
  refine W.draw 17 [0, 0, 2, 0, 0, 30, 0, 64, 0, 448, 960, 2046, 0, 0, 12288, 28672, 65534] Tryd.mixed (by kernel_rfl) (by kernel_rfl) ?_
  simp (config := { maxSteps := 1000000 }) only[go_sem, lt, ld, lp, aa]
  refine⟨ab (de cs P r), [], fQ.pure (fun H2 => Nt h hc hpo hcl H2 _ ⟨rfl, rfl⟩), ?_⟩
  simp (config := { maxSteps := 1000000 }) only[go_sem, lt, ld, lp, lv, hvc, hvr, hx, hxn, hcv, hcn, w2, w3, w4, hlk, hup, aa]
  have e:j8 cs P v es r = kz es (de cs P r * c + x) (dV es (de cs P r * c + x) + 1) := by unfold j8; rw[hkey]
  exact az.mk (Nat.le_refl _) (hK _ (by rw[ao, QN rfl, e]) (fun j hj => by rw[ao, QQ hj]) rfl)
set_option maxHeartbeats 2000000 in
theorem Nv {cs P : List Int} {xs : List (List Int)} {v : Nat} (h : ParIn cs P) (hd : DataOk cs xs) (hv : v < cs.length) (H : AHeap) (K : ARes → AHeap → Prop)
    (hK:∀ m H' es, Over H H' -> H.next <= m -> m < H'.next -> H'.get m = some (.mp es) -> (∀ k, dV es k = dB cs P v xs k) -> K (.ret (.tup [.yld m, ab (aQ (aI cs P))])) H'):
    ah Tryd.prog G0 55 [dT cs xs, ab v, ag P] H K := by
  have c6 := hd.c1
  have x40 := hd.x1
  have plen := h.len
  refine ah.cu (n := 44) (rs := [.tmp 6, .tmp 7]) Tryd.func55 rfl rfl rfl (by decide) (by kernel_rfl) (by simp) ?_
  simp (config := { maxSteps := 1000000 }) only[go_sem, dT, aD, aa]
  obtain⟨H1, hH1⟩:∃ H1, H1 = ext H [.arr 0 50 [ag cs, aD xs], .arr 0 3 [ab v], .arr 0 22 [ag P], .mp [], .arr 0 119 [.yld (H.next + 3)]] := ⟨_, rfl⟩
  have b0:H1.get H.next = some (.arr 0 50 [ag cs, aD xs]) := by rw[hH1]; exact ez ..
  have b1:H1.get (H.next + 1) = some (.arr 0 3 [ab v]) := by rw[hH1]; exact bP H _ 1 (by simp)
  have b2:H1.get (H.next + 2) = some (.arr 0 22 [ag P]) := by rw[hH1]; exact bP H _ 2 (by simp)
  have b3:H1.get (H.next + 3) = some (.mp []) := by rw[hH1]; exact bP H _ 3 (by simp)
  have b4:H1.get (H.next + 4) = some (.arr 0 119 [.yld (H.next + 3)]) := by rw[hH1]; exact bP H _ 4 (by simp)
  have n1:H1.next = H.next + 5 := by rw[hH1]; rfl
  have o1:Over H H1 := by rw[hH1]; exact .ext _ _
  refine W.env fun E hE => ?_
  have e3:E 3 = .ptr H.next 0 0 := by rw[hE]; simp (config := { maxSteps := 1000000 }) only[go_sem, aa]
  have e5:E 5 = .ptr (H.next + 2) 0 0 := by rw[hE]; simp (config := { maxSteps := 1000000 }) only[go_sem, aa]
  have e8:E 8 = .ptr (H.next + 4) 0 0 := by rw[hE]; simp (config := { maxSteps := 1000000 }) only[go_sem, aa]
  have e9:E 9 = .clo 83 [] [.ptr (H.next + 1) 0 0, .ptr (H.next + 2) 0 0, .ptr (H.next + 4) 0 0, .ptr H.next 0 0] := by rw[hE]; simp (config := { maxSteps := 1000000 }) only[go_sem, aa]
  have e18:E 18 = .vec xs.length (xs.map ag) := by rw[hE]; simp (config := { maxSteps := 1000000 }) only[go_sem, aa]
  have e19:E 19 = ab xs.length := by rw[hE]; simp (config := { maxSteps := 1000000 }) only[go_sem, aa]
  have e20:E 20 = ab 0 := by rw[hE]; simp (config := { maxSteps := 1000000 }) only[go_sem, aa]
  clear hE
  show W _ _ _ _ _ _ ⟨E, ext H [.arr 0 50 [ag cs, aD xs], .arr 0 3 [ab v], .arr 0 22 [ag P], .mp [], .arr 0 119 [.yld (H.next + 3)]]⟩
  rw[<- hH1]
  clear hH1
  refine W.aR 267388928 (by rfl) (fun ρ Hx => ∃ i:Nat, ρ 20 = ab i /\ i <= xs.length /\ Hx.get (H.next + 3) = some (.mp ((xs.take i).foldl (j8 cs P v) [])) /\ (∀ j, j ≠ H.next + 3 -> Hx.get j = H1.get j) /\ Hx.next = H1.next) (fun ρ H => xs.length - (iv (ρ 20)).toNat) ?_ ?_
  · exact⟨0, e20, by omega, b3, fun _ _ => rfl, rfl⟩
  rintro ρ Hx ⟨i, h20, hi, hm, hold, hnx⟩
  refine W.env fun E1 hE1 => ?_
  have f3:E1 3 = .ptr H.next 0 0 := by rw[hE1]; simp (config := { maxSteps := 1000000 }) only[go_sem, e3, aa]
  have f5:E1 5 = .ptr (H.next + 2) 0 0 := by rw[hE1]; simp (config := { maxSteps := 1000000 }) only[go_sem, e5, aa]
  have f8:E1 8 = .ptr (H.next + 4) 0 0 := by rw[hE1]; simp (config := { maxSteps := 1000000 }) only[go_sem, e8, aa]
  have f9:E1 9 = .clo 83 [] [.ptr (H.next + 1) 0 0, .ptr (H.next + 2) 0 0, .ptr (H.next + 4) 0 0, .ptr H.next 0 0] := by rw[hE1]; simp (config := { maxSteps := 1000000 }) only[go_sem, e9, aa]
  have f18:E1 18 = .vec xs.length (xs.map ag) := by rw[hE1]; simp (config := { maxSteps := 1000000 }) only[go_sem, e18, aa]
  have f19:E1 19 = ab xs.length := by rw[hE1]; simp (config := { maxSteps := 1000000 }) only[go_sem, e19, aa]
  have f20:E1 20 = ab i := by rw[hE1]; simp (config := { maxSteps := 1000000 }) only[go_sem, h20, aa]
  clear hE1
  refine W.vs ?_
  by_cases hb:(i:Int) < xs.length
  · obtain⟨r, hr⟩ := get_of_lt (l := xs) (i := i) (by omega)
    have hr' := pV hr
    have hrn := aM hr'
    have w1 := QL ((i:Int) + 1) (by omega)
    have bnd:∀ k, 0 <= dV ((xs.take i).foldl (j8 cs P v) []) k /\ dV ((xs.take i).foldl (j8 cs P v) []) k <= 1000 := fun k => by
      rw[BD]
      have := wU cs P v (xs.take i) k
      rw[QV]at this
      have e:dV [] k = 0 := rfl
      omega
    simp (config := { maxSteps := 1000000 }) only[go_sem, f9, f18, f19, f20, hb, hr', hrn, aa]
    refine aG.clo (Nu h (hd.row r (an hr)) (by omega) hv bnd Hx (H.next + 1) (H.next + 2) (H.next + 4) H.next (H.next + 3) ((hold _ (by omega)).trans b1) ((hold _ (by omega)).trans b2) ((hold _ (by omega)).trans b4) ((hold _ (by omega)).trans b0) hm (by omega) _ fun H' g1 g2 g3 => ⟨trivial, ?_⟩)
    simp (config := { maxSteps := 1000000 }) only[go_sem, f20, w1, aa]
    refine⟨by omega, ⟨i + 1, rfl, by omega, by rw[aU hr, R9]; exact g1, fun j hj => (g2 j hj).trans (hold j hj), by omega⟩, by rw[h20]; simp only[ab, cL]; omega⟩
  rw[QP (by omega)]at hm
  have l0 := aq ((hold H.next (by omega)).trans b0)
  have l2 := aq ((hold (H.next + 2) (by omega)).trans b2)
  have l4 := aq ((hold (H.next + 4) (by omega)).trans b4)
  simp (config := { maxSteps := 1000000 }) only[go_sem, f5, f19, f20, hb, l2, aa]
  refine W.aR 4396972789760 (by rfl) (fun ρ2 Hy => Hy = Hx /\ ∃ k:Nat, ρ2 30 = ab k /\ k <= P.length /\ ρ2 12 = ab (aQ ((aI cs P).take k))) (fun ρ2 H => P.length - (iv (ρ2 30)).toNat) ?_ ?_
  · simp (config := { maxSteps := 1000000 }) only[go_sem, aa]
    exact⟨0, rfl, by omega, by simp [kf]⟩
  rintro ρ2 Hy ⟨rfl, k, h30, hk, h12⟩
  refine W.vs ?_
  by_cases hb2:(k:Int) < P.length
  · obtain⟨q, hq⟩ := get_of_lt (l := P) (i := k) (by omega)
    obtain⟨j, rfl, c, hcj⟩ := lG (l := cs) (h.rng q (an hq)).1 (h.rng q (an hq)).2
    have pk:(aI cs P)[k]? = some c := by rw[lR hq, Int.toNat_natCast, aH hcj]
    have hqn := aM hq
    have hcn := aM hcj
    have hjl:(j:Int) < cs.length := by have := get_lt hcj; omega
    have w1 := QL ((k:Int) + 1) (by omega)
    have pr := h.prod (k + 1)
    rw[aU pk, iz]at pr
    have w2 := QL (aQ ((aI cs P).take k) * c) (by omega)
    simp (config := { maxSteps := 1000000 }) only[go_sem, h30, h12, hb2, hq, hqn, f3, l0, hjl, hcj, hcn, w1, w2, aa]
    exact⟨⟨k + 1, rfl, by omega, by rw[aU pk, iz]⟩, by omega⟩
  rw[QP (by rw[fq]; omega)]at h12
  simp (config := { maxSteps := 1000000 }) only[go_sem, h30, h12, hb2, f8, l4, aa]
  refine az.mk (by omega) (hK (H.next + 3) Hy _ ⟨by omega, fun id hid => (hold id (by omega)).trans (o1.old id hid)⟩ (by omega) (by omega) hm fun k => ?_)
  rw[BD]
  have e:dV [] k = 0 := rfl
  omega
def pZ (ps:List Nat):List (List AVal) := (List.range ps.length).map fun (v:Nat) => [ab (v:Int), ag (bK ps.length (ps.getD v 0))]
theorem BF {ps:List Nat}{v:Nat}{s:Nat}(h:ps[v]? = some s):(pZ ps)[v]? = some [ab v, ag (bK ps.length s)] := by
  unfold pZ
  rw[List.getElem?_map, RO (get_lt h), Option.map_some, aH h]
theorem wV (ps:List Nat):(pZ ps).length = ps.length := by simp [pZ]
set_option maxHeartbeats 2000000 in
theorem Nw (ps : List Nat) (hp : ∀ p ∈ ps, p < 2 ^ 64) (h6 : ps.length ≤ 6) (b N : Nat) (hbN : b < N) :
    C7 Tryd.prog G0 82 [] [.ptr b 0 0] (pZ ps) N (fun H => H.get b = some (.arr 0 44 [bS ps])) (fun _ _ => True) := by
  intro idy J Stop H K hN hS0 hJw hJ0 hY hK hSt
  have l0 := aq (hS0 0 H hJ0)
  show ah _ _ _ ([.yld idy] ++ [.ptr b 0 0]) _ _
  refine ah.dP (n := 36) (rs := []) Tryd.func82 rfl rfl rfl (by decide) (by simp) ?_
  subst hN
  refine W.sq ?_
  simp (config := { maxSteps := 1000000 }) only[go_sem, l0, aa]
  refine W.block ?_
  refine W.env fun E hE => ?_
  have e0:E 0 = .yld idy := by rw[hE]; simp (config := { maxSteps := 1000000 }) only[go_sem, aa]
  have e1:E 1 = .ptr b 0 0 := by rw[hE]; simp (config := { maxSteps := 1000000 }) only[go_sem, aa]
  have e7:E 7 = bS ps := by rw[hE]; simp (config := { maxSteps := 1000000 }) only[go_sem, aa]
  have e8:E 8 = ab ps.length := by rw[hE]; simp (config := { maxSteps := 1000000 }) only[go_sem, aa]
  have e9:E 9 = ab 0 := by rw[hE]; simp (config := { maxSteps := 1000000 }) only[go_sem, aa]
  clear hE
  refine W.aR 68719476344 (by rfl) (fun ρ H' => ∃ v:Nat, ρ 9 = ab v /\ v <= ps.length /\ J v H' /\ H.next <= H'.next) (fun ρ H => ps.length - (iv (ρ 9)).toNat) ?_ ?_
  · exact⟨0, e9, by omega, hJ0, Nat.le_refl _⟩
  rintro ρ H' ⟨v, h9, hv, hj, hn⟩
  refine W.env fun E1 hE1 => ?_
  have f0:E1 0 = .yld idy := by rw[hE1]; simp (config := { maxSteps := 1000000 }) only[go_sem, e0, aa]
  have f1:E1 1 = .ptr b 0 0 := by rw[hE1]; simp (config := { maxSteps := 1000000 }) only[go_sem, e1, aa]
  have f7:E1 7 = bS ps := by rw[hE1]; simp (config := { maxSteps := 1000000 }) only[go_sem, e7, aa]
  have f8:E1 8 = ab ps.length := by rw[hE1]; simp (config := { maxSteps := 1000000 }) only[go_sem, e8, aa]
  have f9:E1 9 = ab v := by rw[hE1]; simp (config := { maxSteps := 1000000 }) only[go_sem, h9, aa]
  clear hE1
  by_cases hb:(v:Int) < ps.length
  rotate_left
  · refine W.vs ?_
    simp (config := { maxSteps := 1000000 }) only[go_sem, f8, f9, hb, aa]
    obtain rfl:v = ps.length := by omega
    exact az.mk hn (hK H' (by rw[wV]; exact hj) hn)
  obtain⟨s, hs⟩ := get_of_lt (l := ps) (i := v) (by omega)
  have hs64 := hp s (an hs)
  have hsn := aM hs
  have gb := hS0 v H' hj
  refine W.sq ?_
  simp (config := { maxSteps := 1000000 }) only[go_sem, f8, f9, hb, aa]
  refine W.sq ?_
  simp (config := { maxSteps := 1000000 }) only[go_sem, aa]
  refine W.seq (W.block ?_)
  refine W.sq ?_
  simp (config := { maxSteps := 1000000 }) only[go_sem, f7, f9, hb, hs, hsn, aa]
  refine W.sq ?_
  simp (config := { maxSteps := 1000000 }) only[go_sem, aa]
  refine W.env fun E2 hE2 => ?_
  have a0:E2 0 = .yld idy := by rw[hE2]; simp (config := { maxSteps := 1000000 }) only[go_sem, f0, aa]
  have a1:E2 1 = .ptr b 0 0 := by rw[hE2]; simp (config := { maxSteps := 1000000 }) only[go_sem, f1, aa]
  have a3:E2 3 = ab v := by rw[hE2]; simp (config := { maxSteps := 1000000 }) only[go_sem, f9, aa]
  have a4:E2 4 = bq s := by rw[hE2]; simp (config := { maxSteps := 1000000 }) only[go_sem, f7, f9, hb, hs, hsn, aa]
  have a5:E2 5 = .own H'.next 0 0 0 1 := by rw[hE2]; simp (config := { maxSteps := 1000000 }) only[go_sem, aa]
  have a7:E2 7 = bS ps := by rw[hE2]; simp (config := { maxSteps := 1000000 }) only[go_sem, f7, aa]
  have a8:E2 8 = ab ps.length := by rw[hE2]; simp (config := { maxSteps := 1000000 }) only[go_sem, f8, aa]
  have a9:E2 9 = ab v := by rw[hE2]; simp (config := { maxSteps := 1000000 }) only[go_sem, f9, aa]
  clear hE2
  obtain⟨Ha, hHa⟩:∃ Ha, Ha = ext H' [.arr 0 3 []] := ⟨_, rfl⟩
  have na:Ha.next = H'.next + 1 := by rw[hHa]; rfl
  have oa:Over H' Ha := by rw[hHa]; exact .ext _ _
  have ga:aF H'.next Ha 3 (.own H'.next 0 0 0 1) (ints []) := by rw[hHa]; exact aF.new (cs := [])
  show W _ _ _ _ _ _ ⟨E2, ext H' [.arr 0 3 []]⟩
  rw[<- hHa]
  clear hHa
  refine W.eH (fun s' => s'.ρ 0 = .yld idy /\ s'.ρ 1 = .ptr b 0 0 /\ s'.ρ 3 = ab v /\ s'.ρ 5 = ag (bK ps.length s) /\ s'.ρ 7 = bS ps /\ s'.ρ 8 = ab ps.length /\ s'.ρ 9 = ab v /\ H'.next < s'.H.next /\ ∀ id, id < H'.next -> s'.H.get id = H'.get id)
    (W.tU (Q' := fun e s' => e = .normal /\ s'.ρ 0 = .yld idy /\ s'.ρ 1 = .ptr b 0 0 /\ s'.ρ 3 = ab v /\ aF H'.next s'.H 3 (s'.ρ 5) (ints (bK ps.length s)) /\ s'.ρ 7 = bS ps /\ s'.ρ 8 = ab ps.length /\ s'.ρ 9 = ab v /\ H'.next < s'.H.next /\ ∀ id, id < H'.next -> s'.H.get id = H'.get id) ?_ ?_) ?_
  · have la := aq ((oa.old b (by omega)).trans gb)
    refine W.sq ?_
    simp (config := { maxSteps := 1000000 }) only[go_sem, a1, la, aa]
    refine W.block ?_
    refine W.aR 1073610848 (by rfl) (fun ρ2 Hx => ∃ p:Nat, ρ2 17 = ab p /\ p <= ps.length /\ Ha.next <= Hx.next /\ (∀ id, id < H'.next -> Hx.get id = H'.get id) /\ aF H'.next Hx 3 (ρ2 5) (ints (bK p s))) (fun ρ2 H => ps.length - (iv (ρ2 17)).toNat) ?_ ?_
    · simp (config := { maxSteps := 1000000 }) only[go_sem, a5, aa]
      exact⟨0, rfl, by omega, fun id h => oa.old id h, ga⟩
    rintro ρ2 Hx ⟨p, h17, hpl, hnx, hold, hO⟩
    refine W.env fun E3 hE3 => ?_
    have c0:E3 0 = .yld idy := by rw[hE3]; simp (config := { maxSteps := 1000000 }) only[go_sem, a0, aa]
    have c1:E3 1 = .ptr b 0 0 := by rw[hE3]; simp (config := { maxSteps := 1000000 }) only[go_sem, a1, aa]
    have c3:E3 3 = ab v := by rw[hE3]; simp (config := { maxSteps := 1000000 }) only[go_sem, a3, aa]
    have c4:E3 4 = bq s := by rw[hE3]; simp (config := { maxSteps := 1000000 }) only[go_sem, a4, aa]
    obtain⟨lv, hlv⟩:∃ lv, lv = ρ2 5 := ⟨_, rfl⟩
    have c5:E3 5 = lv := by rw[hE3, hlv]; simp (config := { maxSteps := 1000000 }) only[go_sem, aa]
    rw[<- hlv]at hO
    have c7:E3 7 = bS ps := by rw[hE3]; simp (config := { maxSteps := 1000000 }) only[go_sem, a7, aa]
    have c8:E3 8 = ab ps.length := by rw[hE3]; simp (config := { maxSteps := 1000000 }) only[go_sem, a8, aa]
    have c9:E3 9 = ab v := by rw[hE3]; simp (config := { maxSteps := 1000000 }) only[go_sem, a9, aa]
    have c16:E3 16 = ab ps.length := by rw[hE3]; simp (config := { maxSteps := 1000000 }) only[go_sem, aa]
    have c17:E3 17 = ab p := by rw[hE3]; simp (config := { maxSteps := 1000000 }) only[go_sem, h17, aa]
    clear hE3
    refine W.vs ?_
    by_cases hb2:(p:Int) < ps.length
    rotate_left
    · simp (config := { maxSteps := 1000000 }) only[go_sem, c0, c1, c3, c5, c7, c8, c9, c16, c17, hb2, aa]
      obtain rfl:p = ps.length := by omega
      exact⟨hO, by omega, hold⟩
    have w1 := QL ((p:Int) + 1) (by omega)
    have s1 := fun t x y => tS (P := Tryd.prog) (t := t) (x := x) (y := y) (k' := .i64) (s := p) hs64
    have s2 := fun t x y => xW (P := Tryd.prog) (t := t) (x := x) (y := y) (s := p) hs64
    cases hbit:s.testBit p
    · simp (config := { maxSteps := 1000000 }) only[go_sem, c4, c5, c16, c17, hb2, s1, s2, hbit, w1, aa]
      exact⟨by omega, ⟨p + 1, rfl, by omega, hnx, hold, by rw[BE, hbit]; exact hO⟩, by rw[h17]; simp only[ab, cL]; omega⟩
    · have pll := tp p s
      obtain⟨v', H2, hA, hO2, hn2, hpp⟩ := wK (p:Int) hO (by omega) (by omega)
      simp (config := { maxSteps := 1000000 }) only[go_sem, c4, c5, c16, c17, hb2, s1, s2, hbit, w1, hA]
      exact⟨by omega, ⟨p + 1, rfl, by omega, by omega, fun id h => (hpp id (by omega) (hO.ne h)).trans (hold id h), by rw[BE, hbit, QN rfl]; exact hO2⟩, by rw[h17]; simp only[ab, cL]; omega⟩
  · rintro e ⟨ρ2, Hb⟩ ⟨rfl, q0, q1, q3, q5, q7, q8, q9, qn, qold⟩
    simp only at q0 q1 q3 q5 q7 q8 q9 qn qold
    refine⟨_, cH.Cv (s := ⟨ρ2, Hb⟩) (n := H'.next) (t0 := 5) (v' := ag (bK ps.length s)) bz (q5.jP fun i h => h), Nat.le_refl _, trivial, rfl, ?_⟩
    exact⟨q0, q1, q3, rfl, q7, q8, q9, qn, fun id h => by show (Hb.cut H'.next).get id = _; rw[kO h]; exact qold id h⟩
  rintro⟨ρ2, Hb⟩ ⟨q0, q1, q3, q5, q7, q8, q9, qn, qold⟩
  simp only at q0 q1 q3 q5 q7 q8 q9 qn qold
  have hjb := hJw v H' Hb hj ⟨by omega, fun id _ h => qold id h⟩
  refine W.vs ?_
  simp (config := { maxSteps := 1000000 }) only[go_sem, q0, q3, q5, aa]
  refine hY v [ab v, ag (bK ps.length s)] Hb _ (BF hs) hjb trivial (by omega) (fun H2 hj2 _ hn2 => ⟨trivial, ?_⟩) (fun H2 hs2 hn2 => ⟨trivial, ?_⟩)
  · have w1 := QL ((v:Int) + 1) (by omega)
    simp (config := { maxSteps := 1000000 }) only[go_sem, aa]
    refine W.vs ?_
    simp (config := { maxSteps := 1000000 }) only[go_sem, q9, w1, aa]
    exact⟨by omega, ⟨v + 1, rfl, by omega, hj2, by omega⟩, by rw[h9]; simp only[ab, cL]; omega⟩
  · simp (config := { maxSteps := 1000000 }) only[go_sem, aa]
    exact az.mk (by omega) (hSt H2 hs2 (by omega))
theorem Nx (ps:List Nat)(H:AHeap)(K:ARes -> AHeap -> Prop)(hK:K (.ret (.clo 82 [] [.ptr H.next 0 0])) (ext H [.arr 0 44 [bS ps]])):ah Tryd.prog G0 54 [bS ps] H K := by
  refine ah.cu (n := 4) (rs := [.tmp 2]) Tryd.func54 rfl rfl rfl (by decide) (by kernel_rfl) (by simp) ?_
  simp (config := { maxSteps := 1000000 }) only[go_sem, aa]
  exact az.mk (by rw[dk]; omega) hK
def nB (g:Nat)(q:List Nat):Blk := .arr g 3 (ints (aE q))
def Bl (cv:AVal)(f:Nat -> Nat)(l:List Nat)(Inv:AHeap -> Prop):Prop := ∀ a b, a ∈ l -> b ∈ l -> ∀ Hx, Inv Hx -> ∃ z:Int, (z < 0 ↔ f a < f b) /\ ∀ K, K (.ret (ab z)) Hx -> aG Tryd.prog G0 cv [ab (a:Nat), ab (b:Nat)] Hx K
set_option maxHeartbeats 4000000 in
theorem Mj {cv : AVal} {f : Nat → Nat} {Inv : AHeap → Prop} {id g : Nat} {l : List Nat} (hl : l.length ≤ 64) (h2 : 2 ≤ l.length) (H : AHeap) (hid : H.get id = some (nB g l)) (hInv : ∀ q, Inv (H.upd id (nB g q))) (hcmp : Bl cv f l Inv) (K : ARes → AHeap → Prop)
    (hK:∀ l', l'.Perm l -> oH f l' l.length -> K (.ret (.tup [])) (H.upd id (nB g l'))):
    ah Tryd.prog G0 96 [.own id g 0 l.length 1, ab 0, ab l.length, cv] H K := by
  refine ah.dP (n := 53) (rs := []) Tryd.func96 rfl rfl rfl (by decide) (by simp) ?_
  refine W.sq ?_
  simp (config := { maxSteps := 1000000 }) only[go_sem, aa]
  refine W.env fun E hE => ?_
  have e0:E 0 = .own id g 0 l.length 1 := by rw[hE]; simp (config := { maxSteps := 1000000 }) only[go_sem, aa]
  have e1:E 1 = ab 0 := by rw[hE]; simp (config := { maxSteps := 1000000 }) only[go_sem, aa]
  have e2:E 2 = ab l.length := by rw[hE]; simp (config := { maxSteps := 1000000 }) only[go_sem, aa]
  have e3:E 3 = cv := by rw[hE]; simp (config := { maxSteps := 1000000 }) only[go_sem, aa]
  have e8:E 8 = ab 1 := by rw[hE]; simp (config := { maxSteps := 1000000 }) only[go_sem, aa]; rfl
  clear hE
  refine W.block ?_
  refine W.aR 9007199254737664 (by rfl) (fun ρ Hx => ∃ (i:Nat) (q:List Nat), ρ 8 = ab i /\ 1 <= i /\ i <= l.length /\ q.Perm l /\ oH f q i /\ Hx = H.upd id (nB g q)) (fun ρ Hx => l.length - (iv (ρ 8)).toNat) ?_ ?_
  · exact⟨1, l, e8, by omega, by omega, .refl _, fun a b h1 h2 => by omega, (A3 hid).symm⟩
  rintro ρ Hx ⟨i, q, h8, hi1, hi, hq, hS, hHx⟩
  have ql := hq.length_eq
  refine W.env fun E1 hE1 => ?_
  have f0:E1 0 = .own id g 0 l.length 1 := by rw[hE1]; simp (config := { maxSteps := 1000000 }) only[go_sem, e0, aa]
  have f1:E1 1 = ab 0 := by rw[hE1]; simp (config := { maxSteps := 1000000 }) only[go_sem, e1, aa]
  have f2:E1 2 = ab l.length := by rw[hE1]; simp (config := { maxSteps := 1000000 }) only[go_sem, e2, aa]
  have f3:E1 3 = cv := by rw[hE1]; simp (config := { maxSteps := 1000000 }) only[go_sem, e3, aa]
  have f8:E1 8 = ab i := by rw[hE1]; simp (config := { maxSteps := 1000000 }) only[go_sem, h8, aa]
  clear hE1
  by_cases hb:(i:Int) < l.length
  rotate_left
  · refine W.vs ?_
    simp (config := { maxSteps := 1000000 }) only[go_sem, f8, f2, hb, aa]
    have hii:i = l.length := by omega
    rw[hii]at hS
    rw[hHx]
    exact az.mk (by rw[aV]; exact Nat.le_refl _) (hK q hq hS)
  refine W.sq ?_
  simp (config := { maxSteps := 1000000 }) only[go_sem, f8, f2, hb, aa]
  refine W.seq (W.block ?_)
  refine W.sq ?_
  simp (config := { maxSteps := 1000000 }) only[go_sem, f8, aa]
  refine W.env fun E2 hE2 => ?_
  have m0:E2 0 = .own id g 0 l.length 1 := by rw[hE2]; simp (config := { maxSteps := 1000000 }) only[go_sem, f0, aa]
  have m1:E2 1 = ab 0 := by rw[hE2]; simp (config := { maxSteps := 1000000 }) only[go_sem, f1, aa]
  have m3:E2 3 = cv := by rw[hE2]; simp (config := { maxSteps := 1000000 }) only[go_sem, f3, aa]
  have m8:E2 8 = ab i := by rw[hE2]; simp (config := { maxSteps := 1000000 }) only[go_sem, f8, aa]
  have m9:E2 9 = ab i := by rw[hE2]; simp (config := { maxSteps := 1000000 }) only[go_sem, f8, aa]
  clear hE2
  refine W.block ?_
  refine W.aR 9007199254479360 (by rfl) (fun ρ Hz => ∃ (j:Nat) (p:List Nat), ρ 9 = ab j /\ j <= i /\ p.Perm l /\ qq f p i j /\ Hz = H.upd id (nB g p)) (fun ρ Hz => (iv (ρ 9)).toNat) ?_ ?_
  · exact⟨i, q, m9, Nat.le_refl _, hq, Pj hS, hHx⟩
  rintro ρ2 Hz ⟨j, p, h9, hj, hp, hIn, hHz⟩
  have pl := hp.length_eq
  refine W.env fun E3 hE3 => ?_
  have u0:E3 0 = .own id g 0 l.length 1 := by rw[hE3]; simp (config := { maxSteps := 1000000 }) only[go_sem, m0, aa]
  have u1:E3 1 = ab 0 := by rw[hE3]; simp (config := { maxSteps := 1000000 }) only[go_sem, m1, aa]
  have u3:E3 3 = cv := by rw[hE3]; simp (config := { maxSteps := 1000000 }) only[go_sem, m3, aa]
  have u8:E3 8 = ab i := by rw[hE3]; simp (config := { maxSteps := 1000000 }) only[go_sem, m8, aa]
  have u9:E3 9 = ab j := by rw[hE3]; simp (config := { maxSteps := 1000000 }) only[go_sem, h9, aa]
  clear hE3
  have gz:Hz.get id = some (.arr g 3 (ints (aE p))) := by rw[hHz, ao, QN rfl]; rfl
  have lz := aq gz
  have plen:(ints (aE p)).length = l.length := by rw[aX, gS, pl]
  have hIz:Inv Hz := by rw[hHz]; exact hInv p
  have ptg:∀ {i k:Nat}, p[i]? = some k -> (ints (aE p))[i]? = some (ab k) := fun h => by rw[fC, nZ h]; rfl
  refine W.seq (W.eH (fun s' => s'.H = Hz /\ s'.ρ 0 = .own id g 0 l.length 1 /\ s'.ρ 8 = ab i /\ s'.ρ 9 = ab j /\ s'.ρ 34 = .lit (.bool (decide (0 < j) && decide (f (p.getD j 0) < f (p.getD (j - 1) 0))))) ?_ ?_)
  · refine W.draw 14 [0, 0, 3, 7, 15, 15, 15, 111, 239, 15, 15, 1039, 3599, 7695] Tryd.mixed (by kernel_rfl) (by kernel_rfl) ?_
    by_cases hjb:(j:Int) > 0
    · have wj := QL ((j:Int) - 1) (by omega)
      have cj:((j:Int) - 1).toNat = j - 1 := by omega
      have gj := ptg (jA (l := p) (i := j) (by omega))
      have gj1 := ptg (jA (l := p) (i := j - 1) (by omega))
      have gjn := aM gj
      have gj1n := aM gj1
      have b1:(j:Int) < l.length := by omega
      have b2:(j:Int) - 1 < l.length := by omega
      have b3:(0:Int) <= (j:Int) - 1 := by omega
      simp (config := { maxSteps := 1000000 }) only[go_sem, u0, u1, u3, u8, u9, lz, plen, hjb, wj, cj, gj, gj1, gjn, gj1n, b1, b2, b3, aJ, aa]
      obtain⟨z, hz, hc⟩ := hcmp (p.getD j 0) (p.getD (j - 1) 0) (hp.mem_iff.1 (an (jA (by omega)))) (hp.mem_iff.1 (an (jA (by omega)))) Hz hIz
      refine hc _ ⟨trivial, ?_⟩
      have hd1:decide (0 < j) = true := Rk (by omega)
      rw[hd1]
      by_cases hlt:f (p.getD j 0) < f (p.getD (j - 1) 0)
      · have hlt' := hz.2 hlt
        simp (config := { maxSteps := 1000000 }) only[go_sem, u0, u8, u9, hlt', hlt, aa]
        try rfl
      · have hlt':¬ z < 0 := fun h => hlt (hz.1 h)
        simp (config := { maxSteps := 1000000 }) only[go_sem, u0, u8, u9, hlt', hlt, aa]
        try rfl
    · simp (config := { maxSteps := 1000000 }) only[go_sem, u0, u1, u3, u8, u9, lz, plen, hjb, aJ, aa]
      have hj0:j = 0 := by omega
      subst hj0
      rfl
  rintro⟨ρ3, Hq⟩ ⟨hHq, v0, v8, v9, v34⟩
  simp only at hHq v0 v8 v9 v34
  rw[hHq]
  clear hHq Hq
  cases hfl:(decide (0 < j) && decide (f (p.getD j 0) < f (p.getD (j - 1) 0))) with
  | false =>
    rw[hfl]at v34
    refine W.cond (t := false) v34 ?_
    refine W.vs ?_
    simp (config := { maxSteps := 1000000 }) only[go_sem, v8, aa]
    have wi := QL ((i:Int) + 1) (by omega)
    have hd:j = 0 \/ f (p.getD (j - 1) 0) <= f (p.getD j 0) := by
      by_cases h0:j = 0
      · exact .inl h0
      · rw[Rk (by omega:0 < j), TX, RH]at hfl
        exact .inr (by omega)
    have hS' := Pk hIn hj hd
    refine W.vs ?_
    simp (config := { maxSteps := 1000000 }) only[go_sem, v8, wi, aa]
    exact⟨by rw[hHz, aV]; exact Nat.le_refl _, ⟨i + 1, p, rfl, by omega, by omega, hp, hS', hHz⟩, by rw[h8]; simp only[ab, cL]; omega⟩
  | true =>
    rw[hfl]at v34
    refine W.cond (t := true) v34 ?_
    have hfl2:0 < j /\ f (p.getD j 0) < f (p.getD (j - 1) 0) := by simpa using hfl
    have wj := QL ((j:Int) - 1) (by omega)
    have cj:((j:Int) - 1).toNat = j - 1 := by omega
    have gj := ptg (jA (l := p) (i := j) (by omega))
    have gj1 := ptg (jA (l := p) (i := j - 1) (by omega))
    have gjn := aM gj
    have gj1n := aM gj1
    have b1:(j:Int) < l.length := by omega
    have b2:(j:Int) - 1 < l.length := by omega
    have b3:(0:Int) <= (j:Int) - 1 := by omega
    have s1:setAt (ints (aE p)) j [.lit (.int .i64 ((p.getD (j - 1) 0:Nat):Int))] = ints (aE (p.set j (p.getD (j - 1) 0))) := by rw[fo (by rw[gS]; omega), A5]
    have s2:setAt (ints (aE (p.set j (p.getD (j - 1) 0)))) (j - 1) [.lit (.int .i64 ((p.getD j 0:Nat):Int))] = ints (aE (mE p j (j - 1))) := by rw[fo (by rw[gS, Q8]; omega), A5]; rfl
    have plen2:(ints (aE (p.set j (p.getD (j - 1) 0)))).length = l.length := by rw[aX, gS, Q8, pl]
    have lz2:(Hz.upd id (.arr g 3 (ints (aE (p.set j (p.getD (j - 1) 0)))))).live id g = some (3, ints (aE (p.set j (p.getD (j - 1) 0)))) := aq (by rw[ao, QN rfl])
    refine W.vs ?_
    simp (config := { maxSteps := 1000000 }) only[go_sem, aa]
    refine W.seq (W.block ?_)
    refine W.draw 16 [0, 0, 0, 0, 8, 0, 0, 64, 224, 480, 0, 0, 3072, 7168, 16355, 32739] Tryd.mixed (by kernel_rfl) (by kernel_rfl) ?_
    simp (config := { maxSteps := 1000000 }) only[go_sem, v0, v8, v9, lz, plen, wj, cj, gj, gj1, gjn, gj1n, b1, b2, b3, s1, s2, plen2, lz2, aa]
    refine⟨by omega, by omega, nf _ _ _ (by rfl) ?_⟩
    simp (config := { maxSteps := 1000000 }) only[go_sem, v9, wj, aa]
    refine⟨by rw[hHx, hHz]; simp only[aV]; exact Nat.le_refl _, ⟨j - 1, mE p j (j - 1), ?_, by omega, (Pm (by omega) (by omega)).trans hp, Pl hIn hj (by omega) hfl2.1 hfl2.2, ?_⟩, by rw[h9]; simp only[ab, cL]; omega⟩
    · congr 2; omega
    · rw[hHz]
      unfold nB
      rw[A4, A4]
theorem Mk {s:ByteArray}{i:Nat}{F:AVal -> Prop}(hs:s.size = 256)(hi:i < 256)(h:∀ L:Nat, L < 256 -> F (.lit (.int .u8 (L:Int)))):aP (kD Tryd.prog 9 (.lit (.string s)) (.lit (.int .u8 (i:Int)))) F := by
  have ix:kD Tryd.prog 9 (.lit (.string s)) (.lit (.int .u8 (i:Int))) = some (.lit (.int .u8 (((s[i]!).toNat:Nat):Int))) := by
    unfold kD
    simp only[]
    have e1:s[i]? = some s[i]! := by
      rw[getElem!_pos s i (by omega)]
      exact getElem?_pos s i (by omega)
    have ht:Tryd.prog.underlying 9 = some .string := Tryd.underlying9
    simp [Instr.index, asIntOf, underlying, program, ht, bM, bind, Sem.bind, pure, e1]
  rw[ix, kJ]
  exact h _ (UInt8.toNat_lt _)
theorem Ml {n:Nat}(h12:n <= 12)(H:AHeap)(K:ARes -> AHeap -> Prop)(hK:∀ L:Nat, L < 256 -> K (.ret (ab L)) H):ah Tryd.prog G0 105 [.lit (.int .u64 (n:Int))] H K := by
  have h1:¬ (4294967296:Int) <= (n:Int) := by omega
  have h2:¬ (65536:Int) <= (n:Int) := by omega
  have h3:¬ (256:Int) <= (n:Int) := by omega
  have ww:IntKind.u8.wrap ((n:Nat):Int) = (n:Int) := by simp [IntKind.wrap, IntKind.bits, IntKind.signed]; omega
  refine ah.dP (n := 25) (rs := [.tmp 2]) Tryd.func105 rfl rfl rfl (by decide) (by simp) ?_
  refine W.sq ?_
  simp (config := { maxSteps := 1000000 }) only[go_sem, h1, h2, h3, ww, aa]
  refine W.sq ?_
  simp (config := { maxSteps := 1000000 }) only[go_sem, h1, h2, h3, ww, aa]
  refine W.sq ?_
  simp (config := { maxSteps := 1000000 }) only[go_sem, h1, h2, h3, ww, aa]
  refine W.sq ?_
  simp (config := { maxSteps := 1000000 }) only[go_sem, h1, h2, h3, ww, aa]
  refine W.vs ?_
  simp (config := { maxSteps := 1000000 }) only[go_sem, h1, h2, h3, ww, aa]
  refine Mk (by kernel_rfl) (by omega) fun L hL => ?_
  have w:IntKind.i64.wrap (0 + (L:Int)) = (L:Int) := by rw[Ti]; exact QL (L:Int) (by omega)
  have w0 := QL (L:Int) (by omega)
  simp (config := { maxSteps := 1000000 }) only[go_sem, w0, w, aa]
  exact az.mk (Nat.le_refl _) (hK L hL)
theorem Bm {n:Nat}(h12:n <= 12)(H:AHeap)(K:ARes -> AHeap -> Prop)(hK:∀ L:Nat, L < 256 -> K (.ret (ab L)) H):ah Tryd.prog G0 81 [.lit (.int .u64 (n:Int))] H K := by
  refine ah.dP (n := 8) (rs := [.tmp 2]) Tryd.func81 rfl rfl rfl (by decide) (by simp) ?_
  refine W.vs ?_
  simp (config := { maxSteps := 1000000 }) only[go_sem, aa]
  refine aG.clo (Ml h12 H _ fun L hL => ⟨trivial, ?_⟩)
  simp (config := { maxSteps := 1000000 }) only[go_sem, aa]
  exact az.mk (Nat.le_refl _) (hK L hL)
theorem Bn {v cv : AVal} {n L : Nat} {Q : AHeap → Prop} (h12 : n ≤ 12) (H : AHeap) (hQ : ∀ H', Q H' → H.next ≤ H'.next) (hc : ∀ K' : ARes → AHeap → Prop, (∀ H', Q H' → K' (.ret (.tup [])) H') → ah Tryd.prog G0 96 [v, ab 0, ab n, cv] H K')
    (K:ARes -> AHeap -> Prop) (hK:∀ H', Q H' -> K (.ret (.tup [])) H'):
    ah Tryd.prog G0 80 [v, ab 0, ab n, ab L, cv] H K := by
  have wn:IntKind.i64.wrap ((n:Int) - 0) = (n:Int) := by rw[Int.sub_zero]; exact QL (n:Int) (by omega)
  have hb:(n:Int) <= 12 := by omega
  refine ah.dP (n := 148) (rs := []) Tryd.func80 rfl rfl rfl (by decide) (by simp) ?_
  refine W.sq ?_
  simp (config := { maxSteps := 1000000 }) only[go_sem, aa]
  refine W.sq ?_
  simp (config := { maxSteps := 1000000 }) only[go_sem, aa]
  refine W.env fun E hE => ?_
  have e0:E 0 = v := by rw[hE]; simp (config := { maxSteps := 1000000 }) only[go_sem, aa]
  have e1:E 1 = ab 0 := by rw[hE]; simp (config := { maxSteps := 1000000 }) only[go_sem, aa]
  have e2:E 2 = ab n := by rw[hE]; simp (config := { maxSteps := 1000000 }) only[go_sem, aa]
  have e4:E 4 = cv := by rw[hE]; simp (config := { maxSteps := 1000000 }) only[go_sem, aa]
  clear hE
  refine W.block ?_
  refine W.aR 356811923176489970264571492362373784095685646 (by kernel_rfl) (fun ρ Hx => ρ 0 = v /\ ρ 1 = ab 0 /\ ρ 2 = ab n /\ ρ 4 = cv /\ Hx = H) (fun ρ Hx => 0) ?_ ?_
  · exact⟨e0, e1, e2, e4, rfl⟩
  rintro ρ Hx ⟨h0, h1, h2, h4, hHx⟩
  refine W.env fun E1 hE1 => ?_
  have f0:E1 0 = v := by rw[hE1]; simp (config := { maxSteps := 1000000 }) only[go_sem, h0, e0, aa]
  have f1:E1 1 = ab 0 := by rw[hE1]; simp (config := { maxSteps := 1000000 }) only[go_sem, h1, aa]
  have f2:E1 2 = ab n := by rw[hE1]; simp (config := { maxSteps := 1000000 }) only[go_sem, h2, aa]
  have f4:E1 4 = cv := by rw[hE1]; simp (config := { maxSteps := 1000000 }) only[go_sem, h4, e4, aa]
  clear hE1
  rw[hHx]
  refine W.block ?_
  refine W.sq ?_
  simp (config := { maxSteps := 1000000 }) only[go_sem, f1, f2, wn, aa]
  refine W.sq ?_
  simp (config := { maxSteps := 1000000 }) only[go_sem, hb, f0, f1, f2, f4, aa]
  refine aG.clo (hc _ fun H' hq => ⟨trivial, ?_⟩)
  simp (config := { maxSteps := 1000000 }) only[go_sem, aa]
  exact az.mk (hQ H' hq) (hK H' hq)
theorem Mm {v cv : AVal} {cs : List AVal} {n : Nat} {Q : AHeap → Prop} (h12 : n ≤ 12) (H : AHeap) (hQ : ∀ H', Q H' → H.next ≤ H'.next) (hv : aF 0 H 3 v cs) (hn : cs.length = n) (hc : ∀ K' : ARes → AHeap → Prop, (∀ H', Q H' → K' (.ret (.tup [])) H') → ah Tryd.prog G0 96 [v, ab 0, ab n, cv] H K')
    (K:ARes -> AHeap -> Prop) (hK:∀ H', Q H' -> K (.ret (.tup [])) H'):
    ah Tryd.prog G0 47 [v, cv] H K := by
  have wn:IntKind.u64.wrap ((n:Nat):Int) = (n:Int) := by simp [IntKind.wrap, IntKind.bits, IntKind.signed]; omega
  have w2 := QL (n:Int) (by omega)
  have go:∀ v:AVal, (v = .lit (.slice none 0 0) /\ n = 0 \/ ∃ id g cs, v = .own id g 0 n 1 /\ cs.length = n /\ H.live id g = some (3, cs)) -> (∀ K':ARes -> AHeap -> Prop, (∀ H', Q H' -> K' (.ret (.tup [])) H') -> ah Tryd.prog G0 96 [v, ab 0, ab n, cv] H K') -> ah Tryd.prog G0 47 [v, cv] H K := fun v hv hc => by
    rcases hv with ⟨rfl, rfl⟩ | ⟨id, g, cs, rfl, hcl2, lv⟩
    · refine ah.dP (n := 14) (rs := []) Tryd.func47 rfl rfl rfl (by decide) (by simp) ?_
      refine W.sq ?_
      simp (config := { maxSteps := 1000000 }) only[go_sem, aa]
      refine W.vs ?_
      simp (config := { maxSteps := 1000000 }) only[go_sem, wn, aa]
      refine aG.clo (Bm (n := 0) h12 H _ fun L hL => ⟨trivial, ?_⟩)
      simp (config := { maxSteps := 1000000 }) only[go_sem, aa]
      refine aG.clo (Bn h12 H hQ hc _ fun H' hq => ⟨trivial, ?_⟩)
      simp (config := { maxSteps := 1000000 }) only[go_sem, aa]
      exact az.mk (hQ H' hq) (hK H' hq)
    · refine ah.dP (n := 14) (rs := []) Tryd.func47 rfl rfl rfl (by decide) (by simp) ?_
      refine W.sq ?_
      simp (config := { maxSteps := 1000000 }) only[go_sem, lv, hcl2, aa]
      refine W.vs ?_
      simp (config := { maxSteps := 1000000 }) only[go_sem, wn, aa]
      refine aG.clo (Bm h12 H _ fun L hL => ⟨trivial, ?_⟩)
      simp (config := { maxSteps := 1000000 }) only[go_sem, aa]
      refine aG.clo (Bn h12 H hQ hc _ fun H' hq => ⟨trivial, ?_⟩)
      simp (config := { maxSteps := 1000000 }) only[go_sem, aa]
      exact az.mk (hQ H' hq) (hK H' hq)
  refine go v ?_ hc
  rcases hv with ⟨h1, h2⟩ | ⟨id, g, _, _, h3, h4⟩
  · rw[h2]at hn; exact .inl ⟨h1, hn.symm⟩
  · rw[hn]at h3; exact .inr ⟨id, g, cs, h3, hn, aq h4⟩
theorem Mn {v cv : AVal} {n : Nat} (h1 : n ≤ 1) (H : AHeap) (K : ARes → AHeap → Prop) (hK : K (.ret (.tup [])) H) :
    ah Tryd.prog G0 96 [v, ab 0, ab n, cv] H K := by
  have hb:¬ (1:Int) < (n:Int) := by omega
  refine ah.dP (n := 53) (rs := []) Tryd.func96 rfl rfl rfl (by decide) (by simp) ?_
  refine W.sq ?_
  simp (config := { maxSteps := 1000000 }) only[go_sem, aa]
  refine W.env fun E hE => ?_
  have e2:E 2 = ab n := by rw[hE]; simp (config := { maxSteps := 1000000 }) only[go_sem, aa]
  have e8:E 8 = ab 1 := by rw[hE]; simp (config := { maxSteps := 1000000 }) only[go_sem, aa]; rfl
  clear hE
  refine W.block ?_
  refine W.aR 9007199254737664 (by rfl) (fun ρ Hx => ρ 8 = ab 1 /\ Hx = H) (fun ρ Hx => 0) ?_ ?_
  · exact⟨e8, rfl⟩
  rintro ρ Hx ⟨h8, hHx⟩
  refine W.env fun E1 hE1 => ?_
  have f2:E1 2 = ab n := by rw[hE1]; simp (config := { maxSteps := 1000000 }) only[go_sem, e2, aa]
  have f8:E1 8 = ab 1 := by rw[hE1]; simp (config := { maxSteps := 1000000 }) only[go_sem, h8, aa]
  clear hE1
  rw[hHx]
  refine W.vs ?_
  simp (config := { maxSteps := 1000000 }) only[go_sem, f8, f2, hb, aa]
  exact az.mk (Nat.le_refl _) hK
end Go.Proofs
set_option linter.unusedVariables false
namespace Go.Proofs
theorem CJ {l:List Nat}{m i:Nat}(hi:l[m]? = some i)(a:Nat):a ∈ l.take (m + 1) ↔ a ∈ l.take m \/ a = i := by
  rw[List.take_add_one, hi]
  simp
theorem Po {l:List Nat}(hnd:l.Nodup){m i:Nat}(hi:l[m]? = some i):i ∉ l.take m := fun h => by
  obtain⟨j, hj⟩ := Q4.1 h
  have hjm:j < m := by
    have := get_lt hj
    rw[QV]at this
    omega
  rw[RD hjm]at hj
  have := (Sh (get_lt hj) hnd).1 (hj.trans hi.symm)
  omega
theorem Pp (least sp:Int)(c:List Int)(l:List Nat):dJ least sp c (fun a => decide (a ∈ l.take 0)) = (List.range c.length).map fun i => least + partAt sp c i := by
  unfold dJ
  refine Rm fun i _ => ?_
  simp
theorem Pq {least sp:Int}{c:List Int}{l:List Nat}(hnd:l.Nodup){m i:Nat}(hi:l[m]? = some i)(hic:i < c.length):(dJ least sp c fun a => decide (a ∈ l.take m))[i]? = some (least + partAt sp c i) := by
  rw[qp hic, RJ (Po hnd hi)]
  simp
theorem Pr {least sp:Int}{c:List Int}{l:List Nat}(hnd:l.Nodup){m i:Nat}(hi:l[m]? = some i)(hic:i < c.length):(dJ least sp c fun a => decide (a ∈ l.take m)).set i (least + partAt sp c i + 1) = dJ least sp c fun a => decide (a ∈ l.take (m + 1)) := by
  apply Q9
  intro a
  rw[Rg]
  by_cases h:i = a
  · subst h
    rw[QN rfl, QN (by rw[mD]; exact hic), qp hic, Rk ((CJ hi i).2 (.inr rfl))]
    simp
  · rw[QQ h]
    rcases Q3 a c.length with ha | ha
    · rw[qp ha, qp ha]
      congr 2
      have:(a ∈ l.take (m + 1)) ↔ a ∈ l.take m := by rw[CJ hi]; exact⟨fun h' => h'.elim id fun e => absurd e.symm h, .inl⟩
      simp only[this]
    · rw[QR (by rw[mD]; exact ha), QR (by rw[mD]; exact ha)]
theorem Ps {sp:Int}{c:List Int}(h:0 < c.sum){i:Nat}{x:Int}(hx:c[i]? = some x):partAt sp c i = sp * x / c.sum /\ cq sp c i = sp * x % c.sum := by
  unfold partAt cq ew cY
  rw[QN h, QN h, QM, hx]
  exact⟨rfl, rfl⟩
theorem Pt {sp:Int}{c:List Int}(h:¬ 0 < c.sum){i:Nat}(hi:i < c.length):partAt sp c i = sp / c.length /\ cq sp c i = sp % c.length := by
  unfold partAt cq ew cY
  rw[QQ h, QQ h, QM, SR, QN hi]
  simp
def gZ (sp:Int)(c:List Int)(k:Nat):Int := sp - ((List.range k).map (partAt sp c)).sum
theorem CK (sp:Int)(c:List Int)(k:Nat):gZ sp c (k + 1) = gZ sp c k - partAt sp c k := by
  unfold gZ
  rw[Sr, RN, TO]
  simp
  omega
theorem CL {sp:Int}{c:List Int}(hc:∀ x ∈ c, 0 <= x)(h0:0 < c.length)(hs:0 <= sp)(i:Nat):partAt sp c i <= sp := by
  have hT := oC h0
  refine Int.ediv_le_of_le_mul hT ?_
  have:(ew c).getD i 0 <= cY c := by
    rw[QM]
    cases e:(ew c)[i]? with
    | none => exact T9 hT
    | some a =>
      have := oE (Cy hc) a (an e)
      rw[Cx]at this
      exact this
  exact RV this hs
theorem Pu {sp:Int}{c:List Int}(hc:∀ x ∈ c, 0 <= x)(h0:0 < c.length)(hs:0 <= sp)(k:Nat):gZ sp c k <= sp /\ sp - sp * k <= gZ sp c k := by
  induction k with
  | zero => simp [gZ]
  | succ k ih =>
    rw[CK]
    have h1 := xL hc h0 hs k
    have h2 := CL hc h0 hs k
    have h3:sp * ((k + 1:Nat):Int) = sp * k + sp := by push_cast; rw[SZ, Um]
    omega
end Go.Proofs
namespace Go.Proofs
open Go.Hx
theorem Mo {id g n : Nat} {rs : List Int} (hn : rs.length = n) (hr : ∀ x ∈ rs, 0 ≤ x ∧ x < 1125899906842624) (hn6 : n ≤ 64) {T : Nat} (hT : ∀ i, i < n → 0 ≤ rs.getD i 0 ∧ rs.getD i 0 < T) {l : List Nat} (hl : ∀ a ∈ l, a < n) :
    Bl (.clo 48 [.own id g 0 n 1] []) (mF (fun i => rs.getD i 0) T n) l (fun Hx => Hx.get id = some (.arr g 3 (ints rs))) := by
  intro a b ha hb Hx hI
  have ha := hl a ha
  have hb := hl b hb
  obtain⟨x, hx⟩ := get_of_lt (l := rs) (i := a) (by omega)
  obtain⟨y, hy⟩ := get_of_lt (l := rs) (i := b) (by omega)
  have hxr := hr x (an hx)
  have hyr := hr y (an hy)
  have ex:rs.getD a 0 = x := by rw[QM, hx]; rfl
  have ey:rs.getD b 0 = y := by rw[QM, hy]; rfl
  have hxn := aM hx
  have hyn := aM hy
  have lv := aq hI
  have hil := aX rs
  rw[hn]at hil
  have bx:(a:Int) < n := by omega
  have by':(b:Int) < n := by omega
  have w1 := QL (y - x) (by omega)
  have w2 := QL ((a:Int) - (b:Int)) (by omega)
  refine⟨if x = y then (a:Int) - b else y - x, ?_, fun K hK => aG.clo ?_⟩
  · rw[CI hT ha hb]
    unfold before
    simp only[ex, ey]
    split <;> omega
  simp only[List.cons_append, List.nil_append, List.append_nil]
  refine ah.dP (n := 28) (rs := [.tmp 6]) Tryd.func48 rfl rfl rfl (by decide) (by simp) ?_
  refine W.sq ?_
  simp (config := { maxSteps := 1000000 }) only[go_sem, aa]
  refine W.seq (W.eH (fun s' => s'.H = Hx /\ s'.ρ 0 = .own id g 0 n 1 /\ s'.ρ 1 = ab a /\ s'.ρ 2 = ab b /\ s'.ρ 15 = .lit (.bool (!decide (x = y)))) ?_ ?_)
  · refine W.draw 8 [0, 0, 3, 7, 0, 0, 48, 112] Tryd.mixed (by kernel_rfl) (by kernel_rfl) ?_
    simp (config := { maxSteps := 1000000 }) only[go_sem, lv, hil, hx, hy, hxn, hyn, bx, by', aa]
  rintro⟨ρ, Hq⟩ ⟨hHq, q0, q1, q2, q15⟩
  simp only at hHq q0 q1 q2 q15
  rw[hHq]
  by_cases hxy:x = y
  · rw[QN hxy]at hK
    rw[Rk hxy]at q15
    refine W.cond (t := false) q15 ?_
    refine W.vs ?_
    simp (config := { maxSteps := 1000000 }) only[go_sem, q1, q2, w2, aa]
    refine W.vs ?_
    simp (config := { maxSteps := 1000000 }) only[go_sem, q1, q2, w2, aa]
    exact az.mk (Nat.le_refl _) hK
  · rw[QQ hxy]at hK
    rw[RJ hxy]at q15
    refine W.cond (t := true) q15 ?_
    refine W.seq ?_
    refine W.draw 8 [0, 0, 3, 7, 0, 0, 48, 112] Tryd.mixed (by kernel_rfl) (by kernel_rfl) ?_
    simp (config := { maxSteps := 1000000 }) only[go_sem, q0, q1, q2, lv, hil, hx, hy, hxn, hyn, bx, by', w1, aa]
    refine W.vs ?_
    simp (config := { maxSteps := 1000000 }) only[go_sem, aa]
    exact az.mk (Nat.le_refl _) hK
end Go.Proofs
