/- Own work: contracts. -/
import Derived.Test.YtikgmgmphkalkaaDoorConF
import Derived.Test.YtikgmgmphkalkaaDoorConC
import Derived.Test.YtikgmgmphkalkaaDoorConA
import Derived.Test.YtikgmgmphkalkaaDoorConE
import Derived.Test.YtikgmgmphkalkaaDoorConD
set_option linter.all false
set_option maxRecDepth 100000
namespace Go.Proofs
open Go.Hx
structure TopoR (ps:List Nat)(r:List Nat):Prop where
  len:r.length = ps.length
  nd:r.Nodup
  rng:∀ v ∈ r, v < ps.length
  rk:∀ (i v:Nat), r[i]? = some v -> ∀ u, (ps.getD v 0).testBit u = true -> ∃ j, j < i /\ r[j]? = some u
theorem OU:∀ (n:Nat) (l:List Nat), l.Nodup -> (∀ v ∈ l, v < n) -> l.length <= n := by
  intro n
  induction n with
  | zero => intro l _ h; cases l with
    | nil => simp
    | cons a l => exact absurd (h a (by simp)) (Q5 _)
  | succ n ih =>
    intro l hd h
    have h1 := ih (l.erase n) (hd.erase n) fun v hv => by
      have h2 := (hd.mem_erase_iff).1 hv
      have := h v h2.2
      omega
    have h3 := List.length_erase (a := n) (l := l)
    split at h3 <;> omega
def jz (r:List Nat)(i v:Nat):Prop := ∃ j, j < i /\ r[j]? = some v
theorem jz.up {r:List Nat}{i k v:Nat}(h:jz r i v)(hk:i <= k):jz r k v := h.imp fun j hj => ⟨by omega, hj.2⟩
structure DrD (ns:List NodeP)(r:List Nat)(rem:Bool)(i known decs:Nat)(os:List Nat)(ms:List NodeP):Prop where
  card:aA ms = aA ns
  old:∀ v, decs.testBit v = false -> ms[v]? = ns[v]?
  dec:∀ v x, ms[v]? = some x -> decs.testBit v = true -> x.rows = [] /\ ∃ s j, x.parents = gY s 8 /\ j < i /\ r[j]? = some v /\ ∀ u, s.testBit u = true -> jz r j u
  decsb:∀ v, decs.testBit v = true -> jz r i v
  knownb:∀ v, known.testBit v = true -> jz r i v
  os3:os.length <= 3
  osm:∀ v, v ∈ os ↔ decs.testBit v = true
  osp:rem = true -> os.Pairwise fun u v => ∀ x y, ms[u]? = some x -> ms[v]? = some y -> Sub (bV x.parents ||| 2 ^ u) (bV y.parents)
  osk:rem = true -> ∀ u ∈ os, ∀ x, ms[u]? = some x -> Sub (bV x.parents ||| 2 ^ u) known
theorem DrD.len {ns ms:List NodeP}{r os:List Nat}{rem:Bool}{i known decs:Nat}(h:DrD ns r rem i known decs os ms):ms.length = ns.length := by
  have := congrArg List.length h.card
  simpa [aA] using this
theorem DrD.start (ns:List NodeP)(r:List Nat)(rem:Bool):DrD ns r rem 0 0 0 [] ns :=
  ⟨rfl, fun _ _ => rfl, fun v x _ h => by simp at h, fun v h => by simp at h, fun v h => by simp at h, by simp, fun v => by simp, fun _ => .nil, fun _ u hu => by cases hu⟩
theorem DrD.skip {ns ms:List NodeP}{r os:List Nat}{rem:Bool}{i known decs:Nat}(h:DrD ns r rem i known decs os ms):DrD ns r rem (i + 1) known decs os ms :=
  ⟨h.card, h.old, fun v x hx hb => by
    obtain⟨a, s, j, b, c, d⟩ := h.dec v x hx hb
    exact⟨a, s, j, b, by omega, d⟩, fun v hb => (h.decsb v hb).up (by omega), fun v hb => (h.knownb v hb).up (by omega), h.os3, h.osm, h.osp, h.osk⟩
theorem Ck {s:Nat}(h:s < 2 ^ 8):bV (gY s 8) = s := by
  have h0:∀ p ∈ gY s 8, 0 <= p := fun p hp => by obtain⟨v, rfl, _⟩ := qk.1 hp; omega
  refine Sn fun i => ?_
  rw[kg h0]
  cases hb:s.testBit i with
  | true => exact Rk (qk.2 ⟨i, rfl, kh h hb, hb⟩)
  | false =>
    refine RJ fun hm => ?_
    obtain⟨v, e, _, hv⟩ := qk.1 hm
    obtain rfl:i = v := by omega
    rw[hb]at hv; cases hv
theorem Cl {r:List Nat}{n i v:Nat}(hr:∀ v ∈ r, v < n)(h:jz r i v):v < n := h.elim fun _ hj => hr v (an hj.2)
theorem Cm {r:List Nat}{n i s:Nat}(hr:∀ v ∈ r, v < n)(h:∀ v, s.testBit v = true -> jz r i v):s < 2 ^ n := tD fun v hv => Cl hr (h v hv)
theorem DrD.step {ns ms : List NodeP} {r os : List Nat} {rem : Bool} {i known decs : Nat} (h : DrD ns r rem i known decs os ms) (hr : TopoR (aW ns) r) (h8 : ns.length ≤ 8) (ho : os.length < 3) {v : Nat} (hv : r[i]? = some v) {x : NodeP} (hx : ns[v]? = some x) {s : Nat} (hs : Sub s (bV x.parents)) :
    decs.testBit v = false /\ v < ns.length /\ (if rem then s ||| known else s) < 2 ^ ns.length /\
    DrD ns r rem (i + 1) (known ||| (if rem then s ||| known else s) ||| 2 ^ v) (decs ||| 2 ^ v) (os ++ [v]) (ms.set v ⟨x.card, gY (if rem then s ||| known else s) 8, []⟩) := by
  obtain⟨s', hs'⟩:∃ s', s' = (if rem then s ||| known else s) := ⟨_, rfl⟩
  rw[<- hs']
  have hsl:(aW ns).length = ns.length := by simp [aW]
  have hrng := hr.rng
  rw[hsl]at hrng
  have hvn := hrng v (an hv)
  have hml := h.len
  have inj:∀ j, r[j]? = some v -> j = i := fun j hj => (Sh (get_lt hj) hr.nd).1 (by rw[hj, hv])
  have hdv:decs.testBit v = false := by
    cases hb:decs.testBit v with
    | false => rfl
    | true =>
      obtain⟨j, j1, j2⟩ := h.decsb v hb
      have := inj j j2
      omega
  have sb:∀ u, s.testBit u = true -> jz r i u := fun u hu => hr.rk i v hv u (by rw[aH (lS hx)]; exact hs u hu)
  have sb':∀ u, s'.testBit u = true -> jz r i u := fun u hu => by
    rw[hs']at hu
    cases rem with
    | false => exact sb u hu
    | true =>
      rw[QN rfl, Sg, RE]at hu
      exact hu.elim (sb u) (h.knownb u)
  have hlt := Cm hrng sb'
  have hlt8:s' < 2 ^ 8 := QU hlt (Rb (by decide) h8)
  have selfv:(ms.set v ⟨x.card, gY s' 8, []⟩)[v]? = some ⟨x.card, gY s' 8, []⟩ := Rj (by omega)
  have othv:∀ u, u ≠ v -> (ms.set v ⟨x.card, gY s' 8, []⟩)[u]? = ms[u]? := fun u hu => Rl (fun e => hu e.symm)
  have osv:v ∉ os := fun hm => by rw[(h.osm v).1 hm]at hdv; cases hdv
  refine⟨hdv, hvn, hlt, ⟨?_, fun u hu => ?_, fun u y hy hu => ?_, fun u hu => ?_, fun u hu => ?_, by simp; omega, fun u => ?_, fun hrem => ?_, fun hrem u hu y hy => ?_⟩⟩
  · rw[<- h.card]
    unfold aA
    rw[Tf]
    apply Q9
    intro k
    rw[Rg]
    split
    · rename_i e
      subst e
      have := h.card
      have h1:(aA ms)[v]? = (aA ns)[v]? := by rw[this]
      rw[QN (by rw[QX]; omega)]
      rw[da hx]at h1
      exact h1.symm
    · rfl
  · rw[eN, Uc, RH]at hu
    rw[othv u (fun e => hu.2 e.symm)]
    exact h.old u hu.1
  · by_cases e:u = v
    · subst e
      rw[selfv]at hy
      cases hy
      exact⟨rfl, s', i, rfl, by omega, hv, sb'⟩
    · rw[othv u e]at hy
      rw[eN, RE, decide_eq_true_eq]at hu
      obtain⟨a, s2, j, b, c, d⟩ := h.dec u y hy (hu.resolve_right fun e' => e e'.symm)
      exact⟨a, s2, j, b, by omega, d⟩
  · rw[eN, RE, decide_eq_true_eq]at hu
    rcases hu with hu | rfl
    · exact(h.decsb u hu).up (by omega)
    · exact⟨i, by omega, hv⟩
  · rw[eN, Sg, RE, RE, decide_eq_true_eq]at hu
    rcases hu with (hu | hu) | rfl
    · exact(h.knownb u hu).up (by omega)
    · exact(sb' u hu).up (by omega)
    · exact⟨i, by omega, hv⟩
  · rw[eN, Q1, List.mem_singleton, h.osm, RE, decide_eq_true_eq]
    exact or_congr Iff.rfl eq_comm
  · refine SG.2 ⟨(h.osp hrem).imp_of_mem fun {a b} ha hb hab p q hp hq => ?_, by simp, fun a ha b hb p q hp hq => ?_⟩
    · rw[othv a (fun e => osv (e ▸ ha))]at hp
      rw[othv b (fun e => osv (e ▸ hb))]at hq
      exact hab p q hp hq
    · obtain rfl := List.mem_singleton.1 hb
      rw[othv a (fun e => osv (e ▸ ha))]at hp
      rw[selfv]at hq
      cases hq
      rw[show bV (⟨x.card, gY s' 8, []⟩:NodeP).parents = s' from Ck hlt8, hs', QN hrem]
      exact(h.osk hrem a ha p hp).trans (Sub.right _ _)
  · rcases Q1.1 hu with hu | hu
    · rw[othv u (fun e => osv (e ▸ hu))]at hy
      exact((h.osk hrem u hu y hy).trans (Sub.left _ _)).trans (Sub.left _ _)
    · obtain rfl := List.mem_singleton.1 hu
      rw[selfv]at hy
      cases hy
      rw[show bV (⟨x.card, gY s' 8, []⟩:NodeP).parents = s' from Ck hlt8]
      exact Sub.or ((Sub.right known s').trans (Sub.left _ _)) (Sub.right _ _)
structure DrI (rem:Bool)(d:InfP):Prop where
  ok:InfOk d
  n5:d.nodes.length <= 5
  rows:∀ v x, d.nodes[v]? = some x -> d.decs.testBit v = false -> x.rows ≠ []
  os:∃ os:List Nat, os.length <= 3 /\ (∀ v, v ∈ os ↔ d.decs.testBit v = true) /\ (rem = true -> os.Pairwise fun u v => ∀ x y, d.nodes[u]? = some x -> d.nodes[v]? = some y -> Sub (bV x.parents ||| 2 ^ u) (bV y.parents))
theorem OV {g:Int}{ns:List NodeP}(h:NetOk g ns):∀ x ∈ ns, x.rows ≠ [] := fun x hx he => by
  have h1 := (h.rows x hx).1
  have h2 := oq (l := aO ns x) fun c hc => (qv (fun q hq => by have := (h.node x hx).2.2 q hq; omega) (fun y hy => (h.node y hy).1) c hc).1
  rw[he]at h1
  simp at h1
  omega
theorem DrD.fin {g : Int} {ns ms : List NodeP} {r os : List Nat} {rem : Bool} {i known decs : Nat} (h : DrD ns r rem i known decs os ms) (hn : NetOk g ns) (hr : TopoR (aW ns) r) (h5 : ns.length ≤ 5) {us : List UtilP} (hul : us.length ≤ 4) (hus : ∀ u ∈ us, UtilOk ns u) :
    DrI rem ⟨g, ms, decs, us⟩ := by
  have hsl:(aW ns).length = ns.length := by simp [aW]
  have hrng := hr.rng
  rw[hsl]at hrng
  have hml := h.len
  have hdl:decs < 2 ^ ns.length := Cm hrng h.decsb
  have getN:∀ (v:Nat) (x:NodeP), ms[v]? = some x -> ∃ y, ns[v]? = some y /\ y.card = x.card := fun v x hx => by
    obtain⟨y, hy⟩ := get_of_lt (l := ns) (i := v) (by have := get_lt hx; omega)
    refine⟨y, hy, ?_⟩
    have h1:(aA ms)[v]? = (aA ns)[v]? := by rw[h.card]
    rw[da hx, da hy]at h1
    exact(Option.some.inj h1).symm
  have hcard:∀ x ∈ ms, 1 <= x.card /\ x.card <= 4 := fun x hx => by
    obtain⟨v, hv⟩ := Q4.1 hx
    obtain⟨y, hy, e⟩ := getN v x hv
    rw[<- e]
    exact(hn.node y (an hy)).1
  have hpl:∀ (v:Nat) (x:NodeP), ms[v]? = some x -> cD x.parents ms.length := fun v x hx => by
    cases hb:decs.testBit v with
    | false =>
      rw[h.old v hb]at hx
      have := (hn.node x (an hx)).2
      rw[hml]; exact this
    | true =>
      obtain⟨_, s, j, e, _, _, hs⟩ := h.dec v x hx hb
      rw[e]
      refine⟨O4 _ _, fun q hq => ?_⟩
      obtain⟨u, rfl, _, hu⟩ := qk.1 hq
      have := Cl hrng (hs u hu)
      rw[hml]
      omega
  have hR:RightN ⟨g, ms, decs, us⟩ := ⟨by show 1 <= ms.length /\ ms.length <= 8; rw[hml]; exact hn.n1, by show decs >>> ms.length = 0; rw[hml, Sl]; exact TK hdl, hcard, fun v x hx hb => ⟨(h.dec v x hx hb).1, hpl v x hx⟩⟩
  have hperm:IsPerm ns.length (dh r) := ⟨by rw[show (dh r).length = r.length by simp [dh], hr.len, hsl], by
    unfold dh
    exact List.Pairwise.map _ (R := (· ≠ ·)) (fun a b h e => h (by omega)) hr.nd, fun q hq => by
    obtain⟨v, hv, rfl⟩ := Q6.1 hq
    have := hrng v hv
    omega⟩
  have natg:∀ (j v:Nat), (dh r)[j]? = some (v:Int) ↔ r[j]? = some v := fun j v => by
    unfold dh
    rw[List.getElem?_map, QJ]
    exact⟨fun ⟨a, h1, h2⟩ => by rw[h1]; congr 1; omega, fun h1 => ⟨v, h1, rfl⟩⟩
  have hacy:gX (aW ms) := by
    refine OZ (P := dh r) (by rw[hml]; exact hperm) (fun v hv => ?_) fun j v x hj hx q hq => ?_
    · refine Re fun hno => ?_
      rw[hml]at hv
      have hsub:(v :: r).length <= ns.length := by
        have hnd:(v :: r).Nodup := S6.2 ⟨fun hm => hno (Q6.2 ⟨v, hm, rfl⟩), hr.nd⟩
        exact OU ns.length _ hnd fun u hu => by
          rcases List.mem_cons.1 hu with rfl | hu
          · exact hv
          · exact hrng u hu
      rw[List.length_cons, hr.len, hsl]at hsub
      omega
    · have q0 := ((hpl v x hx).2 q hq).1
      refine⟨q0, ?_⟩
      have hj' := (natg j v).1 hj
      obtain⟨u, rfl⟩ := Rf q0
      cases hb:decs.testBit v with
      | false =>
        rw[h.old v hb]at hx
        obtain⟨k, k1, k2⟩ := hr.rk j v hj' u (by
          rw[aH (lS hx), kg fun p hp => ((hn.node x (an hx)).2.2 p hp).1]
          exact Rk hq)
        exact⟨k, k1, (natg k u).2 k2⟩
      | true =>
        obtain⟨_, s, j', e, _, hj2, hs⟩ := h.dec v x hx hb
        rw[e]at hq
        obtain⟨u', eu, _, hu⟩ := qk.1 hq
        obtain rfl:u = u' := by omega
        obtain rfl:j' = j := (Sh (get_lt hj2) hr.nd).1 (by rw[hj2, hj'])
        obtain⟨k, k1, k2⟩ := hs u hu
        exact⟨k, k1, (natg k u).2 k2⟩
  have hpc:∀ x, aO ms x = aO ns x := fun x => by unfold aO; rw[h.card]
  refine⟨⟨hR, ⟨hn.g1, by rw[xM]; exact hR.n1, fun y hy => ?_, ?_, by rw[Py]; exact hacy, fun y hy => ?_⟩, hul, fun u hu => ?_⟩, by show ms.length <= 5; omega, fun v x hx hb => ?_, os, h.os3, h.osm, h.osp⟩
  · obtain⟨v, x, hx, rfl⟩ := CN hy
    rw[(xz ..).1, (xz ..).2, xM]
    exact⟨hcard x (an hx), hpl v x hx⟩
  · rw[CM]
    show aQ (aA ms) <= 1024
    rw[h.card]
    exact hn.size
  · obtain⟨v, x, hx, rfl⟩ := CN hy
    have hcx := hcard x (an hx)
    have hx':ms[v]? = some x := hx
    unfold fK
    rw[Px]
    by_cases hb:decs.testBit v = true
    · rw[PA hx hb]
      have x1 := (hR.dec v x hx hb).1
      have hsm := (tM (x := x) (ns := ms) hR.n1.2 (hpl v x hx) hcard).prod
      refine⟨?_, fun q hq => ?_⟩
      · show ((x.rows ++ mA g ms (fun _ _ => 0) _ x).length:Int) = aQ (aO ms x)
        rw[x1]
        simp only[mA, List.nil_append, QX, Rw, xw]
        omega
      · rw[show ({ x with rows := x.rows ++ mA g ms (fun _ _ => 0) (lK decs v) x }:NodeP).rows = x.rows ++ mA g ms (fun _ _ => 0) (lK decs v) x from rfl, x1, List.nil_append]at hq
        unfold mA at hq
        obtain⟨i, hi, rfl⟩ := Q6.1 hq
        have := hn.g1
        exact Pv (by show 0 <= g; omega) ⟨Int.le_refl 0, by show (0:Int) < x.card; omega⟩
    · rw[PD hb]
      have hb':decs.testBit v = false := by simpa using hb
      rw[h.old v hb']at hx'
      have := hn.rows x (an hx')
      unfold fK at this
      show (x.rows.length:Int) = aQ (aO ms x) /\ _
      rw[hpc]
      exact this
  · have := hus u hu
    exact⟨by show cD u.vars ms.length; rw[hml]; exact this.vars, by show _ = aQ (aI (aA ms) u.vars); rw[h.card]; exact this.size, this.w⟩
  · have hx':ms[v]? = some x := hx
    rw[h.old v hb]at hx'
    exact OV hn x (an hx')
structure D20 where
  g:Int
  ps:List DrP
  ord:List Int
  decs:Int
  rem:Bool
  us:List UtD
structure D20.Ok (d:D20):Prop where
  g:U8 d.g
  ps:∀ x ∈ d.ps, x.Ok
  pl:(d.ps.length:Int) < 2 ^ 63
  ol:(d.ord.length:Int) < 2 ^ 63
  o8:∀ x ∈ d.ord, U8 x
  decs:U8 d.decs
  us:∀ u ∈ d.us, u.Ok
  ul:(d.us.length:Int) < 2 ^ 63
def OW (us:List UtD):List AVal := (us.map UtD.cells).flatten
def D20.cells (d:D20):List AVal := [.lit (.int .u8 d.g), .vec d.ps.length (Cn d.ps), .vec d.ord.length (dA d.ord), .lit (.int .u8 d.decs), .lit (.bool d.rem), .vec d.us.length (OW d.us)]
theorem OX {l:List NodeP}(h:∀ x ∈ l, x.rows ≠ []):dY l = aK l := by
  unfold dY aK
  congr 1
  exact Rm fun x hx => by unfold NodeP.jc NodeP.cells; rw[Ci (h x hx)]
end Go.Proofs
namespace Go.Hx
open Go.Proofs.R01 (pureRun_bind)
variable {P:Program} {t e:TypeId} {x y:Operand} {k k':IntKind} {a b c d:Int}
end Go.Hx
namespace Go.Proofs
open Go.Hx
end Go.Proofs
namespace Go.Hx
variable {P:Program} {G:Nat -> Option (List AVal)}
inductive FzL (S:Nat -> Prop)(H:AHeap)(nx:Nat):List AVal -> List AVal -> Prop
  | nil:FzL S H nx [] []
  | cons {a a':AVal} {l l':List AVal} (h:Fz S H nx a a') (t:FzL S H nx l l'):FzL S H nx (a :: l) (a' :: l')
theorem FzL.len {S:Nat -> Prop}{H:AHeap}{nx:Nat}{l l':List AVal}(h:FzL S H nx l l'):l'.length = l.length := by
  induction h with
  | nil => rfl
  | cons _ _ ih => rw[List.length_cons, List.length_cons, ih]
theorem FzL.at {S:Nat -> Prop}{H:AHeap}{nx:Nat}{l l':List AVal}(h:FzL S H nx l l'):∀ i (h:i < l.length) (h':i < l'.length), Fz S H nx l[i] l'[i] := by
  induction h with
  | nil => intro i h; exact absurd h (Q5 _)
  | cons h _ ih =>
    intro i h1 h2
    cases i with
    | zero => exact h
    | succ i => exact ih i (by simpa using h1) (by simpa using h2)
theorem FzL.agg {S:Nat -> Prop}{H:AHeap}{nx:Nat}{l l':List AVal}(h:FzL S H nx l l'):Fz S H nx (.agg l) (.agg l') := .agg h.len h.at
theorem FzL.tup {S:Nat -> Prop}{H:AHeap}{nx:Nat}{l l':List AVal}(h:FzL S H nx l l'):Fz S H nx (.tup l) (.tup l') := .tup h.len h.at
theorem FzL.own {S:Nat -> Prop}{H:AHeap}{nx id g l z:Nat}{e:TypeId}{cells c':List AVal}(hS:S id)(hg:H.get id = some (.arr g e cells))(hl:cells.length = l * z)(h:FzL S H nx cells c'):Fz S H nx (.own id g 0 l z) (.vec l c') := by
  refine .frz hS hg (by rw[h.len, hl]) fun i hi h2 h' => ?_
  have e0:0 + i = i := Nat.zero_add i
  simpa only[e0] using h.at i (by omega) h'
theorem aG.Qv {H:AHeap}{f:FuncId}{args args':List AVal}{K:ARes -> AHeap -> Prop}(n:Nat)(hG:el G)(hv:FzL (fun id => n <= id) H H.next args args')(h:ah P G f args' (H.cut n) K):aG P G (.clo f [] []) args H K :=
  aG.clo (by simpa using ah.Jm n hG hv.len (fun i h1 h2 => hv.at i h1 h2) h)
theorem aG.Qw {B H:AHeap}{f:FuncId}{args args':List AVal}{K:ARes -> AHeap -> Prop}(hG:el G)(ho:Over B H)(hv:FzL (fun id => B.next <= id) H H.next args args')(h:∀ H', Over B H' -> ah P G f args' H' K):aG P G (.clo f [] []) args H K :=
  aG.Qv B.next hG hv (h _ ho.cut)
end Go.Hx
namespace Go.Proofs
open Go.Hx
def D25.whole (d:D25):D25 := ⟨d.cards, d.cases, d.follow, []⟩
theorem D25.B9 {d:D25}(h:d.Ok):d.whole.Ok := ⟨h.cl, h.c8, h.xl, h.x8, h.f8, by simp [D25.whole], by simp [D25.whole]⟩
theorem xe {S:Nat -> Prop}{H:AHeap}{nx n:Nat}{l:List AVal}(h:∀ c ∈ l, ∃ v, c = .lit v):Fz S H nx (.vec n l) (.vec n l) :=
  .vec rfl fun i h1 _ => by
    have key:∀ c, c ∈ l -> Fz S H nx c c := fun c hc => by obtain⟨v, rfl⟩ := h c hc; exact .lit _
    exact key _ (Rz h1)
theorem On (ns:List NodeP):(aK ns).all AVal.one = true := by
  rw[Rd]
  intro c hc
  unfold aK at hc
  obtain⟨r, hr, hc⟩ := R8.1 hc
  obtain⟨x, _, rfl⟩ := Q6.1 hr
  unfold NodeP.cells at hc
  simp only[List.mem_cons, List.not_mem_nil, or_false]at hc
  rcases hc with rfl | rfl | rfl <;> rfl
theorem Oo (d:D25)(hd:d.Ok)(H:AHeap)(K:ARes -> AHeap -> Prop)(hK:K (.ret (dT (bU d) (eJ d))) H):ah Tryd.prog G0 32 [.agg d.cells] H K := by
  refine ah.clo ⟨_, Tryd.func32, rfl, rfl⟩ fun hcl => ?_
  refine ah.cu (n := 6) (rs := [.cell 2 50]) Tryd.func32 rfl rfl rfl (by decide) (by kernel_rfl) (by simp) ?_
  simp (config := { maxSteps := 1000000 }) only[go_sem, D25.cells, aa]
  have fzD:∀ (Hq:AHeap) (i:Nat) (h:i < [AVal.agg [.vec d.cards.length (dA d.cards), .vec d.cases.length (jX d.cases), .lit (.int .u8 d.follow), .lit (.slice none 0 0)]].length) (h':i < [AVal.agg d.whole.cells].length), Fz (fun _ => False) Hq Hq.next [AVal.agg [.vec d.cards.length (dA d.cards), .vec d.cases.length (jX d.cases), .lit (.int .u8 d.follow), .lit (.slice none 0 0)]][i] [AVal.agg d.whole.cells][i] := fun Hq i h h' =>
    match i, h with
    | 0, _ => .agg rfl fun i hi _ => match i, hi with
      | 0, _ => xe fun c hc => by unfold dA at hc; obtain⟨x, _, rfl⟩ := Q6.1 hc; exact⟨_, rfl⟩
      | 1, _ => xe fun c hc => by
        unfold jX at hc
        obtain⟨l, hl, hc⟩ := R8.1 hc
        obtain⟨r, _, rfl⟩ := Q6.1 hl
        unfold dA at hc
        obtain⟨x, _, rfl⟩ := Q6.1 hc
        exact⟨_, rfl⟩
      | 2, _ => .lit _
      | 3, _ => .nil
  refine aG.clo (ah.Qu (args' := [.agg d.whole.cells]) bz rfl (fzD _) (LV d.whole (D25.B9 hd) _ _ ⟨trivial, ?_⟩))
  rw[show dT (bU d.whole) (js d.whole) = dT (bU d) (eJ d) from rfl]
  simp (config := { maxSteps := 1000000 }) only[go_sem, dT, aD, aa]
  exact az.cC (v' := dT (bU d) (eJ d)) bz hcl (.ext _ _) (wC (.ik _) (xC _)) hK
theorem Oq {d:D25}(hd:d.Ok):∀ r ∈ eJ d, dq (bU d) r := fun r hr => by
  unfold eJ at hr
  obtain⟨q, hq, rfl⟩ := Q6.1 hr
  have hq8 := (hd.x8 q (Rs hq)).2
  refine⟨jZ .., fun k c v hc hv => ?_⟩
  have := tc (pW d) (f := d.follow) (raw := q) (fun x hx => (hq8 x hx).1) _ k v hv
  rw[aH hc]at this
  exact this
theorem Ot {cs:List Int}(hc:∀ c ∈ cs, 1 <= c)(xs:List (List Int)){ps:List Nat}(hl:ps.length = cs.length):∃ ns, dC cs xs ps 60 0 0 ps.length ns := by
  refine⟨(List.range ps.length).map fun v => (⟨cs.getD v 0, bK ps.length (ps.getD v 0), (List.range (aQ (aI cs (bK ps.length (ps.getD v 0)))).toNat).map fun j => if h:0 < (cR cs (bK ps.length (ps.getD v 0)) v xs 0 j).length then Classical.choose (BK 0 (cZ 60 0 (cR cs (bK ps.length (ps.getD v 0)) v xs 0 j)) h) else []⟩:NodeP), by simp, fun v s x hs hx => ?_⟩
  have hv := get_lt hs
  rw[List.getElem?_map, RO hv]at hx
  obtain rfl := Option.some.inj hx
  simp only[aH hs]
  obtain⟨c, hcv⟩ := get_of_lt (l := cs) (i := v) (by omega)
  have hc1 := hc c (an hcv)
  refine⟨rfl, rfl, ?_, fun j r hj => ?_⟩
  · have := oq (l := aI cs (bK ps.length s)) fun c hcm => by
      obtain⟨q, hq, rfl⟩ := Q6.1 hcm
      have := pY q hq
      obtain⟨d, hd⟩ := get_of_lt (l := cs) (i := q.toNat) (by omega)
      rw[aH hd]; exact hc d (an hd)
    show (((List.range _).map _).length:Int) = _
    rw[QX, Rw]; omega
  · have hjl := get_lt hj
    rw[QX, Rw]at hjl
    rw[List.getElem?_map, RO hjl]at hj
    obtain rfl := Option.some.inj hj
    have hp:0 < (cR cs (bK ps.length s) v xs 0 j).length := by rw[oe, aH hcv]; omega
    simp only[dif_pos hp]
    exact Classical.choose_spec (BK 0 (cZ 60 0 (cR cs (bK ps.length s) v xs 0 j)) hp)
theorem Ou (ns:List NodeP)(ht:(ns.length:Int) < 2 ^ 36)(h0:0 < ns.length)(H:AHeap)(K:ARes -> AHeap -> Prop)(hK:K (.ret (.own H.next 1 0 ns.length 3)) (ext H [.arr 1 91 (aK ns)])):ah Tryd.prog G0 34 [.vec ns.length (aK ns)] H K := by
  refine ah.cu (n := 8) (rs := [.tmp 2]) Tryd.func34 rfl rfl rfl (by decide) (by kernel_rfl) (by simp) ?_
  simp (config := { maxSteps := 1000000 }) only[go_sem, aa]
  intro b hlen
  cases b with
  | true => exact absurd (hlen (by simpa using h0)) (by decide)
  | false =>
    have hn:¬ ns.length = 0 := by omega
    simp (config := { maxSteps := 1000000 }) only[go_sem, hn, aa]
    exact⟨iy ns, ⟨by simp, by omega, by omega, On ns⟩, az.mk (by simp [dk]) (by simpa using hK)⟩
theorem Ol {ns ms : List NodeP} {z : NodeP} (hms : ms = ns ++ [z]) {A R a b : Nat} {x : NodeP} {q : List Int} (hx : ns[A]? = some x) (hq : x.rows[R]? = some q) (hne : ∀ y ∈ ns, y.rows ≠ []) :
    aK (cf ns A x R a b) = (dm ms A (ab x.card) (ag x.parents) (aD (x.rows.set R (dn q a b)))).take (ns.length * 3) := by
  have hx':lE x R a b = ⟨x.card, x.parents, x.rows.set R (dn q a b)⟩ := by unfold lE; rw[aH hq]
  have hr':x.rows.set R (dn q a b) ≠ [] := fun e => by
    have h1 := congrArg List.length e
    rw[Q8, List.length_nil]at h1
    have := get_lt hq
    omega
  have hA := get_lt hx
  have hl := lL ns
  have hne':∀ y ∈ cf ns A x R a b, y.rows ≠ [] := fun y hy => by
    unfold cf at hy
    rcases Ru hy with hy | hy
    · exact hne y hy
    · rw[hy, hx']; exact hr'
  rw[<- OX hne']
  unfold cf
  rw[OM hx ⟨by rw[hx'], by rw[hx']⟩, hx', Ci hr']
  unfold dm
  rw[hms, xA, SF _ _ (by omega), SF _ _ (by rw[Q8]; omega), SF _ _ (by rw[Q8, Q8]; omega), tK (ox hx), tK (qh hx), List.take_left' (by rw[Q8]; exact hl)]
  unfold setAt
  rw[SQ (l := dY ns), QN (by omega)]
  simp
theorem B8 {ns:List NodeP}(h:NetOk 60 ns){xs:List (List Int)}:∀ w ∈ bg ns xs, 0 <= w /\ w <= 60 := fun w hw => by
  unfold bg at hw
  obtain⟨l, hl, hwl⟩ := R8.1 hw
  obtain⟨r, hrm, rfl⟩ := Q6.1 hl
  unfold df at hwl
  obtain⟨v, hv, rfl⟩ := Q6.1 hwl
  obtain⟨x, hx⟩ := get_of_lt (QW.1 hv)
  rw[om hx, QM, QM]
  cases hq:x.rows[(dD (aO ns x) (aI r x.parents)).toNat]? with
  | none => simp
  | some q =>
    simp only[Option.getD_some]
    cases hz:q[(r.getD v 0).toNat]? with
    | none => simp
    | some z => exact((h.rows x (an hx)).2 q (an hq)).2.1 z (an hz)
set_option maxHeartbeats 8000000 in
theorem Om (d : D25) (hd : d.Ok) (pn : Nat) (ord : List Int) (ed : Nat) (ho : ord.length = 6) (ho8 : ∀ x ∈ ord, U8 x) (he : ed < 65536) (node row fr to : Int) (h0 : U8 node) (h1 : U8 row) (h2 : U8 fr) (h3 : U8 to) (H : AHeap) (K : ARes → AHeap → Prop) (hK : ∀ H', H.next ≤ H'.next → K (.ret (.lit (.bool true))) H') :
    ah Tryd.prog G0 6 [.agg d.cells, .agg (dW pn ord ed), .lit (.int .u8 node), .lit (.int .u8 row), .lit (.int .u8 fr), .lit (.int .u8 to)] H K := by
  obtain⟨DC, hDC⟩:∃ DC, DC = d.cells := ⟨_, rfl⟩
  have dcl:DC.length = 4 := by rw[hDC]; rfl
  obtain⟨PC, hPC⟩:∃ PC, PC = dW pn ord ed := ⟨_, rfl⟩
  have pcl:PC.length = 8 := by rw[hPC]; unfold dW; simp [jU, ho]
  rw[<- hDC, <- hPC]
  obtain⟨cs, hcs⟩:∃ cs, cs = bU d := ⟨_, rfl⟩
  obtain⟨ys, hys⟩:∃ xs, xs = eJ d := ⟨_, rfl⟩
  have cl5 := wH d
  have hdok := NP (D25.B9 hd)
  have crng := pW d
  have hyf := Oq hd
  have hyl := (wI (d := d)).1
  rw[show bU d.whole = bU d from rfl, show js d.whole = eJ d from rfl]at hdok
  rw[<- hcs]at cl5 hdok crng hyf
  rw[<- hys]at hdok hyf hyl
  obtain⟨xs, hxs⟩:∃ xs, xs = ys.take 6 := ⟨_, rfl⟩
  have hx6:xs.length <= 6 := by rw[hxs, QV]; omega
  have hxf:∀ r ∈ xs, dq cs r := fun r hr => hyf r (by rw[hxs]at hr; exact Rs hr)
  have hxd:DataOk cs xs := ⟨hdok.c1, by omega, hdok.card, hdok.size, fun r hr => hdok.row r (by rw[hxs]at hr; exact Rs hr)⟩
  refine ah.dP (n := 154) (rs := [.tmp 12]) Tryd.func6 rfl rfl rfl (by decide) (by simp) ?_
  refine W.sq ?_
  simp (config := { maxSteps := 1000000 }) only[go_sem, aa]
  obtain⟨H1, hH1⟩:∃ H1, H1 = ext H [.arr 0 37 DC, .arr 0 43 PC] := ⟨_, rfl⟩
  have n1:H1.next = H.next + 2 := by rw[hH1]; rfl
  have b0:H1.get H.next = some (.arr 0 37 DC) := by rw[hH1]; exact ez ..
  have b1:H1.get (H.next + 1) = some (.arr 0 43 PC) := by rw[hH1]; exact bP H _ 1 (by simp)
  refine W.env fun E hE => ?_
  have e2:E 2 = .lit (.int .u8 node) := by rw[hE]; simp (config := { maxSteps := 1000000 }) only[go_sem, aa]
  have e3:E 3 = .lit (.int .u8 row) := by rw[hE]; simp (config := { maxSteps := 1000000 }) only[go_sem, aa]
  have e4:E 4 = .lit (.int .u8 fr) := by rw[hE]; simp (config := { maxSteps := 1000000 }) only[go_sem, aa]
  have e5:E 5 = .lit (.int .u8 to) := by rw[hE]; simp (config := { maxSteps := 1000000 }) only[go_sem, aa]
  have e6:E 6 = .ptr H.next 0 0 := by rw[hE]; simp (config := { maxSteps := 1000000 }) only[go_sem, aa]
  have e7:E 7 = .ptr (H.next + 1) 0 0 := by rw[hE]; simp (config := { maxSteps := 1000000 }) only[go_sem, aa]
  clear hE
  show W _ _ _ _ _ _ ⟨E, ext H [.arr 0 37 DC, .arr 0 43 PC]⟩
  rw[<- hH1]
  clear hH1
  refine W.seq ?_
  refine W.vs ?_
  simp (config := { maxSteps := 1000000 }) only[go_sem, aa]
  refine aG.clo (Qs _ _ ⟨trivial, ?_⟩)
  simp (config := { maxSteps := 1000000 }) only[go_sem, aa]
  have l0 := aq b0
  have dt:DC.take 4 = DC := QP (by omega)
  refine W.sq ?_
  simp (config := { maxSteps := 1000000 }) only[go_sem, e6, l0, dcl, dt, aa]
  rw[hDC]
  refine aG.clo (Oo d hd H1 _ ⟨trivial, ?_⟩)
  rw[<- hDC, <- hcs, <- hys]
  simp (config := { maxSteps := 1000000 }) only[go_sem, dT, aD, aa]
  obtain⟨H2, hH2⟩:∃ H2, H2 = ext H1 [.arr 0 50 [.vec cs.length (ints cs), .vec ys.length (ys.map ag)]] := ⟨_, rfl⟩
  have n2:H2.next = H1.next + 1 := by rw[hH2]; rfl
  have o2:Over H1 H2 := by rw[hH2]; exact .ext _ _
  have gd:H2.get H1.next = some (.arr 0 50 [.vec cs.length (ints cs), .vec ys.length (ys.map ag)]) := by rw[hH2]; exact cQ
  have ld := aq gd
  have l2 := aq ((o2.old (H.next + 1) (by omega)).trans b1)
  refine W.env fun E1 hE1 => ?_
  have f2:E1 2 = .lit (.int .u8 node) := by rw[hE1]; simp (config := { maxSteps := 1000000 }) only[go_sem, e2, aa]
  have f3:E1 3 = .lit (.int .u8 row) := by rw[hE1]; simp (config := { maxSteps := 1000000 }) only[go_sem, e3, aa]
  have f4:E1 4 = .lit (.int .u8 fr) := by rw[hE1]; simp (config := { maxSteps := 1000000 }) only[go_sem, e4, aa]
  have f5:E1 5 = .lit (.int .u8 to) := by rw[hE1]; simp (config := { maxSteps := 1000000 }) only[go_sem, e5, aa]
  have f7:E1 7 = .ptr (H.next + 1) 0 0 := by rw[hE1]; simp (config := { maxSteps := 1000000 }) only[go_sem, e7, aa]
  have f13:E1 13 = .ptr H1.next 0 0 := by rw[hE1]; simp (config := { maxSteps := 1000000 }) only[go_sem, aa]
  clear hE1
  rw[<- hH2]
  clear hH2
  refine W.sq ?_
  have hmn:(if (6:Int) < ys.length then 6 else (ys.length:Int)) = (xs.length:Int) := by rw[hxs, QV]; split <;> omega
  have htx:ys.take xs.length = xs := by
    rw[hxs, QV]
    rcases T4 6 ys.length with h | h
    · rw[SP h]
    · rw[TJ h, QP (Nat.le_refl _), QP h]
  have htk:List.take xs.length (ys.map ag) = xs.map ag := by rw[<- List.map_take, htx]
  simp (config := { maxSteps := 1000000 }) only[go_sem, f13, ld, hmn, htk, aa]
  refine⟨by simp, by rw[hxs, QV]; omega, ?_⟩
  obtain⟨H3, hH3⟩:∃ H3, H3 = H2.upd H1.next (.arr 0 50 [.vec cs.length (ints cs), .vec xs.length (xs.map ag)]) := ⟨_, rfl⟩
  have n3:H3.next = H2.next := by rw[hH3]; rfl
  have g3:∀ id, id ≠ H1.next -> H3.get id = H2.get id := fun id h => by rw[hH3, ao, QQ h]
  have gX3:H3.get H1.next = some (.arr 0 50 [.vec cs.length (ints cs), .vec xs.length (xs.map ag)]) := by rw[hH3, ao, QN rfl]
  have gP3 := (g3 (H.next + 1) (by omega)).trans ((o2.old _ (by omega)).trans b1)
  have lX3 := aq gX3
  have lP3 := aq gP3
  refine W.env fun E2 hE2 => ?_
  have a2:E2 2 = .lit (.int .u8 node) := by rw[hE2]; simp (config := { maxSteps := 1000000 }) only[go_sem, f2, aa]
  have a3:E2 3 = .lit (.int .u8 row) := by rw[hE2]; simp (config := { maxSteps := 1000000 }) only[go_sem, f3, aa]
  have a4:E2 4 = .lit (.int .u8 fr) := by rw[hE2]; simp (config := { maxSteps := 1000000 }) only[go_sem, f4, aa]
  have a5:E2 5 = .lit (.int .u8 to) := by rw[hE2]; simp (config := { maxSteps := 1000000 }) only[go_sem, f5, aa]
  have a7:E2 7 = .ptr (H.next + 1) 0 0 := by rw[hE2]; simp (config := { maxSteps := 1000000 }) only[go_sem, f7, aa]
  have a13:E2 13 = .ptr H1.next 0 0 := by rw[hE2]; simp (config := { maxSteps := 1000000 }) only[go_sem, f13, aa]
  clear hE2
  rw[<- hH3]
  clear hH3
  obtain⟨m, hm⟩:∃ m, cs.length = m + 1 := ⟨cs.length - 1, by omega⟩
  have w1:IntKind.i64.wrap ((cs.length:Int) - 1) = (m:Int) := by rw[QL _ (by omega)]; omega
  have w2:IntKind.u8.wrap (m:Int) = (m:Int) := TA _ (by omega)
  have pst:AVal.lit (.int .u8 (m:Int)) :: PC.drop 1 = dW m ord ed := by rw[hPC]; rfl
  have pcl2:(dW m ord ed).length = 8 := by unfold dW; simp [jU, ho]
  have ptk:(dW m ord ed).take 8 = dW m ord ed := QP (by omega)
  refine W.sq ?_
  simp (config := { maxSteps := 1000000 }) only[go_sem, a7, a13, lX3, lP3, w1, w2, pcl, aa]
  rw[pst]
  obtain⟨H4, hH4⟩:∃ H4, H4 = H3.upd (H.next + 1) (.arr 0 43 (dW m ord ed)) := ⟨_, rfl⟩
  have n4:H4.next = H3.next := by rw[hH4]; rfl
  have g4:∀ id, id ≠ H.next + 1 -> H4.get id = H3.get id := fun id h => by rw[hH4, ao, QQ h]
  have gP4:H4.get (H.next + 1) = some (.arr 0 43 (dW m ord ed)) := by rw[hH4, ao, QN rfl]
  have gX4 := (g4 H1.next (by omega)).trans gX3
  have lX4 := aq gX4
  have lP4 := aq gP4
  refine W.env fun E3 hE3 => ?_
  have c2:E3 2 = .lit (.int .u8 node) := by rw[hE3]; simp (config := { maxSteps := 1000000 }) only[go_sem, a2, aa]
  have c3:E3 3 = .lit (.int .u8 row) := by rw[hE3]; simp (config := { maxSteps := 1000000 }) only[go_sem, a3, aa]
  have c4:E3 4 = .lit (.int .u8 fr) := by rw[hE3]; simp (config := { maxSteps := 1000000 }) only[go_sem, a4, aa]
  have c5:E3 5 = .lit (.int .u8 to) := by rw[hE3]; simp (config := { maxSteps := 1000000 }) only[go_sem, a5, aa]
  have c7:E3 7 = .ptr (H.next + 1) 0 0 := by rw[hE3]; simp (config := { maxSteps := 1000000 }) only[go_sem, a7, aa]
  have c13:E3 13 = .ptr H1.next 0 0 := by rw[hE3]; simp (config := { maxSteps := 1000000 }) only[go_sem, a13, aa]
  clear hE3
  rw[<- hH4]
  clear hH4
  -- the graph, the fit
  obtain⟨ps, hgr, pcG⟩:∃ ps:List Nat, dU ps cs.length /\ ∀ Hz, ah Tryd.prog G0 16 [.agg (dW m ord ed), ab 6] Hz fun r H' => r = .ret (bS ps) /\ H' = Hz := by
    by_cases hg:dU (p9 (m + 1) ord ed) (m + 1)
    · exact⟨_, by rw[hm]; exact hg, fun Hz => BY m (m + 1) ord ed (by omega) ho ho8 he (by omega) Hz _ fun _ => ⟨rfl, rfl⟩⟩
    · refine⟨List.replicate cs.length 0, ⟨by simp, fun p hp => by rw[Su hp]; exact TM (by decide), BL (r := fun _ => 0) fun v u hh => ?_⟩, fun Hz => BY m (m + 1) ord ed (by omega) ho ho8 he (by omega) Hz _ fun h => absurd h hg⟩
      rw[QM, SR]at hh
      split at hh <;> simp at hh
  have hpsl:ps.length = cs.length := hgr.1
  have hcs1:∀ c ∈ cs, 1 <= c := fun c hc => by have := crng c hc; omega
  obtain⟨ns, hfk⟩ := Ot hcs1 xs (ps := ps) hpsl
  have wok:j9 cs 60 0 0 := ⟨by omega, by omega, by omega, fun c _ => by omega⟩
  have hE0 := BH (xs := xs) (s6 hxd) ⟨hgr, wok⟩
  have hfx:n8 cs xs := Ma (by omega) (by omega) fun r hr => by rw[(hxf r hr).1]; omega
  have hp64:∀ p ∈ ps, p < 2 ^ 64 := fun p hp => by
    have := hgr.2.1 p hp
    have:2 ^ cs.length <= 2 ^ 64 := Rb (by decide) (by omega)
    omega
  have pcF:∀ Hz, ah Tryd.prog G0 19 [dT cs xs, bS ps, ab 60, ab 0, ab 0] Hz fun r H' => r = .ret (.tup [.agg [.lit (.int .i64 60), .vec ns.length (aK ns)], ab 0]) /\ H' = Hz := fun Hz => NC cs xs hfx ps (by omega) hp64 60 0 0 Hz _ fun g' ns' h1 _ => by
    obtain⟨rfl, hk⟩ := h1 hE0
    rw[hk.unique hfk, hE0]
    exact⟨rfl, rfl⟩
  refine W.seq ?_
  refine W.draw 9 [0, 0, 2, 7, 15, 31, 31, 0, 191] Tryd.mixed (by kernel_rfl) (by kernel_rfl) ?_
  simp (config := { maxSteps := 1000000 }) only[go_sem, c7, c13, lX4, lP4, pcl2, ptk, aa]
  refine⟨_, [], fQ.pure pcG, ?_⟩
  simp (config := { maxSteps := 1000000 }) only[go_sem, c7, c13, lX4, lP4, pcl2, ptk, aa]
  refine⟨_, [], fQ.pure pcF, ?_⟩
  simp (config := { maxSteps := 1000000 }) only[go_sem, c7, c13, lX4, lP4, pcl2, ptk, aa]
  refine⟨⟨fun _ h => by omega, fun _ h => by omega⟩, ?_⟩
  obtain⟨H5, hH5⟩:∃ H5, H5 = ext H4 [.arr 0 61 [.lit (.int .i64 60), .vec ns.length (aK ns)]] := ⟨_, rfl⟩
  have n5:H5.next = H4.next + 1 := by rw[hH5]; rfl
  have o5:Over H4 H5 := by rw[hH5]; exact .ext _ _
  have gN5:H5.get H4.next = some (.arr 0 61 [.lit (.int .i64 60), .vec ns.length (aK ns)]) := by rw[hH5]; exact cQ
  have gX5 := (o5.old _ (by omega)).trans gX4
  have hnc := hfk.cards hgr
  have hok := hfk.net hxd hgr wok
  have hnl:ns.length = cs.length := by rw[hfk.1]; exact hpsl
  have fitN:ku ns := hfk.fit hxd hgr
  have hlk:eK 60 ns cs xs = 0 := by unfold eK; rw[QN (qu hok), QN (s6 hxd), QN hnc]
  have hpos := Oh hxd hgr hfk hx6 hxf hok hnc
  have hwB:∀ r ∈ xs, jm r = true := fun r hr => Rk fun x hx hlt => by
    obtain⟨k, hk⟩ := Q4.1 hx
    obtain⟨c, hc⟩ := get_of_lt (l := cs) (i := k) (by rw[<- (hxf r hr).1]; exact get_lt hk)
    have := (hxf r hr).2 k c x hc hk
    omega
  obtain⟨la, hla⟩:∃ la, la = bA 60 bb (bg ns xs) := ⟨_, rfl⟩
  have hlv:fX 60 ns cs xs = .tup [.agg (ints la), ab 0] := by
    unfold fX
    rw[QQ (fun h => h hlk), QN hwB, QN hpos, hla]
  have awl:∀ ms:List NodeP, ms.length = ns.length -> (bA 60 bb (bg ms xs)).length = 18 /\ eI (bA 60 bb (bg ms xs)) 9000 := fun ms hms => by
    have := wL 60 (bg ms xs) (e := bb) (b := 0) (by omega) (by simp [bb]) fun x hx => by
      unfold bb at hx
      rw[Su hx]; omega
    refine⟨this.1, this.2.mono ?_⟩
    have h1 := tg ms xs
    have h2:xs.length * ms.length <= 6 * 6 := Tu hx6 (by omega)
    omega
  have la0 := awl ns rfl
  rw[<- hla]at la0
  have la1 := s9 la0.1
  have la2:(ints la).length = 18 := by rw[aX, la0.1]
  have la3 := kL la
  have lN5 := aq gN5
  have lX5 := aq gX5
  refine W.env fun E4 hE4 => ?_
  have d2:E4 2 = .lit (.int .u8 node) := by rw[hE4]; simp (config := { maxSteps := 1000000 }) only[go_sem, c2, aa]
  have d3:E4 3 = .lit (.int .u8 row) := by rw[hE4]; simp (config := { maxSteps := 1000000 }) only[go_sem, c3, aa]
  have d4:E4 4 = .lit (.int .u8 fr) := by rw[hE4]; simp (config := { maxSteps := 1000000 }) only[go_sem, c4, aa]
  have d5:E4 5 = .lit (.int .u8 to) := by rw[hE4]; simp (config := { maxSteps := 1000000 }) only[go_sem, c5, aa]
  have d13:E4 13 = .ptr H1.next 0 0 := by rw[hE4]; simp (config := { maxSteps := 1000000 }) only[go_sem, c13, aa]
  have d14:E4 14 = .ptr H4.next 0 0 := by rw[hE4]; simp (config := { maxSteps := 1000000 }) only[go_sem, aa]
  have d15:E4 15 = ab 0 := by rw[hE4]; simp (config := { maxSteps := 1000000 }) only[go_sem, aa]
  clear hE4
  rw[<- hH5]
  clear hH5
  refine W.sq ?_
  simp (config := { maxSteps := 1000000 }) only[go_sem, d13, d14, lN5, lX5, aa]
  refine aG.clo (Bk 60 ns cs xs fitN hfx _ _ ⟨trivial, ?_⟩)
  rw[hlv]
  simp (config := { maxSteps := 1000000 }) only[go_sem, la1, la2, la3, aa]
  obtain⟨H6, hH6⟩:∃ H6, H6 = ext H5 [.arr 0 84 (ints la)] := ⟨_, rfl⟩
  have n6:H6.next = H5.next + 1 := by rw[hH6]; rfl
  have o6:Over H5 H6 := by rw[hH6]; exact .ext _ _
  have gA6:H6.get H5.next = some (.arr 0 84 (ints la)) := by rw[hH6]; exact cQ
  have gN6 := (o6.old _ (by omega)).trans gN5
  have gX6 := (o6.old _ (by omega)).trans gX5
  have lN6 := aq gN6
  have lX6 := aq gX6
  refine W.env fun E5 hE5 => ?_
  have k2:E5 2 = .lit (.int .u8 node) := by rw[hE5]; simp (config := { maxSteps := 1000000 }) only[go_sem, d2, aa]
  have k3:E5 3 = .lit (.int .u8 row) := by rw[hE5]; simp (config := { maxSteps := 1000000 }) only[go_sem, d3, aa]
  have k4:E5 4 = .lit (.int .u8 fr) := by rw[hE5]; simp (config := { maxSteps := 1000000 }) only[go_sem, d4, aa]
  have k5:E5 5 = .lit (.int .u8 to) := by rw[hE5]; simp (config := { maxSteps := 1000000 }) only[go_sem, d5, aa]
  have k13:E5 13 = .ptr H1.next 0 0 := by rw[hE5]; simp (config := { maxSteps := 1000000 }) only[go_sem, d13, aa]
  have k14:E5 14 = .ptr H4.next 0 0 := by rw[hE5]; simp (config := { maxSteps := 1000000 }) only[go_sem, d14, aa]
  have k15:E5 15 = ab 0 := by rw[hE5]; simp (config := { maxSteps := 1000000 }) only[go_sem, d15, aa]
  have k16:E5 16 = .ptr H5.next 0 0 := by rw[hE5]; simp (config := { maxSteps := 1000000 }) only[go_sem, aa]
  have k17:E5 17 = ab 0 := by rw[hE5]; simp (config := { maxSteps := 1000000 }) only[go_sem, aa]
  clear hE5
  rw[<- hH6]
  clear hH6
  refine W.sq ?_
  simp (config := { maxSteps := 1000000 }) only[go_sem, k13, k14, k15, k17, lN6, lX6, aJ, aa]
  refine aG.clo (PS 60 ns fitN _ _ ⟨trivial, ?_⟩)
  rw[qu hok]
  simp (config := { maxSteps := 1000000 }) only[go_sem, k13, k14, lN6, lX6, hnl, aJ, aa]
  have hn1:0 < ns.length := by omega
  refine W.sq ?_
  simp (config := { maxSteps := 1000000 }) only[go_sem, k14, lN6, aa]
  refine aG.clo (Ou ns (by omega) hn1 H6 _ ⟨trivial, ?_⟩)
  obtain⟨Hc, hHc⟩:∃ Hc, Hc = ext H6 [.arr 1 91 (aK ns)] := ⟨_, rfl⟩
  have nc:Hc.next = H6.next + 1 := by rw[hHc]; rfl
  have oc:Over H6 Hc := by rw[hHc]; exact .ext _ _
  have gc:Hc.get H6.next = some (.arr 1 91 (aK ns)) := by rw[hHc]; exact cQ
  rw[<- hHc]
  clear hHc
  have zO:dK H6.next Hc 91 3 (.own H6.next 1 0 ns.length 3) ns.length (aK ns) := .inr ⟨H6.next, 1, Nat.le_refl _, by omega, rfl, iy ns, gc⟩
  obtain⟨nh2, H7, hA2, oZ, n7, hp7⟩ := C5 (P := Tryd.prog) (H := Hc) (t := 59) (xs := [.lit (.int .i64 0), .lit (.slice none 0 0), .lit (.slice none 0 0)]) (m := Hc.next + 1) Tryd.underlying59 Tryd.wO Tryd.wQ rfl rfl (by rw[Tryd.wP]; omega) zO (by omega) rfl
  have nh1 := oZ.one
  have nhc := oZ.cells
  simp (config := { maxSteps := 1000000 }) only[go_sem, hA2, nh1, nhc]
  obtain⟨ms, hms⟩:∃ ms, ms = ns ++ [(⟨0, [], []⟩:NodeP)] := ⟨_, rfl⟩
  have msl:ms.length = ns.length + 1 := by rw[hms]; simp
  have hsm:SmallN 2000 ms := by
    refine⟨by omega, fun y hy => ?_⟩
    rw[hms]at hy
    rcases Q1.1 hy with hy | hy
    · obtain⟨u, hu⟩ := Q4.1 hy
      obtain⟨s, hs⟩ := get_of_lt (l := ps) (i := u) (by rw[<- hfk.1]; exact get_lt hu)
      obtain⟨_, q2, q3, _⟩ := hfk.2 u s y hs hu
      have hpl := tp ps.length s
      have hro := (hok.rows y hy).1
      have hin:fJ y.parents ns.length := fun q hq => by have := (hok.node y hy).2.2 q hq; omega
      have hpc := qv hin fun z hz => (hok.node z hz).1
      have hpcl:(aO ns y).length = y.parents.length := fq _ _
      have h5:y.parents.length <= 5 := by rw[q2]; omega
      have hp := tz (b := 4) (by omega) (l := aO ns y) fun c hc => by have := hpc c hc; omega
      have h4:(4:Nat) ^ (aO ns y).length <= 4 ^ 5 := Rb (by decide) (by omega)
      have h6:((4:Int) ^ (aO ns y).length) <= 4 ^ 5 := by exact_mod_cast h4
      have h7:(4:Int) ^ 5 = 1024 := by decide
      exact⟨by omega, by omega, fun r hr => by
        have r1 := ((hok.rows y hy).2 r hr).1
        have r2 := (hok.node y hy).1
        exact⟨fun e => by rw[e]at r1; simp at r1; omega, by omega⟩⟩
    · rw[List.mem_singleton.1 hy]
      exact⟨by simp, by simp, fun r hr => by cases hr⟩
  obtain⟨A, hA⟩:∃ A:Nat, (A:Int) = node % (ns.length:Int) := ⟨(node % (ns.length:Int)).toNat, by have := RU node (show (ns.length:Int) ≠ 0 by omega); omega⟩
  have hAn:A < ns.length := by have := RF node (show (0:Int) < ns.length by omega); omega
  refine aG.Qw (B := H6) bz ⟨by omega, fun id h => (hp7 id (by omega) fun g n e => by have := (AVal.own.inj e).1; omega).trans (oc.old id h)⟩ (args' := [.agg (wB 11 0 0 0), dp 60 ms]) (.cons (.agg rfl fun i hi _ => match i, hi with
    | 0, _ => .lit _
    | 1, _ => .lit _
    | 2, _ => .lit _
    | 3, _ => .lit _) (.cons (.agg rfl fun i hi _ => match i, hi with
    | 0, _ => .lit _
    | 1, _ => ?_) .nil)) fun H8 o8 => Oj 60 ms 2000 (by decide) hsm A (by omega) H8 _ fun N gg pv rv ids x H9 o9 hN1 hN2 gN9 hx hNO pv1 rv1 => ⟨trivial, ?_⟩
  · have hcm:aK ms = aK ns ++ [ab 0, ag [], aD []] := by rw[hms]; unfold aK; simp [NodeP.cells]
    show Fz _ _ _ nh2 (.vec ms.length (aK ms))
    rw[msl, hcm]
    refine Li oZ (fun i h => h) (by simp) fun i hi hi' => ?_
    have e1 := QK hi
    have e2 := QK hi'
    generalize (aK ns ++ [AVal.lit (.int .i64 0), .lit (.slice none 0 0), .lit (.slice none 0 0)])[i] = u at e1 ⊢
    generalize (aK ns ++ [ab 0, ag [], aD []])[i] = u' at e2 ⊢
    by_cases hi3:i < (aK ns).length
    · rw[Q0 hi3]at e1 e2
      rw[e1]at e2
      cases e2
      exact wW (n := ns.length) (ns := ns) _ (by rw[wX]; exact an e1) _ _ _
    · rw[Q2 (by omega)]at e1 e2
      have hil:i < (aK ns).length + 3 := by rw[List.length_append]at hi; simpa using hi
      have h3:i - (aK ns).length = 0 \/ i - (aK ns).length = 1 \/ i - (aK ns).length = 2 := by omega
      rcases h3 with h | h | h <;> rw[h]at e1 e2 <;> cases e1 <;> cases e2
      · exact .lit _
      · exact .nil
      · exact .nil
  simp (config := { maxSteps := 1000000 }) only[go_sem, aa]
  have ml1:ms.length - 1 = ns.length := by omega
  rw[ml1]
  obtain⟨HA, hHA⟩:∃ HA, HA = ext H9 [.arr 0 61 [.lit (.int .i64 60), .own N gg 0 ns.length 3]] := ⟨_, rfl⟩
  have nA:HA.next = H9.next + 1 := by rw[hHA]; rfl
  have oA:Over H9 HA := by rw[hHA]; exact .ext _ _
  have gM:HA.get H9.next = some (.arr 0 61 [.lit (.int .i64 60), .own N gg 0 ns.length 3]) := by rw[hHA]; exact cQ
  have o8n := o8.next
  have o9n := o9.next
  have o68:Over H6 HA := o8.trans (o9.trans oA)
  refine W.env fun E6 hE6 => ?_
  have s2:E6 2 = .lit (.int .u8 node) := by rw[hE6]; simp (config := { maxSteps := 1000000 }) only[go_sem, k2, aa]
  have s3:E6 3 = .lit (.int .u8 row) := by rw[hE6]; simp (config := { maxSteps := 1000000 }) only[go_sem, k3, aa]
  have s4:E6 4 = .lit (.int .u8 fr) := by rw[hE6]; simp (config := { maxSteps := 1000000 }) only[go_sem, k4, aa]
  have s5:E6 5 = .lit (.int .u8 to) := by rw[hE6]; simp (config := { maxSteps := 1000000 }) only[go_sem, k5, aa]
  have s13:E6 13 = .ptr H1.next 0 0 := by rw[hE6]; simp (config := { maxSteps := 1000000 }) only[go_sem, k13, aa]
  have s16:E6 16 = .ptr H5.next 0 0 := by rw[hE6]; simp (config := { maxSteps := 1000000 }) only[go_sem, k16, aa]
  have s18:E6 18 = .ptr H9.next 0 0 := by rw[hE6]; simp (config := { maxSteps := 1000000 }) only[go_sem, aa]
  clear hE6
  rw[<- hHA]
  clear hHA
  have hxA:ns[A]? = some x := by
    rw[hms, Q0 hAn]at hx
    exact hx
  have hxm := an hxA
  have lM := aq gM
  have gN:HA.get N = some (.arr gg 91 (dm ms A (ab x.card) pv rv)) := (oA.old _ hN2).trans gN9
  have lN := aq gN
  obtain⟨cs0, hcs0⟩:∃ c, c = dm ms A (ab x.card) pv rv := ⟨_, rfl⟩
  have cc2:cs0[A * 3 + 2]? = some rv := by rw[hcs0]; exact A1 (by omega) _ _ _
  have ccl:cs0.length = ms.length * 3 := by rw[hcs0]; exact A0 ..
  have ccn := aM cc2
  rw[<- hcs0]at lN gN
  have hNA:NodO H8.next HA pv rv ids x := hNO.over oA
  have hrl:(x.rows.length:Int) = aQ (aO ns x) := (hok.rows x hxm).1
  have hrp:0 < x.rows.length := by
    have hin:fJ x.parents ns.length := fun q hq => by have := (hok.node x hxm).2.2 q hq; omega
    have := oq (l := aO ns x) fun c hc => by have := qv hin (fun z hz => (hok.node z hz).1) c hc; omega
    omega
  obtain⟨R, hR⟩:∃ R:Nat, (R:Int) = row % (x.rows.length:Int) := ⟨(row % (x.rows.length:Int)).toNat, by have := RU row (show (x.rows.length:Int) ≠ 0 by omega); omega⟩
  have hRl:R < x.rows.length := by have := RF row (show (0:Int) < x.rows.length by omega); omega
  obtain⟨q, hq⟩ := get_of_lt hRl
  obtain⟨idt, gt, cells, idr, hra⟩ := OwnM.rowAt hNA.rows hq
  have hql := ((hok.rows x hxm).2 q (an hq)).1
  have hxc := (hok.node x hxm).1
  unfold U8 at h0 h1 h2 h3
  have wn := QL node (by omega)
  have wr := QL row (by omega)
  have tA:Int.tmod node (ns.length:Int) = A := by rw[hA]; exact Ra h0.1
  have tR:Int.tmod row (x.rows.length:Int) = R := by rw[hR]; exact Ra h1.1
  have wA := QL (A:Int) (by omega)
  have hrb:x.rows.length <= 2000 := (hsm.node x (an hx)).2.1
  have wR := QL (R:Int) (by omega)
  have z1:¬ (ns.length:Int) = 0 := by omega
  have z2:¬ (x.rows.length:Int) = 0 := by omega
  have hAi:(A:Int) < ns.length := by omega
  have hRi:(R:Int) < x.rows.length := by omega
  have lT := aq hra.top
  have hrv := hra.rv
  have lcl := hra.len
  have lat := hra.at'
  have lan := aM lat
  refine W.sq ?_
  simp (config := { maxSteps := 1000000 }) only[go_sem, s2, s18, lM, lN, ccl, wn, tA, wA, z1, aa]
  refine W.env fun E7 hE7 => ?_
  have t3:E7 3 = .lit (.int .u8 row) := by rw[hE7]; simp (config := { maxSteps := 1000000 }) only[go_sem, s3, aa]
  have t4:E7 4 = .lit (.int .u8 fr) := by rw[hE7]; simp (config := { maxSteps := 1000000 }) only[go_sem, s4, aa]
  have t5:E7 5 = .lit (.int .u8 to) := by rw[hE7]; simp (config := { maxSteps := 1000000 }) only[go_sem, s5, aa]
  have t13:E7 13 = .ptr H1.next 0 0 := by rw[hE7]; simp (config := { maxSteps := 1000000 }) only[go_sem, s13, aa]
  have t16:E7 16 = .ptr H5.next 0 0 := by rw[hE7]; simp (config := { maxSteps := 1000000 }) only[go_sem, s16, aa]
  have t18:E7 18 = .ptr H9.next 0 0 := by rw[hE7]; simp (config := { maxSteps := 1000000 }) only[go_sem, s18, aa]
  have t19:E7 19 = ab A := by rw[hE7]; simp (config := { maxSteps := 1000000 }) only[go_sem, aa]
  clear hE7
  refine W.seq ?_
  refine W.draw 16 [0, 1, 0, 7, 15, 31, 0, 64, 0, 256, 0, 1792, 3840, 7936, 16128, 32704] Tryd.mixed (by kernel_rfl) (by kernel_rfl) ?_
  simp (config := { maxSteps := 1000000 }) only[go_sem, t3, t18, t19, lM, lN, ccl, cc2, ccn, hrv, lT, lcl, lat, lan, hAi, hRi, wr, tR, wR, z2, aa]
  refine W.env fun E8 hE8 => ?_
  have u4:E8 4 = .lit (.int .u8 fr) := by rw[hE8]; simp (config := { maxSteps := 1000000 }) only[go_sem, t4, aa]
  have u5:E8 5 = .lit (.int .u8 to) := by rw[hE8]; simp (config := { maxSteps := 1000000 }) only[go_sem, t5, aa]
  have u13:E8 13 = .ptr H1.next 0 0 := by rw[hE8]; simp (config := { maxSteps := 1000000 }) only[go_sem, t13, aa]
  have u16:E8 16 = .ptr H5.next 0 0 := by rw[hE8]; simp (config := { maxSteps := 1000000 }) only[go_sem, t16, aa]
  have u18:E8 18 = .ptr H9.next 0 0 := by rw[hE8]; simp (config := { maxSteps := 1000000 }) only[go_sem, t18, aa]
  have u20:E8 20 = .own idr 0 0 q.length 1 := by rw[hE8]; simp (config := { maxSteps := 1000000 }) only[go_sem, aa]
  clear hE8
  have lI := aq hra.row
  have hq0:0 < q.length := by omega
  have z3:¬ (q.length:Int) = 0 := by omega
  obtain⟨a, ha⟩:∃ a:Nat, (a:Int) = fr % (q.length:Int) := ⟨(fr % (q.length:Int)).toNat, by have := RU fr z3; omega⟩
  obtain⟨b, hb⟩:∃ b:Nat, (b:Int) = to % (q.length:Int) := ⟨(to % (q.length:Int)).toNat, by have := RU to z3; omega⟩
  have haq:a < q.length := by have := RF fr (show (0:Int) < q.length by omega); omega
  have hbq:b < q.length := by have := RF to (show (0:Int) < q.length by omega); omega
  have ta:Int.tmod fr (q.length:Int) = a := by rw[ha]; exact Ra h2.1
  have tb:Int.tmod to (q.length:Int) = b := by rw[hb]; exact Ra h3.1
  have wf := QL fr (by omega)
  have wt := QL to (by omega)
  have wa := QL (a:Int) (by omega)
  have wb := QL (b:Int) (by omega)
  have qil := aX q
  refine W.seq ?_
  refine W.draw 11 [0, 1, 0, 4, 15, 0, 32, 0, 128, 480, 31] Tryd.mixed (by kernel_rfl) (by kernel_rfl) ?_
  simp (config := { maxSteps := 1000000 }) only[go_sem, u4, u5, u20, lI, qil, wf, wt, ta, tb, wa, wb, z3, aa]
  refine W.env fun E9 hE9 => ?_
  have v13:E9 13 = .ptr H1.next 0 0 := by rw[hE9]; simp (config := { maxSteps := 1000000 }) only[go_sem, u13, aa]
  have v16:E9 16 = .ptr H5.next 0 0 := by rw[hE9]; simp (config := { maxSteps := 1000000 }) only[go_sem, u16, aa]
  have v18:E9 18 = .ptr H9.next 0 0 := by rw[hE9]; simp (config := { maxSteps := 1000000 }) only[go_sem, u18, aa]
  have v20:E9 20 = .own idr 0 0 q.length 1 := by rw[hE9]; simp (config := { maxSteps := 1000000 }) only[go_sem, u20, aa]
  have v21:E9 21 = ab a := by rw[hE9]; simp (config := { maxSteps := 1000000 }) only[go_sem, aa]
  have v22:E9 22 = ab b := by rw[hE9]; simp (config := { maxSteps := 1000000 }) only[go_sem, aa]
  clear hE9
  obtain⟨va, hva⟩ := get_of_lt haq
  have hvn := aM hva
  have hai:(a:Int) < q.length := by omega
  have hbi:(b:Int) < q.length := by omega
  have hq60 := ((hok.rows x hxm).2 q (an hq)).2.1
  have ha60 := hq60 va (an hva)
  have hHn:H.next <= H6.next := by have := o2.next; omega
  have hfin:∀ Hz:AHeap, H6.next <= Hz.next -> az Tryd.prog G0 H K (.lit (.bool true)) Hz := fun Hz h => az.mk (by omega) (hK Hz (by omega))
  by_cases hv0:va = 0
  · refine W.sq ?_
    simp (config := { maxSteps := 1000000 }) only[go_sem, v20, v21, lI, qil, hva, hvn, hai, hv0, aa]
    exact hfin HA o68.next
  have w1 := QL (va - 1) (by omega)
  obtain⟨vb, hvb⟩ := get_of_lt (l := q.set a (va - 1)) (i := b) (by rw[Q8]; exact hbq)
  have hvb60:0 <= vb /\ vb <= 60 := by
    rw[Rg]at hvb
    split at hvb
    · rename_i e
      subst e
      cases hvb; omega
    · exact hq60 vb (an hvb)
  have hvbn := aM hvb
  have w2 := QL (vb + 1) (by omega)
  refine W.sq ?_
  simp (config := { maxSteps := 1000000 }) only[go_sem, v20, v21, lI, qil, hva, hvn, hai, hv0, aa]
  refine W.sq ?_
  simp (config := { maxSteps := 1000000 }) only[go_sem, v20, v21, lI, qil, hva, hvn, hai, w1, aa]
  refine⟨by omega, ?_⟩
  rw[fo haq]
  obtain⟨q1, hq1⟩:∃ q1, q1 = q.set a (va - 1) := ⟨_, rfl⟩
  have q1l:q1.length = q.length := by rw[hq1, Q8]
  have q1i:(ints q1).length = q.length := by rw[aX, q1l]
  rw[<- hq1]at hvb ⊢
  obtain⟨HB, hHB⟩:∃ HB, HB = HA.upd idr (.arr 0 3 (ints q1)) := ⟨_, rfl⟩
  have nB:HB.next = HA.next := by rw[hHB]; rfl
  have kB:∀ i, i ≠ idr -> HB.get i = HA.get i := fun i h => by rw[hHB, ao, QQ h]
  have lJ:HB.live idr 0 = some (3, ints q1) := by rw[hHB]; exact aq (by rw[ao, QN rfl])
  refine W.env fun F hF => ?_
  have x13:F 13 = .ptr H1.next 0 0 := by rw[hF]; simp (config := { maxSteps := 1000000 }) only[go_sem, v13, aa]
  have x16:F 16 = .ptr H5.next 0 0 := by rw[hF]; simp (config := { maxSteps := 1000000 }) only[go_sem, v16, aa]
  have x18:F 18 = .ptr H9.next 0 0 := by rw[hF]; simp (config := { maxSteps := 1000000 }) only[go_sem, v18, aa]
  have x20:F 20 = .own idr 0 0 q.length 1 := by rw[hF]; simp (config := { maxSteps := 1000000 }) only[go_sem, v20, aa]
  have x22:F 22 = ab b := by rw[hF]; simp (config := { maxSteps := 1000000 }) only[go_sem, v22, aa]
  clear hF
  rw[<- hHB]
  refine W.sq ?_
  simp (config := { maxSteps := 1000000 }) only[go_sem, x20, x22, lJ, q1i, hvb, hbi, w2, aa]
  refine⟨by omega, ?_⟩
  rw[fo (by omega)]
  have hbump:q1.set b (vb + 1) = dn q a b := by
    unfold dn
    rw[aH hva, <- hq1, aH hvb]
  rw[hbump]
  obtain⟨HC, hHC⟩:∃ HC, HC = HB.upd idr (.arr 0 3 (ints (dn q a b))) := ⟨_, rfl⟩
  have nC:HC.next = HA.next := by rw[hHC]; exact nB
  have kC:∀ i, i ≠ idr -> HC.get i = HA.get i := fun i h => by rw[hHC, ao, QQ h]; exact kB i h
  have gI:HC.get idr = some (.arr 0 3 (ints (dn q a b))) := by rw[hHC, ao, QN rfl]
  refine W.env fun F2 hF2 => ?_
  have y13:F2 13 = .ptr H1.next 0 0 := by rw[hF2]; simp (config := { maxSteps := 1000000 }) only[go_sem, x13, aa]
  have y16:F2 16 = .ptr H5.next 0 0 := by rw[hF2]; simp (config := { maxSteps := 1000000 }) only[go_sem, x16, aa]
  have y18:F2 18 = .ptr H9.next 0 0 := by rw[hF2]; simp (config := { maxSteps := 1000000 }) only[go_sem, x18, aa]
  clear hF2
  rw[<- hHC]
  clear hHC hHB
  have hidr := hra.rlo
  have lM2 := aq ((kC H9.next (fun e => by rw[e, hra.row]at gM; cases gM)).trans gM)
  have lX2 := aq ((kC H1.next (by omega)).trans ((o68.old _ (by omega)).trans gX6))
  have lA2 := aq ((kC H5.next (by omega)).trans ((o68.old _ (by omega)).trans gA6))
  refine W.sq ?_
  simp (config := { maxSteps := 1000000 }) only[go_sem, y13, y18, lM2, lX2, aa]
  obtain⟨ns', hns'⟩:∃ l, l = cf ns A x R a b := ⟨_, rfl⟩
  have hok':NetOk 60 ns' := by rw[hns']; exact Ob hok hxA hq haq hbq (by rw[aH hva]; exact hv0)
  have hcd':aA ns' = cs := by rw[hns', qd hxA, hnc]
  have hl':ns'.length = ns.length := by rw[hns', qa]
  have hx':lE x R a b = ⟨x.card, x.parents, x.rows.set R (dn q a b)⟩ := by unfold lE; rw[aH hq]
  have fitN':ku ns' := by
    refine⟨by rw[hl']; exact fitN.1, fun y hy => ?_⟩
    rw[hns']at hy
    unfold cf at hy
    rcases Ru hy with hy | hy
    · exact fitN.2 y hy
    · obtain⟨q1', q2', q3'⟩ := fitN.2 x hxm
      rw[hy, hx']
      refine⟨q1', by show ((x.rows.set R _).length:Int) < _; rw[Q8]; exact q2', fun r hr => ?_⟩
      rcases Ru hr with hr | hr
      · exact q3' r hr
      · rw[hr, tv]; exact q3' q (an hq)
  have hlk':eK 60 ns' cs xs = 0 := by unfold eK; rw[QN (qu hok'), QN (s6 hxd), QN hcd']
  have hne:∀ y ∈ ns, y.rows ≠ [] := fun y hy e => by
    have h := (hok.rows y hy).1
    have hin:fJ y.parents ns.length := fun q hq => by have := (hok.node y hy).2.2 q hq; omega
    have := oq (l := aO ns y) fun c hc => by have := qv hin (fun z hz => (hok.node z hz).1) c hc; omega
    rw[e]at h
    simp at h
    omega
  have fzq:Fz (fun _ => True) HC 0 (.own idr 0 0 q.length 1) (ag (dn q a b)) := Fz.ints (S := fun _ => True) trivial gI (tv q a b).symm fun j' hj' => by rw[Nat.zero_add, fC]; simp only[QK hj', Option.map_some]
  have fzr:Fz (fun _ => True) HC 0 rv (aD (x.rows.set R (dn q a b))) := by
    refine RowAt.Ll hra hNA.rows (fun _ _ => trivial) (w := .own idr 0 0 q.length 1) ?_ (fun i hi hne => kC i hne) fzq
    rw[kC idt hra.ne, hra.top, tK hra.at']
  have fzp:Fz (fun _ => True) HC 0 pv (ag x.parents) := by
    rcases hNA.par with ⟨p1, p2⟩ | ⟨i, g', p1, p2, p3, p4⟩
    · have e : x.parents = [] := by
        cases hp:x.parents with
        | nil => rfl
        | cons y l => rw[hp]at p2; simp [ints]at p2
      rw[p1, e]; exact .nil
    · have hdj := hNA.dj i g' _ p3
      rw[p3]
      refine Fz.ints (S := fun _ => True) trivial ((kC i fun e => hdj (by rw[e]; exact an hra.id)).trans p4) (by rw[aX]) fun j' hj' => by rw[Nat.zero_add, fC]; simp only[QK hj', Option.map_some]
  have gNC:HC.get N = some (.arr gg 91 cs0) := (kC N (fun e => by rw[e, hra.row]at gN; cases gN)).trans gN
  have fzM:Fz (fun _ => True) HC 0 (.agg [.lit (.int .i64 60), .own N gg 0 ns.length 3]) (dp 60 ns') := by
    refine .agg rfl fun i hi _ => ?_
    match i, hi with
    | 0, _ => exact .lit _
    | 1, _ =>
      show Fz _ _ _ (.own N gg 0 ns.length 3) (.vec ns'.length (aK ns'))
      rw[hl']
      have hbc := Ol (a := a) (b := b) hms hxA hq hne
      rw[<- hns']at hbc
      refine .frz trivial gNC (by rw[iy, hl']) fun j hj h2 h' => ?_
      have e0:0 + j = j := Nat.zero_add j
      simp only[e0, hbc, SC, hcs0]
      exact Lj fzp fzr j _ _
  obtain⟨lb, ge, hlb18, hlvb, hge⟩:∃ (lb:List Int) (ge:Int), lb.length = 18 /\ fX 60 ns' cs xs = .tup [.agg (ints lb), ab ge] /\ ((ge = 0 /\ (∀ w ∈ bg ns' xs, w ≠ 0) /\ lb = bA 60 bb (bg ns' xs)) \/ ge = 7) := by
    unfold fX
    rw[QQ (fun h => h hlk'), QN hwB]
    by_cases hz:∀ w ∈ bg ns' xs, w ≠ 0
    · exact⟨_, 0, (awl ns' hl').1, QN hz, .inl ⟨rfl, hz, rfl⟩⟩
    · exact⟨bb, 7, rfl, QQ hz, .inr rfl⟩
  have lb1 := s9 hlb18
  have lb2:(ints lb).length = 18 := by rw[aX, hlb18]
  have lb3 := kL lb
  have pL:ah Tryd.prog G0 30 [.agg [.lit (.int .i64 60), .own N gg 0 ns.length 3], .agg [.vec cs.length (ints cs), .vec xs.length (xs.map ag)]] HC fun r H' => r = .ret (.tup [.agg (ints lb), ab ge]) /\ H' = HC :=
    ah.frame (args' := [dp 60 ns', dT cs xs]) bz rfl (fun i hi _ => match i, hi with
      | 0, _ => fzM
      | 1, _ => wC (.ik _) (xC xs)) (Bk 60 ns' cs xs fitN' hfx bT _ ⟨_, by rw[hlvb], .tup rfl fun i hi _ => match i, hi with
      | 0, _ => .agg rfl fun j hj _ => by simp only[ints, QY]; exact .lit _
      | 1, _ => .lit _⟩)
  refine aG.clo (pL.mono ?_)
  rintro rr Hq ⟨hr, hH⟩
  rw[hr, hH]
  refine⟨trivial, ?_⟩
  simp (config := { maxSteps := 1000000 }) only[go_sem, lb1, lb2, lb3, aa]
  obtain⟨HD, hHD⟩:∃ HD, HD = ext HC [.arr 0 84 (ints lb)] := ⟨_, rfl⟩
  have nD:HD.next = HC.next + 1 := by rw[hHD]; rfl
  have oD:Over HC HD := by rw[hHD]; exact .ext _ _
  have lB3:HD.live HC.next 0 = some (84, ints lb) := by rw[hHD]; exact aq cQ
  have lA3 := (oD.live (g := 0) (by omega)).trans lA2
  refine W.env fun F3 hF3 => ?_
  have r16:F3 16 = .ptr H5.next 0 0 := by rw[hF3]; simp (config := { maxSteps := 1000000 }) only[go_sem, y16, aa]
  have r23:F3 23 = .ptr HC.next 0 0 := by rw[hF3]; simp (config := { maxSteps := 1000000 }) only[go_sem, aa]
  have r24:F3 24 = ab ge := by rw[hF3]; simp (config := { maxSteps := 1000000 }) only[go_sem, aa]
  clear hF3
  rw[<- hHD]
  clear hHD
  have hend:az Tryd.prog G0 H K (.lit (.bool true)) HD := hfin HD (by have := o68.next; omega)
  refine W.vs ?_
  rcases hge with ⟨rfl, hz, hlb⟩ | rfl
  · simp (config := { maxSteps := 1000000 }) only[go_sem, r16, r23, r24, lA3, lB3, la1, la2, la3, lb1, lb2, lb3, aJ, aa]
    refine aG.clo (N2 lb la hlb18 la0.1 (by rw[hlb]; exact(awl ns' hl').2) la0.2 _ _ ⟨trivial, ?_⟩)
    have hcmp:ju (bj (bQ lb la) 18) (bj (bQ la lb) 18) <= 0 := by
      have hbl:(bg ns' xs).length = (bg ns xs).length := by rw[tg, tg, hl']
      have hA':∀ w ∈ bg ns' xs, 1 <= w /\ w <= 60 := fun w hw => by have h1 := B8 hok' w hw; have h2 := hz w hw; omega
      have hB':∀ w ∈ bg ns xs, 1 <= w /\ w <= 60 := fun w hw => by have h1 := B8 hok w hw; have h2 := hpos w hw; omega
      obtain⟨s, hs⟩ := get_of_lt (l := ps) (i := A) (by rw[<- hfk.1]; exact hAn)
      obtain⟨_, q2, _, q4⟩ := hfk.2 A s x hs hxA
      have hsh := q4 R q hq
      rw[<- q2, show cZ 60 0 (cR cs x.parents A xs 0 R) = 60 by unfold cZ; omega, <- hnc]at hsh
      have := Og hok hxA hq hx6 (by rw[hnc]; exact hxf) hsh haq hbq (by rw[aH hva]; exact hv0) hpos
      rw[<- hns']at this
      rw[hlb, hla]
      exact Oi hbl hA' hB' this
    simp (config := { maxSteps := 1000000 }) only[go_sem, hcmp, aa]
    exact hend
  · simp (config := { maxSteps := 1000000 }) only[go_sem, r24, aJ, aa]
    exact hend
end Go.Proofs
