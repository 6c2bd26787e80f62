/-
  Regions that draw their order, with calls that have effects: the rule. Own work: no program stands in this text.
-/
import Derived.Test.YtikgmgmphkalkaaDoorLibB
import Derived.ProofKit
import Derived.SevenTiedAt
import Derived.RecoverIn
import Derived.MakeChecks
import Derived.OpenShut
set_option linter.all false
namespace Go.Hx.Ev
open Go.Hx
variable {P:Program} {G:Nat -> Option (List AVal)} {Γ Γ':au} {H H':AHeap} {w w':World}
def di (all:Array Oper)(d:Nat -> Dt)(s0:St)(K:Nat)(D:Nat -> Bool):St :=
  ⟨aS all d s0.ρ K D, ⟨aL d (bf s0.H (av d K)).get K D, s0.H.next + av d K⟩⟩
theorem uj {all : Array Oper} {bs : List Nat} {K : Nat} (S : Static all bs K) {d : Nat → Dt} {s0 : St} (hg : ∀ i, i < K → GoodAt P G all bs s0 d i) {D : Nat → Bool} {i : Nat} {o : Oper} (hi : i < K) (ho : all[i]? = some o) (hDi : D i = false)
    (hdown:∀ j, j < i -> (cI bs i).testBit j = true -> D j = true) (hup:∀ j, i < j -> j < K -> D j = true -> (cI bs j).testBit i = false):
    ExecOk P G all o (s0.H.next + av d i) (di all d s0 K D) (di all d s0 K (bh D i)) := by
  have hget:∀ j, j < K -> ∃ oj, all[j]? = some oj := fun j hj => ⟨_, QS (QU hj S.le)⟩
  have hgi := hg i hi
  have tgtE:∀ j r, j < K -> cF (d j) r -> r ∈ (d j).f.eff /\ (r ∈ (d j).f.rs \/ (s0.H.next + av d j <= r /\ r < s0.H.next + av d j + (d j).al)) := fun j r hj ht => (hg j hj).eff r ht
  have rangeK:∀ r, r < s0.H.next + av d i -> ((bf s0.H (av d K)).get r = s0.H.get r \/ ∃ j, j < i /\ (fun _:Nat => true) j = true /\ cF (d j) r) := by
    intro r hr
    by_cases h:s0.H.next <= r
    · obtain⟨j, h1, h2, h3⟩ := oW (d := d) (n := i) (c := r - s0.H.next) (by omega)
      have := (hg j (by omega)).al (r - s0.H.next - av d j) (by omega)
      rw[show s0.H.next + av d j + (r - s0.H.next - av d j) = r by omega]at this
      exact .inr ⟨j, h1, rfl, this⟩
    · left
      simp only[bf]
      rw[QQ (by omega)]
  have henv:∀ t, t ∈ o.looksAt all -> aS all d s0.ρ K D t = (canon all d s0 i).ρ t := by
    intro t ht
    show _ = aS all d s0.ρ i (fun _ => true) t
    rw[<- ud (all := all) (d := d) (ρ0 := s0.ρ) (m := i) (n := K) (by omega)]
    refine l8 fun j hj hdj => ?_
    obtain⟨oj, hoj⟩ := hget j hj
    rw[kK hoj]at hdj
    rcases Sq j i with h | rfl | h
    · cases hb:(cI bs i).testBit j with
      | true => rw[hdown j h hb]; simp [h]
      | false => exact absurd ht ((nE (S.apart i j o oj hi h ho hoj hb)).1 t hdj)
    · rw[hDi]; simp
    · cases hD:D j with
      | false => symm; simp; omega
      | true => exact absurd ht ((nE (S.apart j i oj o hj h hoj ho (hup j h hj hD))).2.1 t hdj)
  have hheap:∀ r, r ∈ (d i).f.rs -> aL d (bf s0.H (av d K)).get K D r = (canon all d s0 i).H.get r := by
    intro r hr
    show _ = aL d s0.H.get i (fun _ => true) r
    rw[<- oV (g0 := (bf s0.H (av d K)).get) (rangeK r (hgi.lt r hr)), <- ue (m := i) (n := K) (by omega)]
    refine l9 fun j hj ht => ?_
    obtain⟨he, _⟩ := tgtE j r hj ht
    rcases Sq j i with h | rfl | h
    · cases hb:(cI bs i).testBit j with
      | true => rw[hdown j h hb]; simp [h]
      | false => exact absurd hr ((hgi.apart j h hb).2 r he)
    · rw[hDi]; simp
    · cases hD:D j with
      | false => symm; simp; omega
      | true => exact absurd hr (((hg j hj).apart i h (hup j h hj hD)).1 r he)
  have hal:∀ c, c < (d i).al -> aL d (bf s0.H (av d K)).get K D (s0.H.next + av d i + c) = some .rsv := by
    intro c hc
    have hlt := iY (d := d) hi
    have heff := (hgi.eff _ (hgi.al c hc)).1
    rw[uf]
    · simp only[bf]
      rw[QN (by omega)]
    · intro j hj hD ht
      obtain⟨h1, h2⟩ := tgtE j _ hj ht
      rcases Sq j i with h | rfl | h
      · rcases h2 with h3 | ⟨h2, h3⟩
        · have := (hg j hj).lt _ h3
          have := mV (d := d) (TG h)
          omega
        · have := iY (d := d) h; omega
      · rw[hDi]at hD; cases hD
      · rcases h2 with h3 | ⟨h2, h3⟩
        · exact absurd h3 (((hg j hj).apart i h (hup j h hj hD)).2 _ heff)
        · have := iY (d := d) h; omega
  have := hgi.step o ho (aS all d s0.ρ K D) ⟨aL d (bf s0.H (av d K)).get K D, s0.H.next + av d K⟩ henv hheap hal (by have := iY (d := d) hi; simp only; omega)
  have e1:aS all d s0.ρ K (bh D i) = ay (aS all d s0.ρ K D) o.dst (d i).v := by
    rw[ug hDi hi, kK ho]
    intro j h hj hD t hti
    obtain⟨oj, hoj⟩ := hget j hj
    rw[kK ho]at hti
    rw[kK hoj]
    exact(nE (S.apart j i oj o hj h hoj ho (hup j h hj hD))).2.2 t hti
  have e2:aL d (bf s0.H (av d K)).get K (bh D i) = bY (d i).e (aL d (bf s0.H (av d K)).get K D) := by
    refine uh hDi hi fun j h hj hD r hti htj => ?_
    obtain⟨a1, a2⟩ := tgtE i r hi hti
    obtain⟨b1, b2⟩ := tgtE j r hj htj
    obtain⟨c1, c2⟩ := (hg j hj).apart i h (hup j h hj hD)
    rcases b2 with b3 | ⟨b2, b3⟩
    · exact c2 r a1 b3
    · rcases a2 with a3 | ⟨a2, a3⟩
      · exact c1 r b1 a3
      · have := iY (d := d) h; omega
  unfold di
  rw[e1, e2]
  exact this
theorem pa {all:Array Oper}{bs:List Nat}{K:Nat}{d:Nat -> Dt}{s0:St}(hg:∀ i, i < K -> GoodAt P G all bs s0 d i){D:Nat -> Bool}(hD:∀ j, j < K -> D j = true):di all d s0 K D = canon all d s0 K := by
  unfold di canon jH
  have e1:aS all d s0.ρ K D = aS all d s0.ρ K fun _ => true := funext fun t => l8 fun j hj _ => hD j hj
  have e2:aL d (bf s0.H (av d K)).get K D = aL d s0.H.get K fun _ => true := by
    funext r
    rw[l9 (D' := fun _ => true) fun j hj _ => hD j hj]
    refine oV ?_
    by_cases h:s0.H.next <= r /\ r < s0.H.next + av d K
    · obtain⟨j, h1, h2, h3⟩ := oW (d := d) (n := K) (c := r - s0.H.next) (by omega)
      have := (hg j h1).al (r - s0.H.next - av d j) (by omega)
      rw[show s0.H.next + av d j + (r - s0.H.next - av d j) = r by omega]at this
      exact .inr ⟨j, h1, rfl, this⟩
    · left
      simp only[bf]
      rw[QQ h]
  rw[e1, e2]
theorem uk {all:Array Oper}{K:Nat}{d:Nat -> Dt}{s0:St}{D:Nat -> Bool}(hD:∀ j, j < K -> D j = false):di all d s0 K D = ⟨s0.ρ, bf s0.H (av d K)⟩ := by
  unfold di
  have e1:∀ n, n <= K -> aS all d s0.ρ n D = s0.ρ := by
    intro n
    induction n with
    | zero => intro _; rfl
    | succ n ih => intro h; simp only[aS]; rw[QQ (by simp [hD n h])]; exact ih (by omega)
  have e2:∀ n, n <= K -> aL d (bf s0.H (av d K)).get n D = (bf s0.H (av d K)).get := by
    intro n
    induction n with
    | zero => intro _; rfl
    | succ n ih => intro h; simp only[aL]; rw[QQ (by simp [hD n h])]; exact ih (by omega)
  rw[e1 K (Nat.le_refl _), e2 K (Nat.le_refl _)]
  rfl
variable {n:Nat} {wb:Base} {rd rb:Option Nat} {Q:AX -> St -> Prop} {all:Array Oper} {bs:List Nat} {K:Nat} {id:Nat} {dr:Bool}
theorem um (S : Static all bs K) (hfit : ∀ o, o ∈ all.toList → eC n o = true) {d : Nat → Dt} {s0 : St} (hg : ∀ i, i < K → GoodAt P G all bs s0 d i) (htail : cK P G rd Q all (all.toList.drop K) (canon all d s0 K)) :
    ∀ (r:Nat) (listed:Array Bool) (D:Nat -> Bool) (Γ:au) (a:Act) (w:World), listed.size = all.size -> dG listed all.size = r -> (∀ j, j < all.size -> listed.getD j true = D j) -> (∀ j, D j = true -> j < K) -> rp all D ->
    RelS P G n wb Γ (di all d s0 K D) a w -> cP Γ (di all d s0 K D).H rd rb ->
    ∀ (Q':Exit -> Act -> World -> Prop), (∀ e a' w', fb P G n wb rd rb (wr (.region id all dr)) Γ (di all d s0 K D).H a w Q e a' w' -> Q' e a' w') -> wpAnyIn (cU rb) 0 P .any all Q' r listed a w := by
  intro r
  induction r with
  | zero =>
    intro listed D Γ a w hsz hc hl hlow hL hs hr Q' hq
    have hall:∀ j, j < K -> D j = true := fun j hj => by rw[<- hl j (QU hj S.le)]; exact rq hc j (QU hj S.le)
    have hKs:K = all.size := by
      rcases Q3 K all.size with h | h
      · have h1 := rq hc K h
        rw[hl K h]at h1
        have := hlow K h1
        omega
      · have := S.le; omega
    rw[pa hg hall]at hs hr hq
    exact ru S hfit 0 K listed _ Γ a w (by omega) (Nat.le_refl _) hsz hc (fun j hj => by rw[hl j hj]; exact⟨hlow j, hall j⟩) htail hs hr Q' hq
  | succ r ih =>
    intro listed D Γ a w hsz hc hl hlow hL hs hr Q' hq
    by_cases hall:∀ j, j < K -> D j = true
    · rw[pa hg hall]at hs hr hq
      have hcount:∀ m, m <= all.size -> dG listed m = m - K := by
        intro m
        induction m with
        | zero => intro _; simp [dG]
        | succ m ihm =>
          intro hm
          simp only[dG]
          rw[ihm (by omega), hl m (by omega)]
          by_cases hmK:m < K
          · rw[hall m hmK]; simp; omega
          · have : D m = false := by
              cases hD:D m with
              | false => rfl
              | true => exact absurd (hlow m hD) hmK
            rw[this]
            simp
            omega
      have h1 := hcount all.size (Nat.le_refl _)
      exact ru S hfit (r + 1) K listed _ Γ a w (by have := S.le; omega) (Nat.le_refl _) hsz hc (fun j hj => by rw[hl j hj]; exact⟨hlow j, hall j⟩) htail hs hr Q' hq
    · have hex : ∃ j, j < K ∧ D j = false := by
        by_cases h:∃ j, j < K /\ D j = false
        · exact h
        · refine absurd (fun j hj => ?_) hall
          cases hD:D j with
          | true => rfl
          | false => exact absurd ⟨j, hj, hD⟩ h
      have least:∀ k, (∃ j, j < k /\ j < K /\ D j = false) -> ∃ j, j < K /\ D j = false /\ ∀ i, i < j -> D i = true := by
        intro k
        induction k with
        | zero => rintro⟨j, hj, _⟩; omega
        | succ k ihk =>
          rintro⟨j, h1, h2, h3⟩
          by_cases h:∃ j, j < k /\ j < K /\ D j = false
          · exact ihk h
          · refine⟨j, h2, h3, fun i hi => ?_⟩
            cases hD:D i with
            | true => rfl
            | false => exact absurd ⟨i, by omega, by omega, hD⟩ h
      obtain⟨j0, hj0K, hj0, hbelow⟩ := least K (let ⟨j, h1, h2⟩ := hex; ⟨j, h1, h1, h2⟩)
      have hj0s:j0 < all.size := QU hj0K S.le
      have hr0:j0 ∈ Region.ready .any all listed := by
        refine mem_ready.2 ⟨by rw[hl j0 hj0s]; exact hj0, _, QS hj0s, fun e he hb => ?_⟩
        have hlt := S.down j0 _ (QS hj0s) e he hb
        rw[mg (by omega) false true, hl e.on (by omega)]
        exact hbelow _ hlt
      refine⟨fun h0 => (by rw[h0]at hr0; cases hr0), fun i hi => ?_⟩
      obtain⟨hiun, oi, hoi, hdir⟩ := mem_ready.1 hi
      have his := (RT.1 hoi).1
      have hdirD:∀ e, e ∈ oi.after -> Region.binds .any e = true -> D e.on = true := fun e he hb => by
        have := S.down i oi hoi e he hb
        rw[<- hl e.on (by omega), <- mg (by omega) false true]
        exact hdir e he hb
      have hahead := S.ahead hL i oi
      have hiK:i < K := by
        rcases Q3 i K with h | h
        · exact h
        · have := hahead j0 hoi hdirD (by rw[QQ (by omega)]; omega)
          rw[hj0]at this; cases this
      have hDi:D i = false := by rw[<- hl i his]; exact hiun
      have hex := uj (P := P) (G := G) S hg hiK hoi hDi (fun j hj hb => hahead j hoi hdirD (by rw[QN hiK]; exact hb)) (fun j h1 h2 hD => by
        cases hb:(cI bs j).testBit i with
        | false => rfl
        | true =>
          have hjs:j < all.size := QU h2 S.le
          have := S.ahead hL j _ i (QS hjs) (fun e he hbe => hL j _ hD (QS hjs) e he hbe) (by rw[QN h2]; exact hb)
          rw[hDi]at this; cases this)
      have hoi':oi = all[i] := by
        rw[QS his]at hoi
        exact(Option.some.inj hoi).symm
      refine ui hoi (hfit oi (by rw[hoi']; simp)) hs hr hex ?_
      rintro Γ' a' w' hs' E hn hr' ⟨cv, rfl⟩
      have hc':dG (listed.setIfInBounds i true) all.size = r := by
        have := uO hiun all.size
        rw[QN his]at this
        omega
      refine ih (listed.setIfInBounds i true) (bh D i) Γ' _ w' (by simpa using hsz) hc' ?_ ?_ ?_ hs' hr' Q' fun e a'' w'' hp => hq _ _ _ (hp.step E hn (by rw[hoi']; exact mZ his cv) fun _ h => h)
      · intro j hj
        by_cases hji:j = i
        · subst hji; simp [bh]
        · rw[getD_set_ne true (Ne.symm hji), hl j hj]; simp [bh, hji]
      · intro j hj
        by_cases hji:j = i
        · subst hji; exact hiK
        · simp only[bh, QQ hji]at hj; exact hlow j hj
      · intro k ok hk hok e he hb
        by_cases hki:k = i
        · subst hki
          rw[hoi]at hok
          cases hok
          have := hdirD e he hb
          simp only[bh]
          split
          · rfl
          · exact this
        · simp only[bh, QQ hki]at hk
          have := hL k ok hk hok e he hb
          simp only[bh]
          split
          · rfl
          · exact this
theorem W.Dw {s : St} (K : Nat) (bs : List Nat) (hm : P.follows .mixedOrders = true) (hfit : all.toList.all (eC n) = true) (hst : pt all bs K = true)
    (h:cS P G all (cK P G rd Q all (all.toList.drop K)) bs 0 [] (all.toList.take K) s):W P G n rd (.region id all true) Q s := by
  intro wb Γ a w rb hs hr
  have S := zD hst
  have hfit':∀ o, o ∈ all.toList -> eC n o = true := fun o ho => Rd.1 hfit o ho
  have wf:ef s.H := fun id b hb => hs.heap.next id b hb
  have hcan0:canon all (fun _ => ⟨.lit undef, fun _ => none, 0, ⟨[], []⟩⟩) s 0 = s := rfl
  obtain⟨d, hg, htail⟩ := trace (P := P) (G := G) (all := all) (bs := bs) (s0 := s) (tail := cK P G rd Q all (all.toList.drop K)) S.len S.le K 0 (fun _ => ⟨.lit undef, fun _ => none, 0, ⟨[], []⟩⟩) [] (by omega)
    (fun i hi => by omega) (fun j hj => by omega) (by rw[hcan0]; exact wf) (by rw[hcan0]; exact h)
  refine wpIn_region_any hm ?_
  let w1:World := { w with drawn := w.drawn + 1 }
  have R1:RelH P G Γ s.H w1 := hs.heap.move rfl (nF w) (Nat.le_refl _) (fun id b hb => .inl hb) fun id b hb => hb
  have hs1:RelS P G n wb Γ s a w1 := hs.move (nF w) (Nat.le_refl _) R1
  have hs2:RelS P G n wb Γ ⟨s.ρ, bf s.H (av d K)⟩ a w1 := hs1.move (px _ _) (by simp [bf]) (zF R1 _)
  have hr2:cP Γ (bf s.H (av d K)) rd rb := hr.move fun id b hb => by
    simp only[bf]
    rw[QQ]
    · exact hb
    · have := hs.heap.next id b hb; omega
  have e0:di all d s K (fun _ => false) = ⟨s.ρ, bf s.H (av d K)⟩ := uk fun _ _ => rfl
  refine um (wb := wb) (id := id) (dr := true) S hfit' hg htail all.size _ (fun _ => false) Γ a w1 (by simp) (zG _ (Nat.le_refl _)) ?_ ?_ ?_ ?_ ?_ _ ?_
  · intro j hj
    rw[Ro, SN, QN hj]
    rfl
  · intro j hj; cases hj
  · intro i o hi; cases hi
  · rw[e0]; exact hs2
  · rw[e0]; exact hr2
  · rw[e0]
    intro e a' w' hp
    refine hp.step ?_ (by simp [bf]) (.refl _ _) fun _ h => h
    exact Evo.trans (nF w) (Nat.le_refl _) (px _ _)
end Go.Hx.Ev
namespace Go.Hx.Ev
open Go.Hx
variable {P:Program} {G:Nat -> Option (List AVal)} {Γ Γ':au} {H H':AHeap} {w w':World}
inductive Cln (K:Nat -> Prop):AVal -> Prop
  | lit (v:Value):Cln K (.lit v)
  | nil:Cln K (.vec 0 [])
  | agg {c:List AVal} (h:∀ i (h:i < c.length), Cln K c[i]):Cln K (.agg c)
  | tup {c:List AVal} (h:∀ i (h:i < c.length), Cln K c[i]):Cln K (.tup c)
  | clo {f:FuncId} {a b:List AVal} (h1:∀ i (h:i < a.length), Cln K a[i]) (h2:∀ i (h:i < b.length), Cln K b[i]):Cln K (.clo f a b)
  | own {id g o l z:Nat} (h:K id):Cln K (.own id g o l z)
  | ptr {id g o:Nat} (h:K id):Cln K (.ptr id g o)
theorem Cln.mono {K K':Nat -> Prop}{v:AVal}(h:Cln K v)(hk:∀ id, K id -> K' id):Cln K' v := by
  induction h with
  | lit v => exact .lit v
  | nil => exact .nil
  | agg _ ih => exact .agg ih
  | tup _ ih => exact .tup ih
  | clo _ _ ih1 ih2 => exact .clo ih1 ih2
  | own h => exact .own (hk _ h)
  | ptr h => exact .ptr (hk _ h)
theorem Cln.fz {S:Nat -> Prop}{nx:Nat}{v:AVal}(h:Cln (fun id => ¬ S id /\ id < nx) v):Fz S H nx v v := by
  induction h with
  | lit v => exact .lit v
  | nil => exact .vec rfl fun i h => absurd h (Q5 _)
  | agg _ ih => exact .agg rfl fun i h _ => ih i h
  | tup _ ih => exact .tup rfl fun i h _ => ih i h
  | clo _ _ ih1 ih2 => exact .clo rfl rfl (fun i h _ => ih1 i h) fun i h _ => ih2 i h
  | own h => exact .own h.2 h.1
  | ptr h => exact .ptr h.2 h.1
theorem Cln.sound {K : Nat → Prop} {Γ₁ Γ₂ : au} {H₁ H₂ : AHeap} (hK : ∀ id, K id → H₂.get id = H₁.get id ∧ Γ₂ id = Γ₁ id) (hn : H₁.next ≤ H₂.next) {v : AVal} (h : Cln K v) :
    ∀ {cv:Value}, RelV P Γ₁ H₁ w v cv -> RelV P Γ₂ H₂ w v cv := by
  induction h with
  | lit v => intro cv h; cases h; exact .lit _
  | nil =>
    intro cv h
    cases h with
    | vec0 a cap => exact .vec0 a cap
    | vec hb hlt hlen hcs hcell hrel => exact .vec0 _ _
  | agg _ ih => intro cv h; cases h with | agg hcs hrel => exact .agg hcs fun i h1 h2 => ih i h1 (hrel i h1 h2)
  | tup _ ih => intro cv h; cases h with | tup hcs hrel => exact .tup hcs fun i h1 h2 => ih i h1 (hrel i h1 h2)
  | clo _ _ ih1 ih2 => intro cv h; cases h with | clo hfs hcs hf hc => exact .clo hfs hcs (fun i h1 h2 => ih1 i h1 (hf i h1 h2)) fun i h1 h2 => ih2 i h1 (hc i h1 h2)
  | own h =>
    intro cv hv
    cases hv with
    | own hv =>
      obtain⟨a, b, c, d⟩ := hv
      obtain⟨e1, e2⟩ := hK _ h
      refine .own ⟨by omega, b, by rw[e1]; exact c, fun g e cells hg => ?_⟩
      rw[e1]at hg
      rw[e2]
      exact d g e cells hg
  | ptr h =>
    intro cv hv
    cases hv with
    | ptr hv =>
      obtain⟨a, b, c, d⟩ := hv
      obtain⟨e1, e2⟩ := hK _ h
      refine .ptr ⟨by omega, b, by rw[e1]; exact c, fun g e cells hg => ?_⟩
      rw[e1]at hg
      rw[e2]
      exact d g e cells hg
def iJ (lo hi:Nat)(lv:Nat -> Bool)(g:Nat -> Option Blk):Nat -> Option Blk := fun id => if lo <= id /\ id < hi then (if lv id = true then g id else some (.arr 0 0 [])) else none
def qJ (lo hi:Nat):List Nat := (List.range (hi - lo)).map (· + lo)
theorem Dx {lo hi r:Nat}(h1:lo <= r)(h2:r < hi):r ∈ qJ lo hi := by
  unfold qJ
  rw[Q6]
  exact⟨r - lo, by rw[QW]; omega, by omega⟩
open Classical in
theorem kE.mk {f : FuncId} {first cap args args' : List AVal} {v : AVal} (Hs Hs' : AHeap) (kp : Nat → Prop) (lv : Nat → Bool) (rs : List Nat) (hG : el G)
    (hrs:∀ r, r ∈ rs -> r < H.next) (hnx:Hs.next = H.next) (hle:Hs.next <= Hs'.next)
    (hkp:∀ id, kp id -> id ∈ rs /\ Hs.get id = H.get id /\ Hs'.get id = H.get id /\ ∃ g e c, H.get id = some (.arr g e c) /\ ∀ i (h:i < c.length), Cln kp c[i])
    (hgone:∀ id, ¬ kp id -> Hs.get id = none)
    (hl:args'.length = (first ++ args ++ cap).length)
    (hargs:∀ H2:AHeap, (∀ r, r ∈ rs -> H2.get r = H.get r) -> ∀ i (h:i < (first ++ args ++ cap).length) (h':i < args'.length), Fz (fun id => ¬ kp id) H2 H.next (first ++ args ++ cap)[i] args'[i])
    (hcall:ah P G f args' Hs fun r H' => r = .ret v /\ H' = Hs')
    (hv:Cln (fun id => kp id \/ (H.next <= id /\ id < Hs'.next /\ lv id = true)) v)
    (hnew:∀ id, H.next <= id -> id < Hs'.next -> lv id = true -> ∃ g e c, Hs'.get id = some (.arr g e c) /\ ∀ i (h:i < c.length), Cln (fun id => kp id \/ (H.next <= id /\ id < Hs'.next /\ lv id = true)) c[i]):
    kE P G (.clo f first cap) args H v (iJ H.next Hs'.next lv Hs'.get) (Hs'.next - H.next) ⟨qJ H.next Hs'.next, rs⟩ := by
  have hsome:∀ id, H.next <= id -> id < Hs'.next -> (iJ H.next Hs'.next lv Hs'.get id).isSome = true := by
    intro id h1 h2
    unfold iJ
    rw[QN ⟨h1, h2⟩]
    split
    · rename_i h3
      obtain⟨g, e, c, h4, _⟩ := hnew id h1 h2 h3
      rw[h4]; rfl
    · rfl
  have hout:∀ id, (iJ H.next Hs'.next lv Hs'.get id).isSome = true -> H.next <= id /\ id < Hs'.next := by
    intro id h
    unfold iJ at h
    split at h
    · assumption
    · cases h
  refine⟨hrs, fun r hr => ?_, fun c hc => hsome _ (by omega) (by omega), ?_⟩
  · obtain⟨h1, h2⟩ := hout r hr
    exact⟨Dx h1 h2, .inr ⟨h1, by omega⟩⟩
  intro H2 hag hres hn2
  refine aG.clo ⟨hcall.1, fun Γ w cargs R hr => ?_⟩
  let S:Nat -> Prop := fun id => ¬ kp id
  have kpO:∀ id, ¬ S id -> kp id := fun id h => Re h
  have hkH2:∀ id, kp id -> H2.get id = H.get id := fun id h => hag id (hkp id h).1
  have hlow:∀ id, kp id -> id < H.next := fun id h => hrs id (hkp id h).1
  have F:FzH S H2 Hs := by
    refine⟨fun id hs => hgone id hs, fun id b hs hb => ?_, fun id hs hb => ?_⟩
    · have hk := kpO id hs
      obtain⟨h1, h2, h3, g, e, c, h4, h5⟩ := hkp id hk
      rw[hkH2 id hk, h4]at hb
      cases hb
      refine⟨by rw[hnx]; exact hlow id hk, .arr g e c, by rw[h2, h4], rfl, rfl, rfl, fun i hi _ => ?_⟩
      exact((h5 i hi).mono fun id hk => ⟨fun hs => hs hk, by rw[hnx]; exact hlow id hk⟩).fz
    · have hk := kpO id hs
      obtain⟨h1, h2, h3, g, e, c, h4, h5⟩ := hkp id hk
      rw[hkH2 id hk, h4]at hb
      cases hb
  have R0:RelH P G (eh S Γ) Hs w := F.rel hG R
  have hr0:cG P (eh S Γ) Hs w args' cargs := ⟨by have := hr.1; omega, fun i h1 h2 => (by
    have := hargs H2 hag i (by omega) h1
    rw[<- hnx]at this
    exact this.sound R F (hr.2 i (by omega) h2))⟩
  refine(hcall.2 _ w cargs R0 hr0).mono ?_
  rintro e w' ⟨r, H', Γ', hend, ⟨rfl, rfl⟩, R', E, hn⟩
  let nw:Nat -> Prop := fun id => H.next <= id /\ id < H'.next
  let lw:Nat -> Prop := fun id => H.next <= id /\ id < H'.next /\ lv id = true
  let Γ3:au := fun id => if lw id then Γ' id else Γ id
  let H3:AHeap := ⟨bY (iJ H.next H'.next lv H'.get) H2.get, H2.next⟩
  have hnle:H'.next <= H2.next := by omega
  have g3l:∀ id, lw id -> Γ3 id = Γ' id := fun id h => QN h
  have g3o:∀ id, ¬ lw id -> Γ3 id = Γ id := fun id h => QQ h
  have kold:∀ id, kp id -> ¬ nw id := fun id h hn => by have := hlow id h; have := hn.1; omega
  have koldl:∀ id, kp id -> ¬ lw id := fun id h hn => kold id h ⟨hn.1, hn.2.1⟩
  have gk:∀ id, kp id -> Γ' id = Γ id := by
    intro id hk
    obtain⟨h1, h2, h3, g, e, c, h4, h5⟩ := hkp id hk
    have hlo := hlow id hk
    obtain⟨x, hx, hle'⟩ := E.live id (by omega) (by omega) (.arr g e c) (by rw[h3, h4])
    rw[h2, h4]at hx
    cases hx
    rw[(hle'.2 rfl).1]
    exact gJ fun hs => hs hk
  have h3new:∀ id, nw id -> H3.get id = iJ H.next H'.next lv H'.get id := by
    intro id h
    show bY _ _ id = _
    unfold bY
    have := hsome id h.1 h.2
    split
    · rename_i b hb; rw[hb]
    · rename_i hb; rw[hb]at this; cases this
  have h3live:∀ id, lw id -> H3.get id = H'.get id := by
    intro id h
    rw[h3new id ⟨h.1, h.2.1⟩]
    unfold iJ
    rw[QN ⟨h.1, h.2.1⟩, QN h.2.2]
  have h3dead:∀ id, nw id -> ¬ lw id -> H3.get id = some (.arr 0 0 []) := by
    intro id h hl
    rw[h3new id h]
    unfold iJ
    rw[QN h, QQ fun h2 => hl ⟨h.1, h.2, h2⟩]
  have h3old:∀ id, ¬ nw id -> H3.get id = H2.get id := by
    intro id h
    show bY _ _ id = _
    exact kF fun h' => h (hout id h')
  have hrsv:∀ id, nw id -> H2.get id = some .rsv := by
    intro id h
    have := hres (id - H.next) (by have := h.1; have := h.2; omega)
    rwa [show H.next + (id - H.next) = id by have := h.1; omega]at this
  have hΓnew:∀ id, nw id -> Γ id = none := fun id h => R.rsv id (hrsv id h)
  have hfar:∀ id b base n, lw id -> Γ' id = some (b, base, n) -> w.heap.size <= b := by
    intro id b base n hid hb
    refine Tn fun hlt => ?_
    have hown:(eh S Γ).dZ b := Re fun hno => (E.keep b hlt hno).2 ⟨id, base, n, hb⟩
    obtain⟨id0, base0, n0, h0⟩ := hown
    obtain⟨hs0, h0⟩ := iZ h0
    have hk0 := kpO id0 hs0
    rw[<- gk id0 hk0]at h0
    have := R'.inj _ _ _ _ _ _ _ h0 hb
    subst this
    exact koldl _ hk0 hid
  have EE:Evo Γ H2 w Γ3 H3 w' := by
    refine⟨E.os, E.tape, E.output, E.size, fun b hb ho => ⟨(E.keep b hb fun h => ho (ry h)).1, ?_⟩, fun id h1 h2 x' hx' => ?_, E.frz⟩
    · rintro⟨id, base, n, h⟩
      by_cases hl:lw id
      · rw[g3l id hl]at h
        have := hfar id b base n hl h
        omega
      · rw[g3o id hl]at h
        exact ho ⟨id, base, n, h⟩
    · by_cases hnw:nw id
      · exact⟨.rsv, hrsv id hnw, trivial⟩
      · rw[h3old id hnw]at hx'
        refine⟨x', hx', ?_⟩
        have hg:Γ3 id = Γ id := g3o id fun h => hnw ⟨h.1, h.2.1⟩
        cases x' with
        | arr g e c => exact⟨Nat.le_refl _, fun _ => ⟨hg, rfl, rfl⟩⟩
        | loop => exact⟨hg, rfl, rfl, rfl, rfl, rfl⟩
        | rsv => trivial
        | mp => exact hg
  have hn3:H2.next <= H3.next := Nat.le_refl _
  have hK:∀ id, (kp id \/ lw id) -> H3.get id = H'.get id /\ Γ3 id = Γ' id := by
    rintro id (h | h)
    · refine⟨?_, ?_⟩
      · rw[h3old id (kold id h), hkH2 id h, (hkp id h).2.2.1]
      · rw[g3o id (koldl id h), gk id h]
    · exact⟨h3live id h, g3l id h⟩
  have hle3:H'.next <= H3.next := hnle
  have hidden:∀ id b base n, ¬ kp id -> Γ id = some (b, base, n) -> w'.heap[b]? = w.heap[b]? := by
    intro id b base n hk h
    refine(E.keep b (R.lt _ _ _ _ h) ?_).1
    rintro⟨id0, base0, n0, h0⟩
    obtain⟨hs0, h0⟩ := iZ h0
    have := R.inj _ _ _ _ _ _ _ h h0
    subst this
    exact hs0 hk
  have R3:RelH P G Γ3 H3 w' := by
    refine⟨?_, ?_, ?_, ?_, ?_, ?_, ?_, ?_, ?_, ?_⟩
    · intro id g e cells hg
      have main:(kp id \/ lw id) -> (∀ i (h:i < cells.length), Cln (fun id => kp id \/ lw id) cells[i]) -> H'.get id = some (.arr g e cells) -> _ := fun hid hc hg' => R'.arr id g e cells hg'
      have fin : (kp id ∨ lw id) → (∀ i (h : i < cells.length), Cln (fun id => kp id ∨ lw id) cells[i]) → H'.get id = some (.arr g e cells) → (match Γ3 id with
          | some (b, base, n) => ∃ c, w'.heap[b]? = some (.cells c e (0, 0)) /\ c.size = n /\ base + cells.length <= n /\
            ∀ i (h:i < cells.length), ∃ cv, c[base + i]? = some cv /\ RelV P Γ3 H3 w' cells[i] cv
          | none => cells = []) := by
        intro hid hc hg'
        have h1 := R'.arr id g e cells hg'
        rw[(hK id hid).2]
        cases hΓ:Γ' id with
        | none => rw[hΓ]at h1; exact h1
        | some y =>
          obtain⟨b, base, n⟩ := y
          rw[hΓ]at h1
          obtain⟨c, a1, a2, a3, a4⟩ := h1
          refine⟨c, a1, a2, a3, fun i hi => ?_⟩
          obtain⟨cv, b1, b2⟩ := a4 i hi
          exact⟨cv, b1, (hc i hi).sound hK hle3 b2⟩
      by_cases hl:lw id
      · have hg' := hg
        rw[h3live id hl]at hg'
        obtain⟨g0, e0, c0, h4, h5⟩ := hnew id hl.1 hl.2.1 hl.2.2
        rw[h4]at hg'
        cases hg'
        exact fin (.inr hl) h5 h4
      · by_cases hnw:nw id
        · rw[h3dead id hnw hl]at hg
          cases hg
          rw[g3o id hl, hΓnew id hnw]
        · rw[h3old id hnw]at hg
          by_cases hk:kp id
          · obtain⟨h1, h2, h3, g0, e0, c0, h4, h5⟩ := hkp id hk
            rw[hkH2 id hk, h4]at hg
            cases hg
            exact fin (.inl hk) (fun i hi => (h5 i hi).mono fun _ h => .inl h) (by rw[h3, h4])
          · have h1 := R.arr id g e cells hg
            rw[g3o id hl]
            cases hΓ:Γ id with
            | none => rw[hΓ]at h1; exact h1
            | some y =>
              obtain⟨b, base, n⟩ := y
              rw[hΓ]at h1
              obtain⟨c, a1, a2, a3, a4⟩ := h1
              refine⟨c, by rw[hidden id b base n hk hΓ]; exact a1, a2, a3, fun i hi => ?_⟩
              obtain⟨cv, b1, b2⟩ := a4 i hi
              exact⟨cv, b1, b2.aT EE hn3⟩
    · intro id st pend n env ps asg body hg
      by_cases hl:lw id
      · rw[h3live id hl]at hg
        obtain⟨g0, e0, c0, h4, h5⟩ := hnew id hl.1 hl.2.1 hl.2.2
        rw[h4]at hg
        cases hg
      · by_cases hnw:nw id
        · rw[h3dead id hnw hl]at hg; cases hg
        · rw[h3old id hnw]at hg
          have hk:¬ kp id := fun hk => by
            obtain⟨h1, h2, h3, g0, e0, c0, h4, h5⟩ := hkp id hk
            rw[hkH2 id hk, h4]at hg
            cases hg
          obtain⟨b, r, a1, a2, a3, a4, a5, a6, a7, a8, a9⟩ := R.loop id st pend n env ps asg body hg
          exact⟨b, r, by rw[g3o id hl]; exact a1, by rw[hidden id b 0 0 hk a1]; exact a2, a3, a4, a5, a6, a7, a8, fun t ht => (a9 t ht).aT EE hn3⟩
    · intro id es hg
      by_cases hl:lw id
      · rw[h3live id hl]at hg
        obtain⟨g0, e0, c0, h4, h5⟩ := hnew id hl.1 hl.2.1 hl.2.2
        rw[h4]at hg
        cases hg
      · by_cases hnw:nw id
        · rw[h3dead id hnw hl]at hg; cases hg
        · rw[h3old id hnw]at hg
          have hk:¬ kp id := fun hk => by
            obtain⟨h1, h2, h3, g0, e0, c0, h4, h5⟩ := hkp id hk
            rw[hkH2 id hk, h4]at hg
            cases hg
          obtain⟨b, a1, a2⟩ := R.mp id es hg
          exact⟨b, by rw[g3o id hl]; exact a1, by rw[hidden id b 0 0 hk a1]; exact a2⟩
    · intro id hg
      have hnw:¬ nw id := fun hnw => by
        by_cases hl:lw id
        · rw[h3live id hl]at hg
          obtain⟨g0, e0, c0, h4, h5⟩ := hnew id hl.1 hl.2.1 hl.2.2
          rw[h4]at hg
          cases hg
        · rw[h3dead id hnw hl]at hg; cases hg
      rw[h3old id hnw]at hg
      rw[g3o id fun h => hnw ⟨h.1, h.2.1⟩]
      exact R.rsv id hg
    · intro id id' b base n base' n' h h'
      by_cases hl:lw id <;> by_cases hl':lw id'
      · rw[g3l id hl]at h; rw[g3l id' hl']at h'; exact R'.inj _ _ _ _ _ _ _ h h'
      · rw[g3l id hl]at h; rw[g3o id' hl']at h'
        have := hfar id b base n hl h
        have := R.lt _ _ _ _ h'
        omega
      · rw[g3o id hl]at h; rw[g3l id' hl']at h'
        have := hfar id' b base' n' hl' h'
        have := R.lt _ _ _ _ h
        omega
      · rw[g3o id hl]at h; rw[g3o id' hl']at h'; exact R.inj _ _ _ _ _ _ _ h h'
    · intro id x h
      by_cases hl:lw id
      · obtain⟨g0, e0, c0, h4, h5⟩ := hnew id hl.1 hl.2.1 hl.2.2
        exact⟨_, by rw[h3live id hl]; exact h4⟩
      · rw[g3o id hl]at h
        by_cases hnw:nw id
        · exact⟨_, h3dead id hnw hl⟩
        · obtain⟨y, hy⟩ := R.dom id x h
          exact⟨y, by rw[h3old id hnw]; exact hy⟩
    · intro id b base n h
      by_cases hl:lw id
      · rw[g3l id hl]at h; exact R'.lt _ _ _ _ h
      · rw[g3o id hl]at h; exact QU (R.lt _ _ _ _ h) E.size
    · intro id y h
      by_cases hnw:nw id
      · have := hnw.2
        exact QU this hnle
      · rw[h3old id hnw]at h; exact R.next id y h
    · intro g cells h
      exact(R.glob g cells h).aT EE hn3
    · exact R.mI EE
  refine⟨.ret v, H3, Γ3, ?_, ⟨rfl, rfl⟩, R3, EE, hn3⟩
  cases e with
  | returned cv => exact hv.sound hK hle3 hend
  | panicked chain => exact hend.elim
  | outgrown => exact hend.elim
end Go.Hx.Ev
namespace Go.Hx
inductive BT (α:Type) where
  | nil
  | node (v:Option α) (l r:BT α)
inductive EBlk where
  | arr (gen:Nat) (elem:TypeId) (cells:List AVal)
  | loop (st:LoopState) (pend:Option Code) (n:Nat) (env:BT AVal) (ps:Array Tmp) (asg body:Code)
  | mp (es:List (Int × Int))
structure EH where
  hp:BT EBlk
  nx:Nat
inductive RR where
  | ev (x:AX) (env:BT AVal) (h:EH)
  | ret (v:AVal) (h:EH)
  | panic (h:EH)
abbrev R := Option RR
noncomputable def dH:BT AVal -> Nat -> Option AVal :=
  BT.rec (motive := fun _ => Nat -> Option AVal) (fun _ => none) (fun v _ _ gl gr n =>
    Nat.rec (motive := fun _ => Option AVal) v (fun m _ => Nat.rec (motive := fun _ => Option AVal) (gl (Nat.div m 2)) (fun _ _ => gr (Nat.div m 2)) (Nat.mod m 2)) n)
noncomputable def aN:BT EBlk -> Nat -> Option EBlk :=
  BT.rec (motive := fun _ => Nat -> Option EBlk) (fun _ => none) (fun v _ _ gl gr n =>
    Nat.rec (motive := fun _ => Option EBlk) v (fun m _ => Nat.rec (motive := fun _ => Option EBlk) (gl (Nat.div m 2)) (fun _ _ => gr (Nat.div m 2)) (Nat.mod m 2)) n)
noncomputable def rG:Nat -> Nat -> AVal -> (BT AVal -> R) -> R :=
  Nat.rec (motive := fun _ => Nat -> AVal -> (BT AVal -> R) -> R) (fun _ _ _ => none) (fun _ ih n x k =>
    Nat.rec (motive := fun _ => R) (k (.node (some x) .nil .nil)) (fun m _ => Nat.rec (motive := fun _ => R) (ih (Nat.div m 2) x fun l => k (.node none l .nil)) (fun _ _ => ih (Nat.div m 2) x fun r => k (.node none .nil r)) (Nat.mod m 2)) n)
noncomputable def kP:BT AVal -> Nat -> AVal -> (BT AVal -> R) -> R :=
  BT.rec (motive := fun _ => Nat -> AVal -> (BT AVal -> R) -> R) (rG 20) (fun v l r sl sr n x k =>
    Nat.rec (motive := fun _ => R) (k (.node (some x) l r)) (fun m _ => Nat.rec (motive := fun _ => R) (sl (Nat.div m 2) x fun l => k (.node v l r)) (fun _ _ => sr (Nat.div m 2) x fun r => k (.node v l r)) (Nat.mod m 2)) n)
noncomputable def rH:Nat -> Nat -> EBlk -> (BT EBlk -> R) -> R :=
  Nat.rec (motive := fun _ => Nat -> EBlk -> (BT EBlk -> R) -> R) (fun _ _ _ => none) (fun _ ih n x k =>
    Nat.rec (motive := fun _ => R) (k (.node (some x) .nil .nil)) (fun m _ => Nat.rec (motive := fun _ => R) (ih (Nat.div m 2) x fun l => k (.node none l .nil)) (fun _ _ => ih (Nat.div m 2) x fun r => k (.node none .nil r)) (Nat.mod m 2)) n)
noncomputable def fh:BT EBlk -> Nat -> EBlk -> (BT EBlk -> R) -> R :=
  BT.rec (motive := fun _ => Nat -> EBlk -> (BT EBlk -> R) -> R) (rH 20) (fun v l r sl sr n x k =>
    Nat.rec (motive := fun _ => R) (k (.node (some x) l r)) (fun m _ => Nat.rec (motive := fun _ => R) (sl (Nat.div m 2) x fun l => k (.node v l r)) (fun _ _ => sr (Nat.div m 2) x fun r => k (.node v l r)) (Nat.mod m 2)) n)
noncomputable def cJ (n:Nat)(k:Nat -> R):R := Nat.rec (motive := fun _ => R) (k 0) (fun m _ => k (Nat.succ m)) n
noncomputable def mm (i:Int)(k:Int -> R):R := Int.rec (motive := fun _ => R) (fun n => cJ n fun n => k (.ofNat n)) (fun n => cJ n fun n => k (.negSucc n)) i
noncomputable def ve (b:Bool)(k:Bool -> R):R := Bool.rec (motive := fun _ => R) (k false) (k true) b
noncomputable def fj:List AVal -> (List AVal -> R) -> R :=
  List.rec (motive := fun _ => (List AVal -> R) -> R) (fun k => k []) (fun x _ ih k => ih fun l => k (x :: l))
noncomputable def rI:List (Int × Int) -> (List (Int × Int) -> R) -> R :=
  List.rec (motive := fun _ => (List (Int × Int) -> R) -> R) (fun k => k []) (fun p _ ih k => Prod.casesOn (motive := fun _ => R) p fun a b => mm a fun a => mm b fun b => ih fun l => k ((a, b) :: l))
noncomputable def vf (v:Value)(k:Value -> R):R := match v with
  | .int i n => mm n fun n => k (.int i n)
  | .bool b => ve b fun b => k (.bool b)
  | v => k v
noncomputable def vg (v:Value)(k:AVal -> R):R := vf v fun v => k (.lit v)
noncomputable def vh (n:Nat)(cs:List AVal)(k:AVal -> R):R := cJ n fun n => fj cs fun cs => k (.vec n cs)
noncomputable def vj (a b c d e:Nat)(k:AVal -> R):R := cJ a fun a => cJ b fun b => cJ c fun c => cJ d fun d => cJ e fun e => k (.own a b c d e)
noncomputable def vk (a b c:Nat)(k:AVal -> R):R := cJ a fun a => cJ b fun b => cJ c fun c => k (.ptr a b c)
noncomputable def vm (cs:List AVal)(n:Nat)(k:AVal -> R):R := cJ n fun n => fj cs fun cs => k (.vptr cs n)
noncomputable def vp (cs:List AVal)(k:AVal -> R):R := fj cs fun cs => k (.agg cs)
noncomputable def vq (cs:List AVal)(k:AVal -> R):R := fj cs fun cs => k (.tup cs)
noncomputable def vr (f:FuncId)(a b:List AVal)(k:AVal -> R):R := cJ f fun f => fj a fun a => fj b fun b => k (.clo f a b)
noncomputable def vt (n:Nat)(k:AVal -> R):R := cJ n fun n => k (.yld n)
noncomputable def jd:AVal -> (AVal -> R) -> R := fun v => AVal.casesOn (motive_1 := fun _ => (AVal -> R) -> R) v vg vh vj vk vm vp vq vr vt
noncomputable def aw (env:BT AVal):Env := fun t => Option.casesOn (motive := fun _ => AVal) (dH env t) (.lit undef) fun v => v
noncomputable def EBlk.je:EBlk -> Blk
  | .arr g e c => .arr g e c
  | .loop st p n env ps a b => .loop st p n (aw env) ps a b
  | .mp es => .mp es
noncomputable def ak (h:EH):AHeap := ⟨fun j => (aN h.hp j).map EBlk.je, h.nx⟩
noncomputable def eG (env:BT AVal)(d:Option Tmp)(v:AVal)(k:BT AVal -> R):R :=
  Option.casesOn (motive := fun _ => R) d (k env) fun d => kP env d v k
noncomputable def vu (G:Nat -> Option (List AVal))(g:Nat)(k:AVal -> R):R :=
  Option.casesOn (motive := fun _ => R) (G g) (k (.lit (.pointer (some ⟨g, 0, none⟩)))) fun cells => fj cells fun cells => k (.vptr cells 0)
noncomputable def vv (env:BT AVal)(t:Tmp)(k:AVal -> R):R := Option.casesOn (motive := fun _ => R) (dH env t) (k (.lit undef)) k
noncomputable def bJ (G:Nat -> Option (List AVal))(env:BT AVal)(x:Operand)(k:AVal -> R):R :=
  Operand.casesOn (motive := fun _ => R) x (fun t => vv env t k) (fun v => k (.lit v)) (fun g => vu G g k) (fun f => k (.clo f [] []))
noncomputable def kQ (G:Nat -> Option (List AVal))(env:BT AVal)(l:List Operand):(List AVal -> R) -> R :=
  List.rec (motive := fun _ => (List AVal -> R) -> R) (fun k => k []) (fun x _ ih k => bJ G env x fun x => ih fun l => k (x :: l)) l
inductive OR where
  | fail
  | val (v:AVal)
  | eff (v:AVal) (r g:Nat) (e:TypeId) (cells:List AVal) (fresh:Bool)
  | effM (v:AVal) (r:Nat) (es:List (Int × Int)) (fresh:Bool)
noncomputable def OR.opt (o:Option AVal):OR := Option.casesOn (motive := fun _ => OR) o .fail .val
noncomputable def pE (k:IntKind)(i:Int):Int :=
  match k with
  | .i64 => Int.casesOn (motive := fun _ => Int) i
      (fun n => Bool.casesOn (motive := fun _ => Int) (Nat.ble n 9223372036854775807) (IntKind.i64.wrap (.ofNat n)) (.ofNat n))
      (fun n => Bool.casesOn (motive := fun _ => Int) (Nat.ble n 9223372036854775807) (IntKind.i64.wrap (.negSucc n)) (.negSucc n))
  | k => k.wrap i
noncomputable def pF (a b:Int):Bool :=
  Int.casesOn (motive := fun _ => Bool) a
    (fun m => Int.casesOn (motive := fun _ => Bool) b (fun n => Nat.ble (Nat.succ m) n) fun _ => false)
    (fun m => Int.casesOn (motive := fun _ => Bool) b (fun _ => true) fun n => Nat.ble (Nat.succ n) m)
noncomputable def pG (a b:Int):Bool :=
  Int.casesOn (motive := fun _ => Bool) a
    (fun m => Int.casesOn (motive := fun _ => Bool) b (fun n => Nat.beq m n) fun _ => false)
    (fun m => Int.casesOn (motive := fun _ => Bool) b (fun _ => false) fun n => Nat.beq m n)
noncomputable def vw (P:Program)(h:EH)(t:TypeId)(a:AVal):Option AVal :=
  match a with
  | .ptr id gen off => match aN h.hp id with
    | some (.arr g _ cells) => Bool.casesOn (motive := fun _ => Option AVal) (Nat.beq g gen) none (dL P t cells off)
    | _ => none
  | .vptr cells off => dL P t cells off
  | _ => none
noncomputable def nI (P:Program)(h:EH)(t:TypeId)(a v:AVal):OR :=
  match a with
  | .ptr id gen off => match aN h.hp id with
    | some (.arr g e cells) => Bool.casesOn (motive := fun _ => OR) (Nat.beq g gen) .fail
        (if v.cells.length = P.cellsOf t /\ v.cells.all AVal.one = true /\ off + v.cells.length <= cells.length then .eff (.lit undef) id g e (setAt cells off v.cells) false else .fail)
    | _ => .fail
  | _ => .fail
noncomputable def pH (h:EH)(f:FP)(r:Option (AVal × AHeap)):OR :=
  match r with
  | none => .fail
  | some (v, H') => match f.eff with
    | [] => .val v
    | r :: _ => match H'.get r with
      | some (.arr g e c) => .eff v r g e c (Nat.beq r h.nx)
      | some (.mp es) => .effM v r es (Nat.beq r h.nx)
      | _ => .fail
noncomputable def vz (h:EH)(k:AVal -> EH -> R)(o:OR):R :=
  OR.casesOn (motive := fun _ => R) o none (fun v => jd v fun v => k v h)
   (fun v r g e c fresh => cJ r fun r => cJ g fun g => fj c fun c => fh h.hp r (EBlk.arr g e c) fun hp => jd v fun v => k v ⟨hp, Bool.casesOn (motive := fun _ => Nat) fresh h.nx (Nat.succ h.nx)⟩)
   (fun v r es fresh => cJ r fun r => rI es fun es => fh h.hp r (EBlk.mp es) fun hp => jd v fun v => k v ⟨hp, Bool.casesOn (motive := fun _ => Nat) fresh h.nx (Nat.succ h.nx)⟩)
structure GD where
  z:AVal
  ok:AVal -> Bool
structure EP where
  P:Program
  G:Nat -> Option (List AVal)
  gd:FuncId -> Option GD
  /-- What is known already of a function's calls. -/
  known:FuncId -> Option (List (List AVal × AVal))
  /-- What a call of a function without a body comes to. -/
  ext:FuncId -> Option (List AVal -> Option AVal) := fun _ => none
noncomputable def bw (f:AVal -> Option (AVal × List Nat))(l:List AVal):Option (List AVal × List Nat) :=
  List.rec (motive := fun _ => Option (List AVal × List Nat)) (some ([], [])) (fun x _ r => match f x, r with
    | some (y, a), some (l, b) => some (y :: l, a ++ b)
    | _, _ => none) l
noncomputable def fR (h:EH)(fuel:Nat):AVal -> Option (AVal × List Nat) :=
  Nat.rec (motive := fun _ => AVal -> Option (AVal × List Nat)) (fun _ => none) (fun _ ih v => match v with
    | .lit v => some (.lit v, [])
    | .vec n c => (bw ih c).map fun p => (.vec n p.1, p.2)
    | .vptr c o => (bw ih c).map fun p => (.vptr p.1 o, p.2)
    | .agg c => (bw ih c).map fun p => (.agg p.1, p.2)
    | .tup c => (bw ih c).map fun p => (.tup p.1, p.2)
    | .clo f a b => match bw ih a, bw ih b with
      | some p, some q => some (.clo f p.1 q.1, p.2 ++ q.2)
      | _, _ => none
    | .own id g o l z => match aN h.hp id with
      | some (.arr g' _ cells) => if g' = g /\ o + l * z <= cells.length then (bw ih ((cells.drop o).take (l * z))).map fun p => (.vec l p.1, id :: p.2) else none
      | _ => none
    | .ptr id g o => match aN h.hp id with
      | some (.arr g' _ (x :: cells)) => if g' = g then (bw ih (x :: cells)).map fun p => (.vptr p.1 o, id :: p.2) else none
      | _ => none
    | .yld _ => none) fuel
noncomputable def jf (f:AVal -> Option AVal)(l:List AVal):Option (List AVal) :=
  List.rec (motive := fun _ => Option (List AVal)) (some []) (fun x _ r => match f x, r with
    | some y, some l => some (y :: l)
    | _, _ => none) l
noncomputable def mn (h:EH)(fuel:Nat):AVal -> Option AVal :=
  Nat.rec (motive := fun _ => AVal -> Option AVal) (fun _ => none) (fun _ ih v => match v with
    | .lit v => some (.lit v)
    | .agg c => (jf ih c).map .agg
    | .tup c => (jf ih c).map .tup
    | .own id g o l z => match aN h.hp id with
      | some (.arr g' _ cells) => if g' = g /\ o + l * z <= cells.length then (jf ih ((cells.drop o).take (l * z))).map (.vec l) else none
      | _ => none
    | _ => none) fuel
noncomputable def eS (f:AVal -> AVal -> Bool)(a:List AVal):List AVal -> Bool :=
  List.rec (motive := fun _ => List AVal -> Bool) (fun b => match b with | [] => true | _ => false) (fun x _ ih b => match b with
    | [] => false
    | y :: b => match f x y with | true => ih b | false => false) a
noncomputable def vA (ih:AVal -> AVal -> Bool)(a b:AVal):Bool := match a, b with
  | .lit (.int k x), .lit (.int k' y) => decide (k = k') && pG x y
  | .lit (.bool x), .lit (.bool y) => x == y
  | .lit (.slice none 0 0), .lit (.slice none 0 0) => true
  | .vec n c, .vec m d => Nat.beq n m && eS ih c d
  | .vptr c n, .vptr d m => Nat.beq n m && eS ih c d
  | .agg c, .agg d => eS ih c d
  | .tup c, .tup d => eS ih c d
  | .clo f a b, .clo g c d => Nat.beq f g && (eS ih a c && eS ih b d)
  | _, _ => false
noncomputable def nJ (fuel:Nat):AVal -> AVal -> Bool := Nat.rec (motive := fun _ => AVal -> AVal -> Bool) (fun _ _ => false) (fun _ ih => vA ih) fuel
noncomputable def dR (l:List Nat)(n:Nat):Bool := List.rec (motive := fun _ => Bool) false (fun x _ ih => Bool.rec (motive := fun _ => Bool) ih true (Nat.beq x n)) l
noncomputable def vB (f:Nat -> Bool)(l:List Nat):Bool := List.rec (motive := fun _ => Bool) true (fun x _ ih => Bool.rec (motive := fun _ => Bool) false ih (f x)) l
abbrev KF := AVal -> List Nat -> Option (List Nat)
noncomputable def iN (f:KF)(l:List AVal):List Nat -> Option (List Nat) :=
  List.rec (motive := fun _ => List Nat -> Option (List Nat)) (fun acc => some acc) (fun x _ ih acc => match f x acc with
    | some acc => ih acc
    | none => none) l
noncomputable def nK (h:EH)(lo:Nat)(kp:List Nat)(rc:KF)(id:Nat)(acc:List Nat):Option (List Nat) :=
  match Nat.blt id lo with
  | true => match dR kp id with
    | true => some acc
    | false => none
  | false => match dR acc id with
    | true => some acc
    | false => match aN h.hp id with
      | some (.arr _ _ cells) => iN rc cells (id :: acc)
      | _ => none
noncomputable def jg (h:EH)(lo:Nat)(kp:List Nat)(fuel:Nat):KF :=
  Nat.rec (motive := fun _ => KF) (fun _ _ => none) (fun _ ih v acc => match v with
    | .lit _ => some acc
    | .vec 0 [] => some acc
    | .agg c => iN ih c acc
    | .tup c => iN ih c acc
    | .clo _ a b => match iN ih a acc with
      | some acc => iN ih b acc
      | none => none
    | .own id _ _ _ _ => nK h lo kp ih id acc
    | .ptr id _ _ => nK h lo kp ih id acc
    | _ => none) fuel
abbrev CF := AVal -> List Nat -> (List Nat -> R) -> R
noncomputable def jh (f:CF)(l:List AVal):List Nat -> (List Nat -> R) -> R :=
  List.rec (motive := fun _ => List Nat -> (List Nat -> R) -> R) (fun acc k => k acc) (fun x _ ih acc k => f x acc fun acc => ih acc k) l
noncomputable def rJ (f:CF)(acc:List Nat)(k:List Nat -> R)(b:Option EBlk):R := match b with
  | some (.arr _ _ cells) => jh f cells acc k
  | _ => k acc
noncomputable def vC (h:EH)(f:CF)(v:AVal)(acc:List Nat)(k:List Nat -> R):R := match v with
  | .vec _ c => jh f c acc k
  | .vptr c _ => jh f c acc k
  | .agg c => jh f c acc k
  | .tup c => jh f c acc k
  | .clo _ a b => jh f a acc fun acc => jh f b acc k
  | .own id _ _ _ _ => rJ f acc k (aN h.hp id)
  | .ptr id _ _ => rJ f acc k (aN h.hp id)
  | _ => k acc
noncomputable def rK (h:EH)(fuel:Nat):CF := Nat.rec (motive := fun _ => CF) (fun _ acc k => k acc) (fun _ ih v acc k => match jg h 0 [] 40 v acc with
  | some acc => k acc
  | none => vC h ih v acc k) fuel
noncomputable def iP (h:EH)(kp:List Nat)(fuel:Nat):AVal -> Option (AVal × List Nat) :=
  Nat.rec (motive := fun _ => AVal -> Option (AVal × List Nat)) (fun _ => none) (fun _ ih v => match v with
    | .lit v => some (.lit v, [])
    | .vec n c => (bw ih c).map fun p => (.vec n p.1, p.2)
    | .vptr c o => (bw ih c).map fun p => (.vptr p.1 o, p.2)
    | .agg c => (bw ih c).map fun p => (.agg p.1, p.2)
    | .tup c => (bw ih c).map fun p => (.tup p.1, p.2)
    | .clo f a b => match bw ih a, bw ih b with
      | some p, some q => some (.clo f p.1 q.1, p.2 ++ q.2)
      | _, _ => none
    | .own id g o l z => match dR kp id with
      | true => some (.own id g o l z, [])
      | false => match aN h.hp id with
        | some (.arr g' _ cells) => if g' = g /\ o + l * z <= cells.length then (bw ih ((cells.drop o).take (l * z))).map fun p => (.vec l p.1, id :: p.2) else none
        | _ => none
    | .ptr id g o => match dR kp id with
      | true => some (.ptr id g o, [])
      | false => match aN h.hp id with
        | some (.arr g' _ (x :: cells)) => if g' = g then (bw ih (x :: cells)).map fun p => (.vptr p.1 o, id :: p.2) else none
        | _ => none
    | .yld _ => none) fuel
noncomputable def vD (h:EH)(l:List Nat)(k:BT EBlk -> R):BT EBlk -> R :=
  List.rec (motive := fun _ => BT EBlk -> R) (fun t => k t) (fun id _ ih t => match aN h.hp id with
    | some b => fh t id b ih
    | none => none) l
noncomputable def vE (a b:Value):Bool := match a, b with
  | .int k x, .int k' y => decide (k = k') && pG x y
  | .bool x, .bool y => x == y
  | .slice none 0 0, .slice none 0 0 => true
  | .pointer none, .pointer none => true
  | _, _ => false
noncomputable def vF (ih:AVal -> AVal -> Bool)(a b:AVal):Bool := match a, b with
  | .lit x, .lit y => vE x y
  | .vec n c, .vec m d => Nat.beq n m && eS ih c d
  | .agg c, .agg d => eS ih c d
  | .tup c, .tup d => eS ih c d
  | .clo f a b, .clo g c d => Nat.beq f g && (eS ih a c && eS ih b d)
  | .own a b c d e, .own a' b' c' d' e' => Nat.beq a a' && (Nat.beq b b' && (Nat.beq c c' && (Nat.beq d d' && Nat.beq e e')))
  | .ptr a b c, .ptr a' b' c' => Nat.beq a a' && (Nat.beq b b' && Nat.beq c c')
  | _, _ => false
noncomputable def vG (fuel:Nat):AVal -> AVal -> Bool := Nat.rec (motive := fun _ => AVal -> AVal -> Bool) (fun _ _ => false) (fun _ ih => vF ih) fuel
noncomputable def vI (a b:Option EBlk):Bool := match a, b with
  | some (.arr g e c), some (.arr g' e' c') => Nat.beq g g' && (Nat.beq e e' && eS (vG 40) c c')
  | _, _ => false
noncomputable def vJ (h':EH)(lv:List Nat)(t:BT EBlk)(k:BT EBlk -> R)(id:Nat):R := match dR lv id with
  | true => match aN h'.hp id with
    | some b => fh t id b k
    | none => none
  | false => fh t id (.arr 0 0 []) k
noncomputable def rL (h':EH)(lv:List Nat)(lo n:Nat):BT EBlk -> (BT EBlk -> R) -> R :=
  Nat.rec (motive := fun _ => BT EBlk -> (BT EBlk -> R) -> R) (fun t k => k t) (fun i ih t k => cJ (Nat.add lo i) (vJ h' lv t fun t => ih t k)) n
noncomputable def rM (k:BT AVal -> R)(l:List AVal):Nat -> BT AVal -> R :=
  List.rec (motive := fun _ => Nat -> BT AVal -> R) (fun _ t => k t) (fun v _ ih i t => kP t i v fun t => cJ (Nat.succ i) fun i => ih i t) l
noncomputable def nL (h:EH):Option Nat -> Bool
  | none => true
  | some id => match aN h.hp id with | some (.loop ..) => true | _ => false
abbrev iQ := Option Nat -> Nat -> Code -> BT AVal -> EH -> R
section step
variable (E:EP) (ih:iQ)
noncomputable def rN (nx:Nat)(v:AVal)(h':EH):R := Bool.rec (motive := fun _ => R) none (jd v fun v => some (.ret v h')) (Nat.ble nx h'.nx)
noncomputable def zW (rs:List ResultVar)(nx:Nat)(r:R):R := match r with
  | some (.ev .normal env h') => match dF E.P (ak h') (aw env) rs with
    | some vs => rN nx (fP vs) h'
    | none => none
  | some (.ev .ret env h') => match dF E.P (ak h') (aw env) rs with
    | some vs => rN nx (fP vs) h'
    | none => none
  | some (.ev .panic _ h') => Bool.rec (motive := fun _ => R) none (some (.panic h')) (Nat.ble nx h'.nx)
  | _ => none
def zX (fn : Func) (c : Code) : Bool := fits fn.ntmps c && !(fn.name == "runtime.NumGoroutine")
noncomputable def rO (fn:Func)(c:Code)(args:List AVal)(h:EH):R :=
  Bool.rec (motive := fun _ => R) none (Bool.rec (motive := fun _ => R) none (rM (fun env => zW E fn.results.toList h.nx (ih none fn.ntmps c env h)) args 0 .nil) (Nat.ble args.length fn.ntmps)) (zX fn c)
noncomputable def kR (f:FuncId)(args:List AVal)(h:EH):R :=
  Option.rec (motive := fun _ => R) none (fun fn => Option.rec (motive := fun _ => R) none (fun c => rO E ih fn c args h) fn.body) (E.P.funcs[f]?)
noncomputable def vK (f:FuncId)(args:List AVal):Option AVal := match kR E ih f args ⟨.nil, 0⟩ with
  | some (.ret v h') => mn h' 40 v
  | _ => none
noncomputable def rP (args:List AVal)(l:List (List AVal × AVal)):Option AVal :=
  List.rec (motive := fun _ => Option AVal) none (fun p _ ih => Bool.casesOn (motive := fun _ => Option AVal) (eS (nJ 40) p.1 args) ih (some p.2)) l
noncomputable def vL (f:FuncId)(args:List AVal):Option (Option AVal) := match kR E ih f args ⟨.nil, 0⟩ with
  | some (.ret v h') => match mn h' 40 v with
    | some u => some (some u)
    | none => none
  | some (.panic _) => some none
  | _ => none
noncomputable def zY (z:GD)(h:EH)(r:Option (Option AVal)):R := match r with
  | some (some u) => Bool.rec (motive := fun _ => R) none (some (.ret (.tup [u, .lit (.int .i64 0)]) h)) (z.ok u)
  | some none => some (.ret (.tup [z.z, .lit (.int .i64 6)]) h)
  | none => none
noncomputable def zZ (z:GD)(args:List AVal)(h:EH):R := match args with
  | [.clo g [] cap] => match bw (fR h 40) cap with
    | some p => Bool.rec (motive := fun _ => R) none (zY z h (vL E ih g p.1)) (p.2.all fun r => Nat.blt r h.nx)
    | none => none
  | _ => none
noncomputable def rQ (k:BT AVal -> R):List Tmp -> List AVal -> BT AVal -> R
  | p :: ps, v :: vs, e => kP e p v fun e => rQ k ps vs e
  | [], [], e => k e
  | _, _, _ => none
noncomputable def pI (id:Nat)(st:LoopState)(pend:Option Code)(b:Bool)(h2:EH):R := match aN h2.hp id with
  | some (.loop _ _ n env ps asg body) => fh h2.hp id (EBlk.loop st pend n env ps asg body) fun hp => some (.ret (.lit (.bool b)) ⟨hp, h2.nx⟩)
  | _ => none
noncomputable def endRound (id:Nat)(r:R):R := match r with
  | some (.ev .normal _ h2) => pI id .ready none true h2
  | some (.ev .ret _ h2) => pI id .done (some .ret) false h2
  | some (.ev (.exit i) _ h2) => pI id .done (some (.exit i)) false h2
  | _ => none
noncomputable def z0 (id n:Nat)(body:Code)(r:R):R := match r with
  | some (.ev .normal e h1) => match aN h1.hp id with
    | some (.loop .ready pend n2 env2 ps2 asg2 body2) => fh h1.hp id (EBlk.loop .busy pend n2 env2 ps2 asg2 body2) fun hp1 => endRound id (ih (some id) n body e ⟨hp1, h1.nx⟩)
    | _ => none
  | _ => none
def z8 (v:Option AVal)(b n:Nat):Bool := match v with
  | none => true
  | some _ => Nat.blt b n
noncomputable def okB:BT AVal -> Nat -> Nat -> Nat -> Bool :=
  BT.rec (motive := fun _ => Nat -> Nat -> Nat -> Bool) (fun _ _ _ => true) (fun v _ _ fl fr a b n => z8 v b n && (fl (Nat.mul 2 a) (Nat.add a b) n && fr (Nat.mul 2 a) (Nat.add (Nat.mul 2 a) b) n))
noncomputable def z9 (env:BT AVal)(n:Nat)(ps:Array Tmp)(asg body:Code):Bool := okB env 1 0 n && (fits n asg && (fits n body && ps.toList.all fun p => decide (p < n)))
noncomputable def vM (id:Nat)(args:List AVal)(h:EH):R :=
  match aN h.hp id with
  | some (.loop .ready _ n env ps asg body) =>
    Bool.rec (motive := fun _ => R) none (rQ (fun e => z0 ih id n body (ih (some id) n asg e h)) ps.toList args env) (z9 env n ps asg body)
  | _ => none
noncomputable def Aa (f:FuncId)(args:List AVal)(h:EH)(l:List (List AVal × AVal)):R :=
  match bw (fR h 40) args with
  | none => none
  | some p => match rP p.1 l with
    | some v => some (.ret v h)
    | none => kR E ih f args h
noncomputable def vN (f:FuncId)(first cap args:List AVal)(h:EH):R :=
  match E.gd f with
  | none => fj (first ++ args ++ cap) fun args => match E.known f with
    | none => kR E ih f args h
    | some l => Aa E ih f args h l
  | some z => fj (first ++ args ++ cap) fun args => zZ E ih z args h
noncomputable def Ab (e:List AVal -> Option AVal)(fc args:List AVal)(h:EH):R := match fc with
  | [] => fj args fun args => match e args with
    | some r => jd r fun r => some (.ret r h)
    | none => none
  | _ => none
noncomputable def rR (fv:AVal)(args:List AVal)(h:EH):R :=
  match fv with
  | .clo f first cap => match E.ext f with
    | none => vN E ih f first cap args h
    | some e => Ab e (first ++ cap) args h
  | .yld id => vM ih id args h
  | _ => none
noncomputable def Ac (rd:Option Nat)(d:Option Tmp)(k:BT AVal -> EH -> R)(env:BT AVal)(r:R):R := match r with
  | some (.ret v h') => Bool.casesOn (motive := fun _ => R) (nL h' rd) none (eG env d v fun env => k env h')
  | some (.panic h') => Bool.casesOn (motive := fun _ => R) (nL h' rd) none (some (.ev .panic env h'))
  | _ => none
noncomputable def cN (d:Option Tmp)(k:BT AVal -> EH -> R)(env:BT AVal)(o:OR)(h:EH):R := vz h (fun v h => eG env d v fun env => k env h) o
noncomputable def pJ (d:Option Tmp)(k:BT AVal -> EH -> R)(env:BT AVal)(h:EH)(kd:IntKind)(i:Int):R := mm i fun i => eG env d (.lit (.int kd i)) fun env => k env h
noncomputable def ji (d:Option Tmp)(k:BT AVal -> EH -> R)(env:BT AVal)(h:EH)(b:Bool):R := ve b fun b => eG env d (.lit (.bool b)) fun env => k env h
abbrev bB := EP -> iQ -> Option Nat -> Option Tmp -> (BT AVal -> EH -> R) -> BT AVal -> EH -> R
end step
noncomputable def kS (x:Operand):bB := fun E _ _ d k env h => bJ E.G env x fun v => eG env d v fun env => k env h
noncomputable def rS (e:TypeId)(x:Operand):bB := fun E _ _ d k env h => bJ E.G env x fun v => cN d k env (.eff (.ptr h.nx 0 0) h.nx 0 e v.cells true) h
noncomputable def rT (t:TypeId)(parts:Array (Nat × Operand)):bB := fun E _ _ d k env h =>
  kQ E.G env (parts.toList.map (·.2)) fun vs => cN d k env (.opt (mR E.P t ((parts.toList.map (·.1)).zip vs))) h
noncomputable def rU (t:TypeId)(len:Nat)(parts:Array (Nat × Operand)):bB := fun E _ _ d k env h =>
  kQ E.G env (parts.toList.map (·.2)) fun vs => cN d k env (pH h ⟨[h.nx], []⟩ (iF E.P (ak h) h.nx t len ((parts.toList.map (·.1)).zip vs))) h
noncomputable def rV (t:TypeId)(a:Operand):bB := fun E _ _ d k env h => bJ E.G env a fun a => cN d k env (.opt (vw E.P h t a)) h
noncomputable def rW (t:TypeId)(a x:Operand):bB := fun E _ _ d k env h =>
  Bool.rec (motive := fun _ => R) none (bJ E.G env a fun a => bJ E.G env x fun v => cN d k env (nI E.P h t a v) h) (E.P.underlying t).isSome
abbrev iR := IntKind -> Int -> Int -> Option Tmp -> (BT AVal -> EH -> R) -> BT AVal -> EH -> R
noncomputable def Jo:iR := fun kd a b d k env h => pJ d k env h kd (pE kd (Int.add a b))
noncomputable def Jp:iR := fun kd a b d k env h => pJ d k env h kd (pE kd (Int.sub a b))
noncomputable def Jq:iR := fun kd a b d k env h => pJ d k env h kd (pE kd (Int.mul a b))
noncomputable def Jr:iR := fun _ a b d k env h => ji d k env h (pF a b)
noncomputable def Js:iR := fun _ a b d k env h => ji d k env h (pF b a)
noncomputable def Jt:iR := fun _ a b d k env h => ji d k env h (pF b a).not
noncomputable def Ju:iR := fun _ a b d k env h => ji d k env h (pF a b).not
noncomputable def Jv:iR := fun _ a b d k env h => ji d k env h (pG a b)
noncomputable def Jw:iR := fun _ a b d k env h => ji d k env h (pG a b).not
noncomputable def pK (op:BinOp):Option iR := match op with
  | .add => some Jo | .sub => some Jp | .mul => some Jq | .lss => some Jr | .gtr => some Js | .leq => some Jt | .geq => some Ju | .eql => some Jv | .neq => some Jw
  | _ => none
def mo:IntKind -> Nat
  | .i8 => 0 | .i16 => 1 | .i32 => 2 | .i64 => 3 | .u8 => 4 | .u16 => 5 | .u32 => 6 | .u64 => 7
noncomputable def rX (E:EP)(op:BinOp)(t:TypeId)(x y:Operand)(a b:AVal)(d:Option Tmp)(k:BT AVal -> EH -> R)(env:BT AVal)(h:EH):R := cN d k env (.opt (aZ E.P op t x y a b)) h
noncomputable def Ad (E:EP)(op:BinOp)(t:TypeId)(x y:Operand)(a b:AVal)(d:Option Tmp)(k:BT AVal -> EH -> R)(env:BT AVal)(h:EH):R := match gF (ak h) op a b with
  | none => rX E op t x y a b d k env h
  | some true => Bool.rec (motive := fun _ => R) none (ji d k env h (op == .neq)) (jM (E.P.underlying t))
  | some false => none
noncomputable def Ae (E:EP)(op:BinOp)(t:TypeId)(x y:Operand)(a b:AVal)(d:Option Tmp)(k:BT AVal -> EH -> R)(env:BT AVal)(h:EH):R :=
  match a, b with
  | .lit (.int kd a), .lit (.int kd' b) => Bool.rec (motive := fun _ => R) (rX E op t x y (.lit (.int kd a)) (.lit (.int kd' b)) d k env h) (Option.rec (motive := fun _ => R) (rX E op t x y (.lit (.int kd a)) (.lit (.int kd' b)) d k env h) (fun f => f kd a b d k env h) (pK op)) (Nat.beq (mo kd) (mo kd'))
  | a, b => Ad E op t x y a b d k env h
noncomputable def rY (op:BinOp)(t:TypeId)(x y:Operand)(_:TypeId):bB := fun E _ _ d k env h => bJ E.G env x fun a => bJ E.G env y fun b => Ae E op t x y a b d k env h
noncomputable def rZ (fn:Fn)(first cap:Array Operand):bB := fun E _ _ d k env h =>
  match fn with
  | .func f => kQ E.G env first.toList fun a => kQ E.G env cap.toList fun b => eG env d (.clo f a b) fun env => k env h
  | _ => none
noncomputable def r9 (t:TypeId)(x i:Operand):bB := fun E _ _ d k env h => bJ E.G env x fun x => bJ E.G env i fun i => cN d k env (.opt (nu E.P (ak h) t x i)) h
noncomputable def mq (E:EP)(env:BT AVal)(h:EH)(o:Op):OR := pH h (aY E.P E.G (aw env) h.nx o) (ae E.P E.G (aw env) (ak h) h.nx o)
noncomputable def eT (o:Op):bB := fun E _ _ d k env h => cN d k env (mq E env h o) h
noncomputable def vO (x:Operand):bB := fun E _ _ _ _ env h => match af E.G (aw env) x with
  | .lit (.iface _ _) => some (.ev .panic env h)
  | _ => none
noncomputable def vP (fv:Operand)(args:Array Operand):bB := fun E ih rd d k env h =>
  kQ E.G env args.toList fun args => bJ E.G env fv fun fv => Ac rd d k env (rR E ih fv args h)
noncomputable def pM:bB := fun _ _ _ _ _ _ _ => none
noncomputable def pN {α:Type}(_:α):bB := pM
noncomputable def nM {α β:Type}(_:α)(_:β):bB := pM
noncomputable def Jx {α β γ:Type}(_:α)(_:β)(_:γ):bB := pM
noncomputable def Jy {α β γ δ:Type}(_:α)(_:β)(_:γ)(_:δ):bB := pM
noncomputable def pO (v:AVal)(r:Nat)(fresh:Bool)(b:Option Blk):OR := match b with
  | some (.arr g e c) => .eff v r g e c fresh
  | _ => .fail
noncomputable def sd (r:Nat)(fresh:Bool)(o:Option (AVal × AHeap)):OR := match o with
  | some (v, H') => pO v r fresh (H'.get r)
  | none => .fail
noncomputable def se (c a b:Operand):bB := fun E _ _ d k env h => bJ E.G env c fun c => match c with
  | .lit (.bool t) => Bool.rec (motive := fun _ => R) (bJ E.G env b fun v => eG env d v fun env => k env h) (bJ E.G env a fun v => eG env d v fun env => k env h) t
  | _ => none
noncomputable def sf (e:TypeId):bB := fun E _ _ d k env h => match bH E.P e with
  | some z => cN d k env (.eff (.ptr h.nx 0 0) h.nx 0 e z true) h
  | none => none
noncomputable def sg (x:Operand):bB := fun E _ _ d k env h => bJ E.G env x fun x => cN d k env (.opt (iH (ak h) x)) h
noncomputable def sj (op:UnOp)(_:TypeId)(x:Operand):bB := fun E _ _ d k env h => bJ E.G env x fun x => cN d k env (.opt (oT E.P op x)) h
noncomputable def sk (s t:TypeId)(x:Operand):bB := fun E _ _ d k env h => bJ E.G env x fun x => cN d k env (.opt (iG E.P (ak h) s t x)) h
noncomputable def Jz (t:TypeId)(x:Operand):bB := eT (.makeInterface t x)
noncomputable def ss (t:TypeId)(l c:Operand):bB := fun E _ _ d k env h => bJ E.G env l fun l => bJ E.G env c fun c => cN d k env (sd h.nx true (ie E.P (ak h) h.nx t l c)) h
noncomputable def vQ (G:Nat -> Option (List AVal))(env:BT AVal)(x:Option Operand)(k:Option AVal -> R):R := match x with
  | none => k none
  | some x => bJ G env x fun v => k (some v)
noncomputable def su (t:TypeId)(x:Operand)(l u m:Option Operand):bB := fun E _ _ d k env h => match m with
  | none => bJ E.G env x fun x => vQ E.G env l fun l => vQ E.G env u fun u => cN d k env (.opt (jE E.P (ak h) t x l u)) h
  | some _ => none
noncomputable def sw (t:TypeId)(x:Operand)(f:Nat):bB := fun E _ _ d k env h => bJ E.G env x fun x => cN d k env (.opt (nt E.P (ak h) t f x)) h
noncomputable def sx (t:TypeId)(x:Operand)(f:Nat):bB := fun E _ _ d k env h => bJ E.G env x fun x => cN d k env (.opt (zi E.P t f x)) h
noncomputable def sy (t:TypeId)(x i:Operand):bB := fun E _ _ d k env h => bJ E.G env x fun x => bJ E.G env i fun i => cN d k env (.opt (kD E.P t x i)) h
noncomputable def sC (t:Operand)(i:Nat):bB := fun E _ _ d k env h => bJ E.G env t fun t => cN d k env (.opt (jG t i)) h
noncomputable def sD (t:TypeId)(x:Operand):bB := fun E _ _ d k env h => bJ E.G env x fun x => cN d k env (.opt (jF E.P (ak h) t x)) h
noncomputable def Af (E:EP)(t u:TypeId)(s x:AVal)(d:Option Tmp)(k:BT AVal -> EH -> R)(env:BT AVal)(h:EH):R := match s with
  | .own id g o l z => match bC E.P (ak h) h.nx t u s x with
    | some (.own _ g' o' l' z', H') => Bool.rec (motive := fun _ => R) (cN d k env (pO (.own id g' o' l' z') id false (H'.get id)) h) (cN d k env (.val (.own id g o l z)) h) (Nat.beq g' g)
    | _ => none
  | s => match bC E.P (ak h) h.nx t u s x with
    | some (.own id' g' o' l' z', H') => cN d k env (pO (.own id' g' o' l' z') h.nx true (H'.get h.nx)) h
    | some (.lit v, _) => cN d k env (.val (.lit v)) h
    | _ => none
noncomputable def sE (t u:TypeId)(s x:Operand):bB := fun E _ _ d k env h => bJ E.G env s fun s => bJ E.G env x fun x => Af E t u s x d k env h
noncomputable def nO (c:Call)(b:Builtin):bB := match b, c.argTypes.toList, c.args.toList with
  | .len, [t], [x] => sD t x
  | .append, [t, u], [s, x] => sE t u s x
  | _, _, _ => eT (.call c)
noncomputable def Ag (c:Call):bB := match c.callee with
  | .value fv => vP fv c.args
  | .builtin b => nO c b
  | _ => pM
noncomputable def JA (t:TypeId)(m a x:Operand):bB := eT (.insert t m a x)
noncomputable def JB (t:TypeId)(x:Option Operand):bB := eT (.makeMap t x)
noncomputable def JC (t:TypeId)(x i:Operand)(ok:Bool):bB := eT (.lookup t x i ok)
noncomputable def JD (t:TypeId)(m a x:Operand):bB := eT (.mapUpdate t m a x)
noncomputable def JE (t:TypeId)(m a:Operand):bB := eT (.mapEntry t m a)
noncomputable def JF (t:TypeId)(m a x:Operand):bB := eT (.entryStore t m a x)
noncomputable def sF:Op -> bB :=
  Op.rec (motive := fun _ => bB) kS kS se sf rS rT rU JA rV rW pN pN sg rY sj sk nM Jz rZ
    JB nM ss su sw sx r9 sy JC JD JE JF nM nM pN Jy sC Ag pN pN vO nM Jx nM
section step
variable (E:EP) (ih:iQ)
noncomputable def vR (all:Array Oper)(ρ:Env)(yes no:R)(jw:Nat × Bool):R :=
  match (all[jw.1]?).bind (·.dst) with
  | some d => match ρ d with
    | .lit (.bool b) => Bool.rec (motive := fun _ => R) no yes (b == jw.2)
    | .lit _ => no
    | _ => none
  | none => no
noncomputable def nP (all:Array Oper)(ρ:Env)(g:Option (Nat × Bool))(yes no:R):R := Option.rec (motive := fun _ => R) yes (vR all ρ yes no) g
noncomputable def nQ (rd:Option Nat)(all:Array Oper)(l:List Oper):BT AVal -> EH -> R :=
  List.rec (motive := fun _ => BT AVal -> EH -> R) (fun env h => some (.ev .normal env h)) (fun o _ ihr env h =>
    nP all (aw env) o.guard (sF o.op E ih rd o.dst ihr env h) (eG env o.dst (.lit undef) fun env => ihr env h)) l
def JG (bs:List Nat)(o:Oper):Nat := (qT o).foldl (fun b j => b ||| (2 ^ j ||| cI bs j)) 0
def kT:List Oper -> List Nat -> List Nat
  | [], bs => bs
  | o :: l, bs => kT l (bs ++ [JG bs o])
def pP (bs:List Nat):Nat -> Nat
  | 0 => 0
  | k + 1 => if cI bs k = 2 ^ k - 1 then pP bs k else k + 1
def vS (b:Nat)(f:FP)(acc:List (Nat × FP)):Bool := acc.all fun p => b.testBit p.1 || (f.eff.all fun r => !p.2.rs.contains r) && p.2.eff.all fun r => !f.rs.contains r
noncomputable def Ah (e:List AVal -> Option AVal)(fc args:List AVal)(h:EH)(k:AVal -> FP -> EH -> R):R := match fc with
  | [] => fj args fun args => match e args with
    | some v => k v ⟨[], []⟩ h
    | none => none
  | _ => none
noncomputable def Ai (h h':EH)(kp fz:List Nat)(v:AVal)(k:AVal -> FP -> EH -> R):R :=
  match Nat.ble h.nx h'.nx, vB (fun id => vI (aN h.hp id) (aN h'.hp id)) kp, jg h' h.nx kp 40 v [] with
  | true, true, some lv => rL h' lv h.nx (Nat.sub h'.nx h.nx) h.hp fun hp => cJ h'.nx fun nx => k v ⟨Ev.qJ h.nx nx, kp ++ fz⟩ ⟨hp, nx⟩
  | _, _, _ => none
noncomputable def Aj (f:FuncId)(kp fz:List Nat)(all:List AVal)(h:EH)(k:AVal -> FP -> EH -> R)(hp:BT EBlk):R := match kR E ih f all ⟨hp, h.nx⟩ with
  | some (.ret v h') => Ai h h' kp fz v k
  | _ => none
noncomputable def Ak (f:FuncId)(all:List AVal)(h:EH)(k:AVal -> FP -> EH -> R)(kp:List Nat):R := match bw (iP h kp 40) all with
  | some p => Bool.rec (motive := fun _ => R) none (vD h kp (Aj E ih f kp p.2 p.1 h k) .nil) (p.2.all fun r => Nat.blt r h.nx)
  | none => none
noncomputable def sG (f:FuncId)(all:List AVal)(h:EH)(k:AVal -> FP -> EH -> R):R := jh (rK h 40) all [] (Ak E ih f all h k)
noncomputable def Al (f:FuncId)(all:List AVal)(h:EH)(k:AVal -> FP -> EH -> R)(l:List (List AVal × AVal)):R := match bw (fR h 40) all with
  | none => sG E ih f all h k
  | some p => match rP p.1 l with
    | some v => Bool.rec (motive := fun _ => R) none (k v ⟨[], p.2⟩ h) (p.2.all fun r => Nat.blt r h.nx)
    | none => sG E ih f all h k
noncomputable def Am (f:FuncId)(first cap args:List AVal)(h:EH)(k:AVal -> FP -> EH -> R):R := match E.gd f with
  | some _ => none
  | none => fj (first ++ args ++ cap) fun all => match E.known f with
    | none => sG E ih f all h k
    | some l => Al E ih f all h k l
noncomputable def vT (fv:AVal)(args:List AVal)(h:EH)(k:AVal -> FP -> EH -> R):R := match fv with
  | .clo f first cap => match E.ext f with
    | none => Am E ih f first cap args h k
    | some e => Ah e (first ++ cap) args h k
  | _ => none
abbrev nR := List (Nat × FP) -> BT AVal -> EH -> R
noncomputable def sH (d:Option Tmp)(b i:Nat)(acc:List (Nat × FP))(k:nR)(env:BT AVal)(f:FP)(o:OR)(h:EH):R :=
  Bool.casesOn (motive := fun _ => R) (vS b f acc) none (vz h (fun v h => eG env d v fun env => k (eg i f acc) env h) o)
noncomputable def An (d:Option Tmp)(b i:Nat)(acc:List (Nat × FP))(k:nR)(env:BT AVal)(v:AVal)(f:FP)(h:EH):R :=
  Bool.casesOn (motive := fun _ => R) (vS b f acc) none (jd v fun v => eG env d v fun env => k (eg i f acc) env h)
noncomputable def sI (o:Oper)(b i:Nat)(acc:List (Nat × FP))(k:nR)(env:BT AVal)(h:EH):R := match o.op with
  | .call c => match c.callee with
    | .value fv => kQ E.G env c.args.toList fun args => bJ E.G env fv fun fv => vT E ih fv args h (An o.dst b i acc k env)
    | _ => sH o.dst b i acc k env (aY E.P E.G (aw env) h.nx (.call c)) (mq E env h (.call c)) h
  | .panic _ => none
  | op => sH o.dst b i acc k env (aY E.P E.G (aw env) h.nx op) (mq E env h op) h
noncomputable def sJ (all:Array Oper)(tail:BT AVal -> EH -> R)(l:List Oper):List Nat -> Nat -> nR :=
  List.rec (motive := fun _ => List Nat -> Nat -> nR) (fun _ _ _ env h => tail env h) (fun o _ ihr bs i acc env h => match bs with
    | [] => none
    | b :: bs => nP all (aw env) o.guard (sI E ih o b i acc (ihr bs (i + 1)) env h) (eG env o.dst (.lit undef) fun env => ihr bs (i + 1) acc env h)) l
noncomputable def sK (rd:Option Nat)(ops:Array Oper)(bs:List Nat)(K:Nat)(env:BT AVal)(h:EH):R :=
  Bool.casesOn (motive := fun _ => R) (pt ops (bs.take K) K) none (sJ E ih ops (nQ E ih rd ops (ops.toList.drop K)) (ops.toList.take K) (bs.take K) 0 [] env h)
noncomputable def pQ (rd:Option Nat)(n:Nat)(b:Code)(r:R):R := match r with
  | some (.ev .normal e h) => ih rd n b e h
  | r => r
noncomputable def vU (id:Nat)(r:R):R := match r with
  | some (.ev (.exit i) e h) => Bool.casesOn (motive := fun _ => R) (Nat.beq i id) (some (.ev (.exit i) e h)) (some (.ev .normal e h))
  | r => r
noncomputable def nS (r:R):R := match r with
  | some (.ev (.goto _) _ _) => none
  | r => r
noncomputable def vV (v:AVal)(x y:R):R := match v with
  | .lit (.bool b) => Bool.casesOn (motive := fun _ => R) b y x
  | _ => none
noncomputable def endLoop (env:BT AVal)(h2:EH)(pend:Option Code)(hp3:BT EBlk):R := match pend with
  | none => some (.ev .normal env ⟨hp3, h2.nx⟩)
  | some .ret => some (.ev .ret env ⟨hp3, h2.nx⟩)
  | some (.exit i) => some (.ev (.exit i) env ⟨hp3, h2.nx⟩)
  | _ => none
noncomputable def Ao (rd:Option Nat)(env:BT AVal)(id:Nat)(r:R):R := match r with
  | some (.ret _ h2) => Bool.casesOn (motive := fun _ => R) (nL h2 rd) none (match aN h2.hp id with
    | some (.loop .busy ..) => none
    | some (.loop _ pend n2 env2 ps2 asg2 body2) => fh h2.hp id (EBlk.loop .exhausted pend n2 env2 ps2 asg2 body2) fun hp3 => endLoop env h2 pend hp3
    | _ => none)
  | some (.panic h2) => Bool.casesOn (motive := fun _ => R) (nL h2 rd) none (some (.ev .panic env h2))
  | _ => none
noncomputable def vW (rd:Option Nat)(n:Nat)(env:BT AVal)(h:EH)(ps:Array Tmp)(asg body:Code)(v:AVal):R := match v with
  | .clo g first cap => fh h.hp h.nx (EBlk.loop .ready none n env ps asg body) fun hp1 => Ao rd env h.nx (fj (first ++ [.yld h.nx] ++ cap) fun args => kR E ih g args ⟨hp1, Nat.succ h.nx⟩)
  | _ => none
end step
abbrev fD := EP -> iQ -> Option Nat -> Nat -> BT AVal -> EH -> R
noncomputable def Ap:fD := fun _ _ _ _ env h => some (.ev .normal env h)
noncomputable def JH (_:Nat):fD := Ap
noncomputable def JI (i:Nat):fD := fun _ _ _ _ env h => some (.ev (.exit i) env h)
noncomputable def JJ:fD := fun _ _ _ _ env h => some (.ev .ret env h)
noncomputable def JK (_:Nat):fD := fun _ _ _ _ _ _ => none
noncomputable def JL (_:String):fD := fun _ _ _ _ _ _ => none
noncomputable def JM (_:Nat)(ops:Array Oper)(dr:Bool):fD := fun E ih rd _ env h =>
  Bool.rec (motive := fun _ => R) (nQ E ih rd ops ops.toList env h) (sK E ih rd ops (kT ops.toList []) (pP (kT ops.toList []) ops.toList.length) env h) dr
noncomputable def JN (a b:Code):fD := fun _ ih rd n env h => pQ ih rd n b (ih rd n a env h)
noncomputable def JO (x:Operand)(a b:Code):fD := fun E ih rd n env h => vV (af E.G (aw env) x) (ih rd n a env h) (ih rd n b env h)
noncomputable def JP (id:Nat)(b:Code):fD := fun _ ih rd n env h => vU id (ih rd n b env h)
noncomputable def JQ (b:Code):fD := fun _ ih rd n env h => nS (pQ ih rd n (.loop b) (ih rd n b env h))
noncomputable def JR (b:Code):fD := fun _ ih rd n env h => nS (ih rd n b env h)
noncomputable def JS (f:Operand)(ps:Array Tmp)(asg body:Code):fD := fun E ih rd n env h => vW E ih rd n env h ps asg body (af E.G (aw env) f)
noncomputable def JT:Code -> fD := fun c => Code.casesOn (motive := fun _ => fD) c Ap JM JN JO JP JQ JS JI JR JH JK JJ JL
noncomputable def Aq (E:EP)(ih:iQ)(rd:Option Nat)(n:Nat)(c:Code)(env:BT AVal)(h:EH):R := JT c E ih rd n env h
noncomputable def Ar (E:EP)(fuel:Nat):iQ := Nat.rec (motive := fun _ => iQ) (fun _ _ _ _ _ => none) (fun _ ih => Aq E ih) fuel
noncomputable def As (E:EP)(fuel:Nat)(f:FuncId)(args:List AVal):Option AVal := vK E (Ar E fuel) f args
end Go.Hx
namespace Go.Hx
variable {P:Program} {G:Nat -> Option (List AVal)}
theorem fS (n:Nat)(k:Nat -> R):cJ n k = k n := by cases n <;> rfl
theorem sL (n:Int)(k:Int -> R):mm n k = k n := by
  cases n with
  | ofNat n => show cJ n (fun n => k (.ofNat n)) = _; rw[fS]
  | negSucc n => show cJ n (fun n => k (.negSucc n)) = _; rw[fS]
theorem At (n:Bool)(k:Bool -> R):ve n k = k n := by cases n <;> rfl
theorem gK (l:List AVal):∀ (k:List AVal -> R), fj l k = k l := by
  induction l with
  | nil => intro k; rfl
  | cons x l ih => intro k; exact ih _
theorem JU (v:Value)(k:Value -> R):vf v k = k v := by
  unfold vf
  split
  · rw[sL]
  · rw[At]
  · rfl
theorem JV (l:List (Int × Int)):∀ (k:List (Int × Int) -> R), rI l k = k l := by
  induction l with
  | nil => intro k; rfl
  | cons p l ih =>
    intro k
    obtain⟨a, b⟩ := p
    show (mm a fun a => mm b fun b => rI l fun l => k ((a, b) :: l)) = _
    rw[sL, sL, ih]
theorem nT (v:AVal)(k:AVal -> R):jd v k = k v := by
  cases v with
  | lit v => show vg v k = _; unfold vg; rw[JU]
  | vec n cs => show vh n cs k = _; unfold vh; rw[fS, gK]
  | own a b c d e => show vj a b c d e k = _; unfold vj; simp only[fS]
  | ptr a b c => show vk a b c k = _; unfold vk; simp only[fS]
  | vptr cs n => show vm cs n k = _; unfold vm; rw[fS, gK]
  | agg cs => show vp cs k = _; unfold vp; rw[gK]
  | tup cs => show vq cs k = _; unfold vq; rw[gK]
  | clo f a b => show vr f a b k = _; unfold vr; simp only[fS, gK]
  | yld n => show vt n k = _; unfold vt; rw[fS]
theorem sM (n:Nat):dH .nil n = none := rfl
theorem JW (v:Option AVal)(l r:BT AVal):dH (.node v l r) 0 = v := rfl
theorem jj (v:Option AVal)(l r:BT AVal)(m:Nat):dH (.node v l r) (m + 1) = if m % 2 = 0 then dH l (m / 2) else dH r (m / 2) := by
  show Nat.rec (motive := fun _ => Option AVal) (dH l (m / 2)) (fun _ _ => dH r (m / 2)) (m % 2) = _
  rcases RG m with h | h <;> rw[h] <;> rfl
theorem vX (n:Nat):aN .nil n = none := rfl
theorem jR (v:Option EBlk)(l r:BT EBlk)(m:Nat):aN (.node v l r) (m + 1) = if m % 2 = 0 then aN l (m / 2) else aN r (m / 2) := by
  show Nat.rec (motive := fun _ => Option EBlk) (aN l (m / 2)) (fun _ _ => aN r (m / 2)) (m % 2) = _
  rcases RG m with h | h <;> rw[h] <;> rfl
theorem kU {m n:Nat}(h:m % 2 = n % 2):m / 2 = n / 2 ↔ m = n := by omega
theorem JX:∀ (f n:Nat) (x:AVal) (k:BT AVal -> R) (r:RR), rG f n x k = some r -> ∃ t, k t = some r /\ ∀ m, dH t m = if m = n then some x else none := by
  intro f
  induction f with
  | zero => intro n x k r h; cases h
  | succ f ih =>
    intro n x k r h
    cases n with
    | zero =>
      refine⟨_, h, fun m => ?_⟩
      cases m with
      | zero => rfl
      | succ m => rw[jj]; simp [sM]
    | succ n =>
      have h':Nat.rec (motive := fun _ => R) (rG f (n / 2) x fun l => k (.node none l .nil)) (fun _ _ => rG f (n / 2) x fun r => k (.node none .nil r)) (n % 2) = some r := h
      rcases RG n with h2 | h2 <;> rw[h2]at h'
      · obtain⟨t, h3, h4⟩ := ih _ _ _ _ h'
        refine⟨_, h3, fun m => ?_⟩
        cases m with
        | zero => rw[QQ (by omega)]; rfl
        | succ m =>
          rw[jj, h4, sM]
          split
          · rename_i hm
            simp only[RL, kU (hm.trans h2.symm)]
          · rename_i hm
            rw[QQ]
            rintro hmn
            have:m = n := by omega
            exact hm (this ▸ h2)
      · obtain⟨t, h3, h4⟩ := ih _ _ _ _ h'
        refine⟨_, h3, fun m => ?_⟩
        cases m with
        | zero => rw[QQ (by omega)]; rfl
        | succ m =>
          rw[jj, h4, sM]
          split
          · rename_i hm
            rw[QQ]
            rintro hmn
            have:m = n := by omega
            omega
          · rename_i hm
            have hm':m % 2 = n % 2 := by omega
            simp only[RL, kU hm']
theorem vY:∀ (t:BT AVal) (n:Nat) (x:AVal) (k:BT AVal -> R) (r:RR), kP t n x k = some r -> ∃ t', k t' = some r /\ ∀ m, dH t' m = if m = n then some x else dH t m := by
  intro t
  induction t with
  | nil => intro n x k r h; exact JX 20 n x k r h
  | node v l r ihl ihr =>
    intro n x k rr h
    cases n with
    | zero =>
      refine⟨_, h, fun m => ?_⟩
      cases m with
      | zero => rfl
      | succ m => rw[jj, jj]; simp
    | succ n =>
      have h':Nat.rec (motive := fun _ => R) (kP l (n / 2) x fun l => k (.node v l r)) (fun _ _ => kP r (n / 2) x fun r => k (.node v l r)) (n % 2) = some rr := h
      rcases RG n with h2 | h2 <;> rw[h2]at h'
      · obtain⟨t, h3, h4⟩ := ihl _ _ _ _ h'
        refine⟨_, h3, fun m => ?_⟩
        cases m with
        | zero => rw[QQ (by omega)]; rfl
        | succ m =>
          rw[jj, jj, h4]
          split
          · rename_i hm
            simp only[RL, kU (hm.trans h2.symm)]
          · rename_i hm
            rw[QQ]
            rintro hmn
            have:m = n := by omega
            exact hm (this ▸ h2)
      · obtain⟨t, h3, h4⟩ := ihr _ _ _ _ h'
        refine⟨_, h3, fun m => ?_⟩
        cases m with
        | zero => rw[QQ (by omega)]; rfl
        | succ m =>
          rw[jj, jj, h4]
          split
          · rename_i hm
            rw[QQ]
            rintro hmn
            have:m = n := by omega
            omega
          · rename_i hm
            have hm':m % 2 = n % 2 := by omega
            simp only[RL, kU hm']
theorem JY:∀ (f n:Nat) (x:EBlk) (k:BT EBlk -> R) (r:RR), rH f n x k = some r -> ∃ t, k t = some r /\ ∀ m, aN t m = if m = n then some x else none := by
  intro f
  induction f with
  | zero => intro n x k r h; cases h
  | succ f ih =>
    intro n x k r h
    cases n with
    | zero =>
      refine⟨_, h, fun m => ?_⟩
      cases m with
      | zero => rfl
      | succ m => rw[jR]; simp [vX]
    | succ n =>
      have h':Nat.rec (motive := fun _ => R) (rH f (n / 2) x fun l => k (.node none l .nil)) (fun _ _ => rH f (n / 2) x fun r => k (.node none .nil r)) (n % 2) = some r := h
      rcases RG n with h2 | h2 <;> rw[h2]at h'
      · obtain⟨t, h3, h4⟩ := ih _ _ _ _ h'
        refine⟨_, h3, fun m => ?_⟩
        cases m with
        | zero => rw[QQ (by omega)]; rfl
        | succ m =>
          rw[jR, h4, vX]
          split
          · rename_i hm
            simp only[RL, kU (hm.trans h2.symm)]
          · rename_i hm
            rw[QQ]
            rintro hmn
            have:m = n := by omega
            exact hm (this ▸ h2)
      · obtain⟨t, h3, h4⟩ := ih _ _ _ _ h'
        refine⟨_, h3, fun m => ?_⟩
        cases m with
        | zero => rw[QQ (by omega)]; rfl
        | succ m =>
          rw[jR, h4, vX]
          split
          · rename_i hm
            rw[QQ]
            rintro hmn
            have:m = n := by omega
            omega
          · rename_i hm
            have hm':m % 2 = n % 2 := by omega
            simp only[RL, kU hm']
theorem kV:∀ (t:BT EBlk) (n:Nat) (x:EBlk) (k:BT EBlk -> R) (r:RR), fh t n x k = some r -> ∃ t', k t' = some r /\ ∀ m, aN t' m = if m = n then some x else aN t m := by
  intro t
  induction t with
  | nil => intro n x k r h; exact JY 20 n x k r h
  | node v l r ihl ihr =>
    intro n x k rr h
    cases n with
    | zero =>
      refine⟨_, h, fun m => ?_⟩
      cases m with
      | zero => rfl
      | succ m => rw[jR, jR]; simp
    | succ n =>
      have h':Nat.rec (motive := fun _ => R) (fh l (n / 2) x fun l => k (.node v l r)) (fun _ _ => fh r (n / 2) x fun r => k (.node v l r)) (n % 2) = some rr := h
      rcases RG n with h2 | h2 <;> rw[h2]at h'
      · obtain⟨t, h3, h4⟩ := ihl _ _ _ _ h'
        refine⟨_, h3, fun m => ?_⟩
        cases m with
        | zero => rw[QQ (by omega)]; rfl
        | succ m =>
          rw[jR, jR, h4]
          split
          · rename_i hm
            simp only[RL, kU (hm.trans h2.symm)]
          · rename_i hm
            rw[QQ]
            rintro hmn
            have:m = n := by omega
            exact hm (this ▸ h2)
      · obtain⟨t, h3, h4⟩ := ihr _ _ _ _ h'
        refine⟨_, h3, fun m => ?_⟩
        cases m with
        | zero => rw[QQ (by omega)]; rfl
        | succ m =>
          rw[jR, jR, h4]
          split
          · rename_i hm
            rw[QQ]
            rintro hmn
            have:m = n := by omega
            omega
          · rename_i hm
            have hm':m % 2 = n % 2 := by omega
            simp only[RL, kU hm']
theorem sN (env:BT AVal)(t:Tmp):aw env t = (dH env t).getD (.lit undef) := by
  unfold aw
  cases dH env t <;> rfl
theorem Au {env env':BT AVal}{d:Nat}{v:AVal}(h:∀ m, dH env' m = if m = d then some v else dH env m):aw env' = ay (aw env) (some d) v := by
  funext t
  simp only[sN, h, ay]
  split <;> rfl
theorem jS {env:BT AVal}{d:Option Tmp}{v:AVal}{k:BT AVal -> R}{r:RR}(h:eG env d v k = some r):∃ env', k env' = some r /\ aw env' = ay (aw env) d v := by
  cases d with
  | none => exact⟨env, h, rfl⟩
  | some d =>
    obtain⟨t, h1, h2⟩ := vY _ _ _ _ _ h
    exact⟨t, h1, Au h2⟩
theorem bZ (env:BT AVal)(x:Operand)(k:AVal -> R):bJ G env x k = k (af G (aw env) x) := by
  cases x with
  | tmp t =>
    show vv env t k = _
    unfold vv
    simp only[af, sN]
    cases dH env t <;> rfl
  | const v => rfl
  | global g =>
    show vu G g k = _
    unfold vu
    simp only[af]
    cases G g with
    | none => rfl
    | some c => exact gK _ _
  | func f => rfl
theorem nU (env:BT AVal)(l:List Operand):∀ (k:List AVal -> R), kQ G env l k = k (l.map (af G (aw env))) := by
  induction l with
  | nil => intro k; rfl
  | cons x l ih =>
    intro k
    show bJ G env x (fun x => kQ G env l fun l => k (x :: l)) = _
    rw[bZ, ih]
    rfl
theorem Av (env:BT AVal)(x:Option Operand)(k:Option AVal -> R):vQ G env x k = k (x.map (af G (aw env))) := by
  cases x with
  | none => rfl
  | some x => exact bZ _ _ _
def nV (o:OR)(h:EH)(v:AVal)(H':AHeap):Prop :=
  match o with
  | .fail => False
  | .val u => v = u /\ H' = ak h
  | .eff u r g e c fr => v = u /\ H' = ⟨fun j => if j = r then some (.arr g e c) else (ak h).get j, if fr then h.nx + 1 else h.nx⟩
  | .effM u r es fr => v = u /\ H' = ⟨fun j => if j = r then some (.mp es) else (ak h).get j, if fr then h.nx + 1 else h.nx⟩
theorem sP {h:EH}{hp:BT EBlk}{r nx:Nat}{b:EBlk}(hs:∀ m, aN hp m = if m = r then some b else aN h.hp m):ak ⟨hp, nx⟩ = ⟨fun j => if j = r then some b.je else (ak h).get j, nx⟩ := by
  unfold ak
  congr 1
  funext j
  show Option.map EBlk.je (aN hp j) = _
  rw[hs]
  split <;> rfl
theorem Aw {o:Option AVal}{h:EH}{v:AVal}{H':AHeap}(hr:nV (.opt o) h v H'):o = some v /\ H' = ak h := by
  cases o with
  | none => exact hr.elim
  | some u => exact⟨by rw[hr.1], hr.2⟩
theorem vZ (k:IntKind)(i:Int):pE k i = k.wrap i := by
  unfold pE
  split
  · have hr:∀ j:Int, -9223372036854775808 <= j -> j <= 9223372036854775807 -> IntKind.i64.wrap j = j := fun j h1 h2 => QL j (by omega)
    cases i with
    | ofNat n =>
      show Bool.casesOn (motive := fun _ => Int) (Nat.ble n 9223372036854775807) _ _ = _
      cases hb:Nat.ble n 9223372036854775807 with
      | false => rfl
      | true =>
        have := Sk hb
        exact(hr (Int.ofNat n) (by simp only[SH]; omega) (by simp only[SH]; omega)).symm
    | negSucc n =>
      show Bool.casesOn (motive := fun _ => Int) (Nat.ble n 9223372036854775807) _ _ = _
      cases hb:Nat.ble n 9223372036854775807 with
      | false => rfl
      | true =>
        have := Sk hb
        exact(hr (Int.negSucc n) (by omega) (by omega)).symm
  · rfl
theorem sQ (a b:Int):pF a b = decide (a < b) := by
  cases a with
  | ofNat m => cases b with
    | ofNat n =>
      show Nat.ble (m + 1) n = _
      rw[SA, Nat.ble_eq, Si]
      simp; omega
    | negSucc n =>
      show false = _
      symm
      rw[RH]
      simp only[SH]
      omega
  | negSucc m => cases b with
    | ofNat n =>
      show true = _
      symm
      rw[Si]
      simp only[SH]
      omega
    | negSucc n =>
      show Nat.ble (n + 1) m = _
      rw[SA, Nat.ble_eq, Si]
      omega
theorem sR (a b:Int):pG a b = decide (a = b) := by
  cases a with
  | ofNat m => cases b with
    | ofNat n =>
      show Nat.beq m n = _
      rw[SA, Si]
      constructor
      · intro h; rw[QZ h]
      · intro h; rw[Int.ofNat.inj h]; exact Sx n
    | negSucc n =>
      show false = _
      symm
      rw[RH]
      intro h; cases h
  | negSucc m => cases b with
    | ofNat n =>
      show false = _
      symm
      rw[RH]
      intro h; cases h
    | negSucc n =>
      show Nat.beq m n = _
      rw[SA, Si]
      constructor
      · intro h; rw[QZ h]
      · intro h; rw[Int.negSucc.inj h]; exact Sx n
theorem v7 {d:Option Tmp}{k:BT AVal -> EH -> R}{env:BT AVal}{h:EH}{kd:IntKind}{i:Int}{r:RR}(hr:pJ d k env h kd i = some r):∃ env', aw env' = ay (aw env) d (.lit (.int kd i)) /\ k env' h = some r := by
  unfold pJ at hr
  rw[sL]at hr
  obtain⟨env', h1, h2⟩ := jS hr
  exact⟨env', h2, h1⟩
theorem mr {d:Option Tmp}{k:BT AVal -> EH -> R}{env:BT AVal}{h:EH}{b:Bool}{r:RR}(hr:ji d k env h b = some r):∃ env', aw env' = ay (aw env) d (.lit (.bool b)) /\ k env' h = some r := by
  unfold ji at hr
  rw[At]at hr
  obtain⟨env', h1, h2⟩ := jS hr
  exact⟨env', h2, h1⟩
theorem Ax (a b:Int):(decide (b < a)).not = decide (a <= b) := by
  rw[SA]
  simp
theorem JZ {op : BinOp} {t : TypeId} {x y : Operand} {f : iR} (hf : pK op = some f) {kd : IntKind} {a b : Int} {d : Option Tmp} {k : BT AVal → EH → R} {env : BT AVal} {h : EH} {r : RR}
    (hr:f kd a b d k env h = some r):
    ∃ v env', aZ P op t x y (.lit (.int kd a)) (.lit (.int kd b)) = some v /\ aw env' = ay (aw env) d v /\ k env' h = some r := by
  unfold pK at hf
  split at hf
  · cases hf; obtain⟨env', h1, h2⟩ := v7 hr; exact⟨_, env', zj, by rw[h1, vZ]; rfl, h2⟩
  · cases hf; obtain⟨env', h1, h2⟩ := v7 hr; exact⟨_, env', zk, by rw[h1, vZ]; rfl, h2⟩
  · cases hf; obtain⟨env', h1, h2⟩ := v7 hr; exact⟨_, env', zm, by rw[h1, vZ]; rfl, h2⟩
  · cases hf; obtain⟨env', h1, h2⟩ := mr hr; exact⟨_, env', zp, by rw[h1, sQ], h2⟩
  · cases hf; obtain⟨env', h1, h2⟩ := mr hr; exact⟨_, env', zr, by rw[h1, sQ], h2⟩
  · cases hf; obtain⟨env', h1, h2⟩ := mr hr; exact⟨_, env', zq, by rw[h1, sQ, Ax], h2⟩
  · cases hf; obtain⟨env', h1, h2⟩ := mr hr; exact⟨_, env', zu, by rw[h1, sQ, Ax], h2⟩
  · cases hf; obtain⟨env', h1, h2⟩ := mr hr; exact⟨_, env', zw, by rw[h1, sR], h2⟩
  · cases hf; obtain⟨env', h1, h2⟩ := mr hr; exact⟨_, env', zx, by rw[h1, sR], h2⟩
  · cases hf
theorem J0 {a b:IntKind}(h:Nat.beq (mo a) (mo b) = true):a = b := by
  have := QZ h
  cases a <;> cases b <;> first | rfl | simp [mo]at this
theorem J1 {h:EH}{t:TypeId}{a v:AVal}(hr:vw P h t a = some v):ee P (ak h) t a = some v := by
  unfold vw at hr
  split at hr
  · rename_i id gen off
    split at hr
    · rename_i g e cells hg
      show (match (ak h).get id with | some (.arr g _ cells) => if g = gen then dL P t cells off else none | _ => none) = some v
      have:(ak h).get id = some (.arr g e cells) := by show Option.map EBlk.je (aN h.hp id) = _; rw[hg]; rfl
      rw[this]
      cases hb:Nat.beq g gen with
      | false => rw[hb]at hr; cases hr
      | true =>
        rw[hb]at hr
        simp only
        rw[QN (QZ hb)]
        exact hr
    · cases hr
  · exact hr
  · cases hr
theorem J2 {h:EH}{t:TypeId}{a x v:AVal}{H':AHeap}(hr:nV (nI P h t a x) h v H'):v = .lit undef /\ fM P (ak h) t a x = some H' := by
  unfold nI at hr
  split at hr
  · rename_i id gen off
    split at hr
    · rename_i g e cells hg
      have hget:(ak h).get id = some (.arr g e cells) := by show Option.map EBlk.je (aN h.hp id) = _; rw[hg]; rfl
      cases hb:Nat.beq g gen with
      | false => rw[hb]at hr; exact hr.elim
      | true =>
        rw[hb]at hr
        simp only at hr
        split at hr
        · rename_i hc
          refine⟨hr.1, ?_⟩
          have hgg := QZ hb
          show (match (ak h).get id with | some (.arr g e cells) => if g = gen /\ x.cells.length = P.cellsOf t /\ x.cells.all AVal.one = true /\ off + x.cells.length <= cells.length then some ((ak h).upd id (.arr g e (setAt cells off x.cells))) else none | _ => none) = some H'
          rw[hget]
          simp only
          rw[QN ⟨hgg, hc⟩, hr.2]
          rfl
        · exact hr.elim
    · exact hr.elim
  · exact hr.elim
def VH (h:EH):Prop := ∀ id b, aN h.hp id = some b -> id < h.nx
theorem VH.wf {h:EH}(hv:VH h):ef (ak h) := fun id b hb => by
  have hb':Option.map EBlk.je (aN h.hp id) = some b := hb
  cases hg:aN h.hp id with
  | none => rw[hg]at hb'; cases hb'
  | some x => exact hv id x hg
def mu (o:OR)(h:EH):Prop :=
  match o with
  | .eff _ r _ _ _ fr => if fr then r = h.nx else r < h.nx
  | .effM _ r _ fr => if fr then r = h.nx else r < h.nx
  | _ => True
theorem Ay {h:EH}{k:AVal -> EH -> R}{o:OR}{r:RR}(hv:VH h)(hok:mu o h)(hr:vz h k o = some r):∃ v h', nV o h v (ak h') /\ VH h' /\ k v h' = some r := by
  cases o with
  | fail => cases hr
  | val v =>
    have hr':jd v (fun v => k v h) = some r := hr
    rw[nT]at hr'
    exact⟨v, h, ⟨rfl, rfl⟩, hv, hr'⟩
  | eff v r' g e c fr =>
    have hr':(cJ r' fun r' => cJ g fun g => fj c fun c => fh h.hp r' (.arr g e c) fun hp => jd v fun v => k v ⟨hp, Bool.casesOn (motive := fun _ => Nat) fr h.nx (Nat.succ h.nx)⟩) = some r := hr
    rw[fS, fS, gK]at hr'
    obtain⟨hp, h1, h2⟩ := kV _ _ _ _ _ hr'
    rw[nT]at h1
    refine⟨v, _, ⟨rfl, ?_⟩, ?_, h1⟩
    · rw[sP h2]
      cases fr <;> rfl
    · intro id b hb
      rw[h2]at hb
      cases fr with
      | false =>
        have hlt:r' < h.nx := hok
        show id < h.nx
        split at hb
        · omega
        · exact hv id b hb
      | true =>
        have hlt:r' = h.nx := hok
        show id < h.nx + 1
        split at hb
        · omega
        · have := hv id b hb; omega
  | effM v r' es fr =>
    have hr':(cJ r' fun r' => rI es fun es => fh h.hp r' (.mp es) fun hp => jd v fun v => k v ⟨hp, Bool.casesOn (motive := fun _ => Nat) fr h.nx (Nat.succ h.nx)⟩) = some r := hr
    rw[fS, JV]at hr'
    obtain⟨hp, h1, h2⟩ := kV _ _ _ _ _ hr'
    rw[nT]at h1
    refine⟨v, _, ⟨rfl, ?_⟩, ?_, h1⟩
    · rw[sP h2]
      cases fr <;> rfl
    · intro id b hb
      rw[h2]at hb
      cases fr with
      | false =>
        have hlt:r' < h.nx := hok
        show id < h.nx
        split at hb
        · omega
        · exact hv id b hb
      | true =>
        have hlt:r' = h.nx := hok
        show id < h.nx + 1
        split at hb
        · omega
        · have := hv id b hb; omega
def Plain (P:Program)(G:Nat -> Option (List AVal))(o:Op)(d:Option Tmp)(k:BT AVal -> EH -> R)(env:BT AVal)(h:EH)(r:RR):Prop :=
  ∃ v env' h', ae P G (aw env) (ak h) h.nx o = some (v, ak h') /\ VH h' /\ aw env' = ay (aw env) d v /\ k env' h' = some r
theorem ir {o : Op} {d : Option Tmp} {k : BT AVal → EH → R} {env : BT AVal} {x : OR} {h : EH} {r : RR} (hv : VH h) (hok : mu x h) (hrel : ∀ v H', nV x h v H' → ae P G (aw env) (ak h) h.nx o = some (v, H'))
    (hr:cN d k env x h = some r):Plain P G o d k env h r := by
  obtain⟨v, h', h1, h2, h3⟩ := Ay hv hok hr
  obtain⟨env', h4, h5⟩ := jS h3
  exact⟨v, env', h', hrel _ _ h1, h2, h5, h4⟩
theorem pR {o : Op} {d : Option Tmp} {k : BT AVal → EH → R} {env : BT AVal} {v : AVal} {h : EH} {r : RR} (hv : VH h) (hrel : ae P G (aw env) (ak h) h.nx o = some (v, ak h))
    (hr:eG env d v (fun env => k env h) = some r):Plain P G o d k env h r := by
  obtain⟨env', h4, h5⟩ := jS hr
  exact⟨v, env', h, hrel, hv, h5, h4⟩
theorem Az (o:Option AVal)(h:EH):mu (.opt o) h := by cases o <;> trivial
theorem fT {o : Op} {d : Option Tmp} {k : BT AVal → EH → R} {env : BT AVal} {x : Option AVal} {h : EH} {r : RR} (hv : VH h) (hrel : ae P G (aw env) (ak h) h.nx o = x.map fun v => (v, ak h))
    (hr:cN d k env (.opt x) h = some r):Plain P G o d k env h r :=
  ir hv (Az _ _) (fun v H' hx => by
    obtain⟨h1, h2⟩ := Aw hx
    rw[hrel, h1, h2]
    rfl) hr
theorem AA (ρ:Env)(id:Nat)(o:Op):(aY P G ρ id o).eff = [] \/ ∃ r, (aY P G ρ id o).eff = [r] := by
  have hid:∀ v:AVal, aB v = [] \/ ∃ r, aB v = [r] := fun v => by cases v <;> first | exact .inl rfl | exact .inr ⟨_, rfl⟩
  have hb:∀ (b:Builtin) (ats:List TypeId) (args:List AVal), (gH P id b ats args).eff = [] \/ ∃ r, (gH P id b ats args).eff = [r] := fun b ats args => by
    unfold gH
    split
    · split
      · exact hid _
      · exact .inr ⟨_, rfl⟩
    · exact hid _
    · exact hid _
    · exact .inl rfl
    · exact .inl rfl
  have hidM:∀ v:AVal, cB v = [] \/ ∃ r, cB v = [r] := fun v => by cases v <;> first | exact .inl rfl | exact .inr ⟨_, rfl⟩
  unfold aY
  split <;> first | exact .inl rfl | exact .inr ⟨_, rfl⟩ | exact hid _ | exact hidM _ | skip
  split
  · exact hb _ _ _
  · exact .inl rfl
theorem sS {E:EP}{env:BT AVal}{h:EH}{o:Op}(hv:VH h):mu (mq E env h o) h /\ ∀ v H', nV (mq E env h o) h v H' -> ae E.P E.G (aw env) (ak h) h.nx o = some (v, H') := by
  unfold mq pH
  split
  · exact⟨trivial, fun _ _ h => h.elim⟩
  · rename_i u H2 hop
    obtain⟨e, al, h1, h2, h3, h4, h5, _⟩ := uK (hv.wf) hop
    split
    · rename_i hf
      refine⟨trivial, fun v H' hx => ?_⟩
      have he:e = none := by
        cases e with
        | none => rfl
        | some kb =>
          have h3' := (h3 kb.1 kb.2 rfl).1
          have hf':(aY E.P E.G (aw env) (ak h).next o).eff = [] := hf
          rw[hf']at h3'
          cases h3'
      have hal:al = false := by
        cases al with
        | false => rfl
        | true =>
          obtain⟨b, hb⟩ := h4 rfl
          rw[he]at hb
          cases hb
      obtain⟨rfl, rfl⟩ := hx
      subst he
      subst hal
      rw[hop]
      congr 2
      have h1':H2.get = (ak h).get := h1
      have h2':H2.next = (ak h).next := h2
      cases H2
      simp only at h1' h2'
      rw[h1', h2']
    · rename_i r l hf
      split
      · rename_i g e' c hg
        have hf':(aY E.P E.G (aw env) (ak h).next o).eff = r :: l := hf
        have hl:l = [] := by
          rcases AA (P := E.P) (G := E.G) (aw env) (ak h).next o with h6 | ⟨r', h6⟩
          · rw[hf']at h6; cases h6
          · rw[hf']at h6; cases h6; rfl
        subst hl
        have key:H2 = ⟨fun j => if j = r then some (.arr g e' c) else (ak h).get j, if al then (ak h).next + 1 else (ak h).next⟩ /\ (if al = true then r = h.nx else r < h.nx) := by
          cases e with
          | none =>
            have hal:al = false := by
              cases al with
              | false => rfl
              | true => obtain⟨b, hb⟩ := h4 rfl; cases hb
            subst hal
            have h1':H2.get = (ak h).get := h1
            have h2':H2.next = (ak h).next := h2
            have hgr:(ak h).get r = some (.arr g e' c) := by rw[<- h1']; exact hg
            refine⟨?_, hv.wf r _ hgr⟩
            cases H2
            simp only at h1' h2'
            rw[h1', h2']
            congr 1
            funext j
            split
            · rename_i hj; rw[hj, hgr]
            · rfl
          | some kb =>
            obtain⟨kk, b⟩ := kb
            obtain⟨h7, h8⟩ := h3 kk b rfl
            rw[hf']at h7
            have hkk:kk = r := by simpa using h7
            subst hkk
            have hb:b = .arr g e' c := by
              rw[h1]at hg
              simp only[cW, if_true]at hg
              exact Option.some.inj hg
            subst hb
            refine⟨?_, ?_⟩
            · cases H2
              simp only at h1 h2
              rw[h1, h2]
              rfl
            · cases al with
              | true =>
                obtain⟨b, hb⟩ := h4 rfl
                simp only[Option.some.injEq, Prod.mk.injEq]at hb
                exact hb.1
              | false => exact h5 _ (h8 rfl)
        have hbeq:Nat.beq r h.nx = al := by
          cases al with
          | true => rw[show r = h.nx from key.2]; exact Sx _
          | false =>
            have:r < h.nx := key.2
            cases hb:Nat.beq r h.nx with
            | false => rfl
            | true => have := QZ hb; omega
        rw[hbeq]
        refine⟨?_, fun v H' hx => ?_⟩
        · have := key.2
          cases al <;> exact this
        · obtain⟨rfl, rfl⟩ := hx
          rw[hop, key.1]
          rfl
      · rename_i es hg
        have hf':(aY E.P E.G (aw env) (ak h).next o).eff = r :: l := hf
        have hl:l = [] := by
          rcases AA (P := E.P) (G := E.G) (aw env) (ak h).next o with h6 | ⟨r', h6⟩
          · rw[hf']at h6; cases h6
          · rw[hf']at h6; cases h6; rfl
        subst hl
        have key:H2 = ⟨fun j => if j = r then some (.mp es) else (ak h).get j, if al then (ak h).next + 1 else (ak h).next⟩ /\ (if al = true then r = h.nx else r < h.nx) := by
          cases e with
          | none =>
            have hal:al = false := by
              cases al with
              | false => rfl
              | true => obtain⟨b, hb⟩ := h4 rfl; cases hb
            subst hal
            have h1':H2.get = (ak h).get := h1
            have h2':H2.next = (ak h).next := h2
            have hgr:(ak h).get r = some (.mp es) := by rw[<- h1']; exact hg
            refine⟨?_, hv.wf r _ hgr⟩
            cases H2
            simp only at h1' h2'
            rw[h1', h2']
            congr 1
            funext j
            split
            · rename_i hj; rw[hj, hgr]
            · rfl
          | some kb =>
            obtain⟨kk, b⟩ := kb
            obtain⟨h7, h8⟩ := h3 kk b rfl
            rw[hf']at h7
            have hkk:kk = r := by simpa using h7
            subst hkk
            have hb:b = .mp es := by
              rw[h1]at hg
              simp only[cW, if_true]at hg
              exact Option.some.inj hg
            subst hb
            refine⟨?_, ?_⟩
            · cases H2
              simp only at h1 h2
              rw[h1, h2]
              rfl
            · cases al with
              | true =>
                obtain⟨b, hb⟩ := h4 rfl
                simp only[Option.some.injEq, Prod.mk.injEq]at hb
                exact hb.1
              | false => exact h5 _ (h8 rfl)
        have hbeq:Nat.beq r h.nx = al := by
          cases al with
          | true => rw[show r = h.nx from key.2]; exact Sx _
          | false =>
            have:r < h.nx := key.2
            cases hb:Nat.beq r h.nx with
            | false => rfl
            | true => have := QZ hb; omega
        rw[hbeq]
        refine⟨?_, fun v H' hx => ?_⟩
        · have := key.2
          cases al <;> exact this
        · obtain⟨rfl, rfl⟩ := hx
          rw[hop, key.1]
          rfl
      · exact⟨trivial, fun _ _ h => h.elim⟩
theorem kW {E:EP}{ih:iQ}{rd:Option Nat}{o:Op}{d:Option Tmp}{k:BT AVal -> EH -> R}{env:BT AVal}{h:EH}{r:RR}(hv:VH h)(hr:eT o E ih rd d k env h = some r):Plain E.P E.G o d k env h r :=
  ir hv (sS hv).1 (sS hv).2 hr
end Go.Hx
namespace Go.Hx
variable {E:EP} {ih:iQ} {rd:Option Nat} {d:Option Tmp} {k:BT AVal -> EH -> R} {env:BT AVal} {h:EH} {r:RR}
theorem AB {v:AVal}{g:Nat}{e:TypeId}{c:List AVal}:mu (.eff v h.nx g e c true) h := rfl
theorem AC (parts:Array (Nat × Operand))(f:Operand -> AVal):(parts.toList.map (·.1)).zip ((parts.toList.map (·.2)).map f) = parts.toList.map fun p => (p.1, f p.2) := by
  induction parts.toList with
  | nil => rfl
  | cons p l ih => simp only[List.map_cons, Te, ih]
theorem wc {H H':AHeap}{b:Blk}(h:H.lay H.next b = some H'):H' = ⟨fun j => if j = H.next then some b else H.get j, H.next + 1⟩ := by
  unfold AHeap.lay at h
  rw[QN rfl]at h
  exact(Option.some.inj h).symm
theorem AD {x : Option (AVal × AHeap)} {v : AVal} {H' : AHeap} (hx : ∀ u H2, x = some (u, H2) → ∃ g e c, H2 = ⟨fun j => if j = h.nx then some (.arr g e c) else (ak h).get j, h.nx + 1⟩) :
    mu (sd h.nx true x) h /\ (nV (sd h.nx true x) h v H' -> x = some (v, H')) := by
  unfold sd
  split
  · rename_i u H2
    obtain⟨g, e, c, rfl⟩ := hx u H2 rfl
    simp only[pO, if_true]
    refine⟨rfl, fun hr => ?_⟩
    obtain⟨rfl, rfl⟩ := hr
    rfl
  · exact⟨trivial, fun hr => hr.elim⟩
theorem J3 {x:Operand}(hv:VH h)(hr:kS x E ih rd d k env h = some r):Plain E.P E.G (.move x) d k env h r := by
  unfold kS at hr
  rw[bZ]at hr
  exact pR hv rfl hr
theorem J4 {x:Operand}(hv:VH h)(hr:kS x E ih rd d k env h = some r):Plain E.P E.G (.assign x) d k env h r := by
  unfold kS at hr
  rw[bZ]at hr
  exact pR hv rfl hr
theorem J5 {e:TypeId}{x:Operand}(hv:VH h)(hr:rS e x E ih rd d k env h = some r):Plain E.P E.G (.box e x) d k env h r := by
  unfold rS at hr
  rw[bZ]at hr
  refine ir hv AB (fun v H' hx => ?_) hr
  obtain⟨rfl, rfl⟩ := hx
  show ((ak h).lay (ak h).next (.arr 0 e (af E.G (aw env) x).cells)).map (fun H' => (AVal.ptr h.nx 0 0, H')) = _
  unfold AHeap.lay
  rw[QN rfl]
  rfl
theorem J6 {t:TypeId}{parts:Array (Nat × Operand)}(hv:VH h)(hr:rT t parts E ih rd d k env h = some r):Plain E.P E.G (.build t parts) d k env h r := by
  unfold rT at hr
  rw[nU, AC]at hr
  exact fT hv rfl hr
theorem J7 {t:TypeId}{len:Nat}{parts:Array (Nat × Operand)}(hv:VH h)(hr:rU t len parts E ih rd d k env h = some r):Plain E.P E.G (.buildSlice t len parts) d k env h r := by
  unfold rU at hr
  rw[nU, AC]at hr
  have hform:∀ u H2, iF E.P (ak h) h.nx t len (parts.toList.map fun p => (p.1, af E.G (aw env) p.2)) = some (u, H2) -> ∃ e c, H2 = ⟨fun j => if j = h.nx then some (.arr 0 e c) else (ak h).get j, h.nx + 1⟩ := by
    intro u H2 hb
    unfold iF at hb
    split at hb
    · split at hb
      · simp only[QO, QJ, Prod.mk.injEq]at hb
        obtain⟨z, _, c, _, H3, hl, _, rfl⟩ := hb
        exact⟨_, _, wc hl⟩
      · cases hb
    · cases hb
  refine ir hv ?_ (fun v H' hx => ?_) hr
  · unfold pH
    split
    · trivial
    · rename_i u H2 hb
      obtain⟨e, c, rfl⟩ := hform _ _ hb
      simp only[if_true, show Nat.beq h.nx h.nx = true from Sx _]
      rfl
  · unfold pH at hx
    split at hx
    · exact hx.elim
    · rename_i u H2 hb
      obtain⟨e, c, rfl⟩ := hform _ _ hb
      simp only[if_true, show Nat.beq h.nx h.nx = true from Sx _]at hx
      obtain⟨rfl, rfl⟩ := hx
      exact hb
theorem J8 {t:TypeId}{a:Operand}(hv:VH h)(hr:rV t a E ih rd d k env h = some r):Plain E.P E.G (.load t a) d k env h r := by
  unfold rV at hr
  rw[bZ]at hr
  refine ir hv (Az _ _) (fun v H' hx => ?_) hr
  obtain⟨h1, rfl⟩ := Aw hx
  show (ee E.P (ak h) t (af E.G (aw env) a)).map _ = _
  rw[J1 h1]
  rfl
theorem J9 {P:Program}{t:TypeId}{a v:AVal}(hv:VH h):mu (nI P h t a v) h := by
  unfold nI
  split
  · rename_i id gen off
    split
    · rename_i g e cells hg
      cases hb:Nat.beq g gen with
      | false => trivial
      | true =>
        simp only
        split
        · show id < h.nx
          exact hv _ _ hg
        · trivial
    · trivial
  · trivial
theorem Ka {t:TypeId}{a x:Operand}(hv:VH h)(hr:rW t a x E ih rd d k env h = some r):Plain E.P E.G (.store t a x) d k env h r := by
  unfold rW at hr
  cases hu:(E.P.underlying t).isSome with
  | false => rw[hu]at hr; cases hr
  | true =>
    rw[hu]at hr
    have hr':(bJ E.G env a fun a => bJ E.G env x fun v => cN d k env (nI E.P h t a v) h) = some r := hr
    rw[bZ, bZ]at hr'
    refine ir hv ?_ (fun v H' hx => ?_) hr'
    · exact J9 hv
    · obtain⟨rfl, h2⟩ := J2 hx
      show (if (E.P.underlying t).isSome then (fM E.P (ak h) t (af E.G (aw env) a) (af E.G (aw env) x)).map (fun H' => (AVal.lit undef, H')) else none) = _
      rw[QN hu, h2]
      rfl
def AE (P:Program)(G:Nat -> Option (List AVal))(o:Op)(d:Option Tmp)(k:BT AVal -> EH -> R)(env:BT AVal)(h:EH)(r:RR):Prop :=
  ∃ op t x y u env', o = .binOp op t x y u /\ gF (ak h) op (af G (aw env) x) (af G (aw env) y) = some true /\ jM (P.underlying t) = true /\ aw env' = ay (aw env) d (.lit (.bool (op == .neq))) /\ k env' h = some r
theorem Kc {op:BinOp}{t:TypeId}{x y:Operand}{u:TypeId}(hv:VH h)(hr:rY op t x y u E ih rd d k env h = some r):Plain E.P E.G (.binOp op t x y u) d k env h r \/ AE E.P E.G (.binOp op t x y u) d k env h r := by
  unfold rY at hr
  rw[bZ, bZ]at hr
  have hop:ae E.P E.G (aw env) (ak h) h.nx (.binOp op t x y u) = (aZ E.P op t x y (af E.G (aw env) x) (af E.G (aw env) y)).map fun v => (v, ak h) := rfl
  unfold Ae at hr
  split at hr
  · rename_i kd a kd' b ha hb
    rw[ha, hb]at hop
    left
    cases hk:Nat.beq (mo kd) (mo kd') with
    | false => rw[hk]at hr; exact fT hv hop hr
    | true =>
      rw[hk]at hr
      obtain rfl := J0 hk
      have hr':Option.rec (motive := fun _ => R) (rX E op t x y (.lit (.int kd a)) (.lit (.int kd b)) d k env h) (fun f => f kd a b d k env h) (pK op) = some r := hr
      cases hi:pK op with
      | none =>
        rw[hi]at hr'
        exact fT hv hop hr'
      | some f =>
        rw[hi]at hr'
        obtain⟨v, env', h1, h2, h3⟩ := JZ (P := E.P) (t := t) (x := x) (y := y) hi hr'
        refine⟨v, env', h, ?_, hv, h2, h3⟩
        rw[hop, h1]
        rfl
  · unfold Ad at hr
    split at hr
    · exact .inl (fT hv hop hr)
    · rename_i hn
      right
      cases hs:jM (E.P.underlying t) with
      | false => rw[hs]at hr; cases hr
      | true =>
        rw[hs]at hr
        obtain⟨env', h1, h2⟩ := mr (show ji d k env h (op == .neq) = some r from hr)
        exact⟨op, t, x, y, u, env', rfl, hn, hs, h1, h2⟩
    · cases hr
theorem Kd {fn:Fn}{first cap:Array Operand}(hv:VH h)(hr:rZ fn first cap E ih rd d k env h = some r):Plain E.P E.G (.makeFunc fn first cap) d k env h r := by
  unfold rZ at hr
  split at hr
  · rw[nU, nU]at hr
    exact pR hv rfl hr
  · cases hr
theorem Ke {t:TypeId}{x i:Operand}(hv:VH h)(hr:r9 t x i E ih rd d k env h = some r):Plain E.P E.G (.indexAddr t x i) d k env h r := by
  unfold r9 at hr
  rw[bZ, bZ]at hr
  refine fT hv ?_ hr
  simp only[ae, nu]
  split
  · rename_i heq; rw[heq]
  · rename_i hne
    split
    · rename_i heq; exact absurd heq (hne _ _)
    · rfl
theorem Kf {c a b:Operand}(hv:VH h)(hr:se c a b E ih rd d k env h = some r):Plain E.P E.G (.pick c a b) d k env h r := by
  unfold se at hr
  rw[bZ]at hr
  split at hr
  · rename_i t hc
    have hop:∀ t', af E.G (aw env) c = .lit (.bool t') -> ae E.P E.G (aw env) (ak h) h.nx (.pick c a b) = some (if t' then af E.G (aw env) a else af E.G (aw env) b, ak h) := fun t' ht => by
      simp only[ae, ht]
    cases t with
    | false =>
      have hr':(bJ E.G env b fun v => eG env d v fun env => k env h) = some r := hr
      rw[bZ]at hr'
      exact pR hv (hop _ hc) hr'
    | true =>
      have hr':(bJ E.G env a fun v => eG env d v fun env => k env h) = some r := hr
      rw[bZ]at hr'
      exact pR hv (hop _ hc) hr'
  · cases hr
theorem Kg {e:TypeId}(hv:VH h)(hr:sf e E ih rd d k env h = some r):Plain E.P E.G (.alloc e) d k env h r := by
  unfold sf at hr
  split at hr
  · rename_i z hz
    refine ir hv AB (fun v H' hx => ?_) hr
    obtain⟨rfl, rfl⟩ := hx
    show ((bH E.P e).bind fun z => ((ak h).lay (ak h).next (.arr 0 e z)).map fun H' => (AVal.ptr h.nx 0 0, H')) = _
    rw[hz]
    show ((ak h).lay (ak h).next (.arr 0 e z)).map _ = _
    unfold AHeap.lay
    rw[QN rfl]
    rfl
  · cases hr
theorem Kh {x:Operand}(hv:VH h)(hr:sg x E ih rd d k env h = some r):Plain E.P E.G (.nilCheck x) d k env h r := by
  unfold sg at hr; rw[bZ]at hr; exact fT hv rfl hr
theorem Ki {op:UnOp}{t:TypeId}{x:Operand}(hv:VH h)(hr:sj op t x E ih rd d k env h = some r):Plain E.P E.G (.unOp op t x) d k env h r := by
  unfold sj at hr; rw[bZ]at hr; exact fT hv rfl hr
theorem Kj {s t:TypeId}{x:Operand}(hv:VH h)(hr:sk s t x E ih rd d k env h = some r):Plain E.P E.G (.convert s t x) d k env h r := by
  unfold sk at hr; rw[bZ]at hr; exact fT hv rfl hr
theorem Kk {t:Operand}{i:Nat}(hv:VH h)(hr:sC t i E ih rd d k env h = some r):Plain E.P E.G (.extract t i) d k env h r := by
  unfold sC at hr; rw[bZ]at hr; exact fT hv rfl hr
theorem Kl {t:TypeId}{x i:Operand}(hv:VH h)(hr:sy t x i E ih rd d k env h = some r):Plain E.P E.G (.index t x i) d k env h r := by
  unfold sy at hr; rw[bZ, bZ]at hr; exact fT hv rfl hr
theorem Km {t:TypeId}{x:Operand}{f:Nat}(hv:VH h)(hr:sx t x f E ih rd d k env h = some r):Plain E.P E.G (.field t x f) d k env h r := by
  unfold sx at hr; rw[bZ]at hr
  refine fT hv ?_ hr
  simp only[ae, zi]
  cases bW E.P t f with
  | none => rfl
  | some of =>
    simp only[Option.bind_some]
    generalize af E.G (aw env) x = v
    cases v with
    | lit v => cases v <;> rfl
    | _ => rfl
theorem Kn {t:TypeId}{x:Operand}{f:Nat}(hv:VH h)(hr:sw t x f E ih rd d k env h = some r):Plain E.P E.G (.fieldAddr t x f) d k env h r := by
  unfold sw at hr; rw[bZ]at hr
  refine fT hv ?_ hr
  simp only[ae, nt]
  cases bW E.P t f with
  | none => rfl
  | some of =>
    simp only[Option.bind_some]
    generalize af E.G (aw env) x = v
    cases v with
    | ptr id gen off =>
      show Option.map _ ((ak h).live id gen) = Option.map _ (Option.map _ ((ak h).live id gen))
      rw[Option.map_map]
      rfl
    | _ => rfl
theorem Ko {t:TypeId}{l c:Operand}(hv:VH h)(hr:ss t l c E ih rd d k env h = some r):Plain E.P E.G (.makeSlice t l c) d k env h r := by
  unfold ss at hr; rw[bZ, bZ]at hr
  have hform:∀ u H2, ie E.P (ak h) h.nx t (af E.G (aw env) l) (af E.G (aw env) c) = some (u, H2) -> ∃ g e c, H2 = ⟨fun j => if j = h.nx then some (.arr g e c) else (ak h).get j, h.nx + 1⟩ := by
    intro u H2 hb
    unfold ie at hb
    split at hb
    · split at hb
      · simp only[QO, QJ, Prod.mk.injEq]at hb
        obtain⟨z, _, H3, hl, _, rfl⟩ := hb
        exact⟨_, _, _, wc hl⟩
      · cases hb
    · cases hb
  exact ir hv (AD (v := .lit undef) (H' := ak h) hform).1 (fun v H' hx => (AD hform).2 hx) hr
theorem Kp {t:TypeId}{x:Operand}{l u m:Option Operand}(hv:VH h)(hr:su t x l u m E ih rd d k env h = some r):Plain E.P E.G (.slice t x l u m) d k env h r := by
  unfold su at hr
  split at hr
  · rw[bZ, Av, Av]at hr
    exact fT hv rfl hr
  · cases hr
theorem Kq {c:Call}{t:TypeId}{x:Operand}(hb:c.callee = .builtin .len)(ht:c.argTypes.toList = [t])(ha:c.args.toList = [x])(hv:VH h)(hr:sD t x E ih rd d k env h = some r):Plain E.P E.G (.call c) d k env h r := by
  unfold sD at hr; rw[bZ]at hr
  refine fT hv ?_ hr
  simp only[ae, hb, ht, ha]
  rfl
theorem Kr {P : Program} {H H' : AHeap} {nx : Nat} {t u : TypeId} {id g o l z : Nat} {x v : AVal} (hr : bC P H nx t u (.own id g o l z) x = some (v, H')) :
    (v = .own id g o l z /\ H' = H) \/ ∃ l' e c, v = .own id (g + 1) 0 l' z /\ H' = H.upd id (.arr (g + 1) e c) /\ ∃ e0 c0, H.live id g = some (e0, c0) := by
  unfold bC at hr
  split at hr
  · split at hr
    · simp only[QO]at hr
      obtain⟨_, _, nx', _, ec, hl, hr⟩ := hr
      split at hr
      · split at hr
        · simp only[Option.some.injEq, Prod.mk.injEq]at hr
          exact .inl ⟨hr.1.symm, hr.2.symm⟩
        · simp only[Option.some.injEq, Prod.mk.injEq]at hr
          exact .inr ⟨_, _, _, hr.1.symm, hr.2.symm, ec.1, ec.2, hl⟩
      · cases hr
    · cases hr
  · cases hr
theorem append_nil {P : Program} {H H' : AHeap} {t u : TypeId} {s x v : AVal} (hs : ∀ a b c d e, s ≠ .own a b c d e) (hr : bC P H H.next t u s x = some (v, H')) :
    (v = .lit (.slice none 0 0) /\ H' = H) \/ ∃ l z e c, v = .own H.next 0 0 l z /\ H' = ⟨fun j => if j = H.next then some (.arr 0 e c) else H.get j, H.next + 1⟩ := by
  unfold bC at hr
  split at hr
  · split at hr
    · simp only[QO]at hr
      obtain⟨_, _, nx', _, hr⟩ := hr
      split at hr
      · split at hr
        · simp only[Option.some.injEq, Prod.mk.injEq]at hr
          exact .inl ⟨hr.1.symm, hr.2.symm⟩
        · split at hr
          · simp only[QJ, Prod.mk.injEq]at hr
            obtain⟨H3, hl, h1, rfl⟩ := hr
            exact .inr ⟨_, _, _, _, h1.symm, wc hl⟩
          · cases hr
      · exact absurd rfl (hs _ _ _ _ _)
      · cases hr
    · cases hr
  · cases hr
theorem Ks {c:Call}{t u:TypeId}{s x:Operand}(hb:c.callee = .builtin .append)(ht:c.argTypes.toList = [t, u])(ha:c.args.toList = [s, x])(hv:VH h)(hr:sE t u s x E ih rd d k env h = some r):Plain E.P E.G (.call c) d k env h r := by
  unfold sE at hr; rw[bZ, bZ]at hr
  have hop:ae E.P E.G (aw env) (ak h) h.nx (.call c) = bC E.P (ak h) h.nx t u (af E.G (aw env) s) (af E.G (aw env) x) := by
    simp only[ae, hb, ht, ha]
    rfl
  generalize af E.G (aw env) s = sv at hr hop
  generalize af E.G (aw env) x = xv at hr hop
  unfold Af at hr
  split at hr
  · rename_i id g o l z
    split at hr
    · rename_i g' o' l' z' H' happ
      rename_i id'
      have happ0 := happ
      rcases Kr happ with ⟨h1, rfl⟩ | ⟨l2, e, c2, h1, rfl, e0, c0, hlive⟩
      · simp only[AVal.own.injEq]at h1
        obtain⟨rfl, rfl, rfl, rfl, rfl⟩ := h1
        have hb2:Nat.beq g' g' = true := Sx _
        rw[hb2]at hr
        refine ir (x := .val (.own id' g' o' l' z')) hv trivial (fun v H'' hx => ?_) hr
        obtain⟨rfl, rfl⟩ := hx
        rw[hop, happ0]
      · simp only[AVal.own.injEq]at h1
        obtain⟨rfl, rfl, rfl, rfl, rfl⟩ := h1
        have hne:Nat.beq (g + 1) g = false := by
          cases hbq:Nat.beq (g + 1) g with
          | false => rfl
          | true => have := QZ hbq; omega
        rw[hne]at hr
        have hr':cN d k env (pO (.own id' (g + 1) 0 l' z') id' false (((ak h).upd id' (.arr (g + 1) e c2)).get id')) h = some r := hr
        have hget:((ak h).upd id' (.arr (g + 1) e c2)).get id' = some (.arr (g + 1) e c2) := by simp [AHeap.upd]
        rw[hget]at hr'
        refine ir (x := .eff (.own id' (g + 1) 0 l' z') id' (g + 1) e c2 false) hv ?_ (fun v H'' hx => ?_) hr'
        · show id' < h.nx
          exact ij hv.wf hlive
        · obtain⟨rfl, rfl⟩ := hx
          rw[hop, happ0]
          rfl
    · cases hr
  · rename_i hs
    split at hr
    · rename_i id' g' o' l' z' H' happ
      rcases append_nil (H := ak h) (fun a b c d e he => hs a b c d e he) happ with ⟨h1, _⟩ | ⟨l2, z2, e, c2, h1, h2⟩
      · cases h1
      · have hget : H'.get h.nx = some (.arr 0 e c2) := by
          rw[h2]
          show (if h.nx = h.nx then some (Blk.arr 0 e c2) else _) = _
          rw[QN rfl]
        rw[hget]at hr
        refine ir (x := .eff (.own id' g' o' l' z') h.nx 0 e c2 true) hv rfl (fun v H'' hx => ?_) hr
        obtain⟨rfl, rfl⟩ := hx
        rw[hop, happ, h2]
        rfl
    · rename_i v H' happ
      rcases append_nil (H := ak h) (fun a b c d e he => hs a b c d e he) happ with ⟨h1, h2⟩ | ⟨l2, z2, e, c2, h1, h2⟩
      · refine ir (x := .val (.lit v)) hv trivial (fun v H'' hx => ?_) hr
        obtain⟨rfl, rfl⟩ := hx
        rw[hop, happ, h2]
      · cases h1
    · cases hr
theorem Kt (c : Call) (b : Builtin) : (∃ t x, b = .len ∧ c.argTypes.toList = [t] ∧ c.args.toList = [x] ∧ nO c b = sD t x) ∨
    (∃ t u s x, b = .append /\ c.argTypes.toList = [t, u] /\ c.args.toList = [s, x] /\ nO c b = sE t u s x) \/ nO c b = eT (.call c) := by
  unfold nO
  split
  · rename_i t x h1 h2; exact .inl ⟨t, x, rfl, h1, h2, rfl⟩
  · rename_i t u s x h1 h2; exact .inr (.inl ⟨t, u, s, x, rfl, h1, h2, rfl⟩)
  · exact .inr (.inr rfl)
theorem Ku {o : Op} (hv : VH h) (hr : sF o E ih rd d k env h = some r) :
    Plain E.P E.G o d k env h r \/ AE E.P E.G o d k env h r \/ (∃ fv args ats, o = .call ⟨.value fv, args, ats⟩ /\ vP fv args E ih rd d k env h = some r) \/ (∃ x, o = .panic x /\ vO x E ih rd d k env h = some r) := by
  cases o with
  | move x => exact .inl (J3 hv (show kS x E ih rd d k env h = some r from hr))
  | assign x => exact .inl (J4 hv (show kS x E ih rd d k env h = some r from hr))
  | pick c a b => exact .inl (Kf hv (show se c a b E ih rd d k env h = some r from hr))
  | alloc e => exact .inl (Kg hv (show sf e E ih rd d k env h = some r from hr))
  | box e x => exact .inl (J5 hv (show rS e x E ih rd d k env h = some r from hr))
  | build t parts => exact .inl (J6 hv (show rT t parts E ih rd d k env h = some r from hr))
  | buildSlice t l parts => exact .inl (J7 hv (show rU t l parts E ih rd d k env h = some r from hr))
  | load t a => exact .inl (J8 hv (show rV t a E ih rd d k env h = some r from hr))
  | store t a x => exact .inl (Ka hv (show rW t a x E ih rd d k env h = some r from hr))
  | nilCheck x => exact .inl (Kh hv (show sg x E ih rd d k env h = some r from hr))
  | binOp op t x y u => exact(Kc hv (show rY op t x y u E ih rd d k env h = some r from hr)).elim .inl fun h => .inr (.inl h)
  | unOp op t x => exact .inl (Ki hv (show sj op t x E ih rd d k env h = some r from hr))
  | convert s t x => exact .inl (Kj hv (show sk s t x E ih rd d k env h = some r from hr))
  | makeInterface t x => exact .inl (kW hv (show eT (.makeInterface t x) E ih rd d k env h = some r from hr))
  | insert t m a x => exact .inl (kW hv (show eT (.insert t m a x) E ih rd d k env h = some r from hr))
  | makeMap t x => exact .inl (kW hv (show eT (.makeMap t x) E ih rd d k env h = some r from hr))
  | lookup t x i ok => exact .inl (kW hv (show eT (.lookup t x i ok) E ih rd d k env h = some r from hr))
  | mapUpdate t m a x => exact .inl (kW hv (show eT (.mapUpdate t m a x) E ih rd d k env h = some r from hr))
  | mapEntry t m a => exact .inl (kW hv (show eT (.mapEntry t m a) E ih rd d k env h = some r from hr))
  | entryStore t m a x => exact .inl (kW hv (show eT (.entryStore t m a x) E ih rd d k env h = some r from hr))
  | makeFunc fn a b => exact .inl (Kd hv (show rZ fn a b E ih rd d k env h = some r from hr))
  | makeSlice t l c => exact .inl (Ko hv (show ss t l c E ih rd d k env h = some r from hr))
  | slice t x l u m => exact .inl (Kp hv (show su t x l u m E ih rd d k env h = some r from hr))
  | fieldAddr t x f => exact .inl (Kn hv (show sw t x f E ih rd d k env h = some r from hr))
  | field t x f => exact .inl (Km hv (show sx t x f E ih rd d k env h = some r from hr))
  | indexAddr t x i => exact .inl (Ke hv (show r9 t x i E ih rd d k env h = some r from hr))
  | index t x i => exact .inl (Kl hv (show sy t x i E ih rd d k env h = some r from hr))
  | extract t i => exact .inl (Kk hv (show sC t i E ih rd d k env h = some r from hr))
  | panic x => exact .inr (.inr (.inr ⟨x, rfl, hr⟩))
  | call c =>
    have hr':Ag c E ih rd d k env h = some r := hr
    obtain⟨callee, args, ats⟩ := c
    cases callee with
    | value fv => exact .inr (.inr (.inl ⟨fv, args, ats, rfl, hr'⟩))
    | builtin b =>
      refine .inl ?_
      have hr2:nO ⟨.builtin b, args, ats⟩ b E ih rd d k env h = some r := hr'
      rcases Kt ⟨.builtin b, args, ats⟩ b with ⟨t, x, rfl, h1, h2, h3⟩ | ⟨t, u, s, x, rfl, h1, h2, h3⟩ | h3
      · rw[h3]at hr2; exact Kq rfl h1 h2 hv hr2
      · rw[h3]at hr2; exact Ks rfl h1 h2 hv hr2
      · rw[h3]at hr2; exact kW hv hr2
    | invoke a b => cases hr'
  | _ => cases hr
end Go.Hx
namespace Go.Hx
theorem mv {f : AVal → Option (AVal × List Nat)} : ∀ {l l' : List AVal} {rs : List Nat}, bw f l = some (l', rs) →
    l'.length = l.length /\ ∀ i (_:i < l.length) (_:i < l'.length), ∃ ri, f l[i] = some (l'[i], ri) /\ ∀ r, r ∈ ri -> r ∈ rs := by
  intro l
  induction l with
  | nil =>
    intro l' rs h
    simp only[bw, Option.some.injEq, Prod.mk.injEq]at h
    obtain⟨rfl, rfl⟩ := h
    exact⟨rfl, fun i h _ => absurd h (Q5 _)⟩
  | cons x l ih =>
    intro l' rs h
    have h':(match f x, bw f l with | some (y, a), some (l, b) => some (y :: l, a ++ b) | _, _ => none) = some (l', rs) := h
    split at h'
    · rename_i y a l2 b h1 h2
      simp only[Option.some.injEq, Prod.mk.injEq]at h'
      obtain⟨rfl, rfl⟩ := h'
      obtain⟨h3, h4⟩ := ih h2
      refine⟨by simp [h3], fun i hi hi' => ?_⟩
      cases i with
      | zero => exact⟨a, h1, fun r hr => So _ hr⟩
      | succ i =>
        obtain⟨ri, h5, h6⟩ := h4 i (by simpa using hi) (by simpa using hi')
        exact⟨ri, h5, fun r hr => Se _ (h6 r hr)⟩
    · cases h'
theorem kX {h:EH}{id g:Nat}{e:TypeId}{c:List AVal}(hg:aN h.hp id = some (.arr g e c)):(ak h).get id = some (.arr g e c) := by
  show Option.map EBlk.je (aN h.hp id) = _
  rw[hg]
  rfl
theorem AF {h:EH}:∀ (fuel:Nat) {v v':AVal} {rs:List Nat}, fR h fuel v = some (v', rs) -> ∀ H2:AHeap, (∀ r, r ∈ rs -> H2.get r = (ak h).get r) -> Fz (fun _ => True) H2 0 v v' := by
  intro fuel
  induction fuel with
  | zero => intro v v' rs h; cases h
  | succ f ih =>
    intro v v' rs hv H2 ha
    have list : ∀ {l l' : List AVal} {rs' : List Nat}, bw (fR h f) l = some (l', rs') → (∀ r, r ∈ rs' → H2.get r = (ak h).get r) →
        l'.length = l.length /\ ∀ i (_:i < l.length) (_:i < l'.length), Fz (fun _ => True) H2 0 l[i] l'[i] := fun hm ha' => by
      obtain⟨h1, h2⟩ := mv hm
      exact⟨h1, fun i hi hi' => let ⟨ri, h3, h4⟩ := h2 i hi hi'; ih h3 H2 fun r hr => ha' r (h4 r hr)⟩
    cases v with
    | lit v =>
      have hv':some (AVal.lit v, []) = some (v', rs) := hv
      simp only[Option.some.injEq, Prod.mk.injEq]at hv'
      obtain⟨rfl, rfl⟩ := hv'
      exact .lit _
    | vec n c =>
      have hv':(bw (fR h f) c).map (fun p => (AVal.vec n p.1, p.2)) = some (v', rs) := hv
      simp only[QJ, Prod.mk.injEq]at hv'
      obtain⟨⟨c', rs'⟩, h1, rfl, rfl⟩ := hv'
      obtain⟨h2, h3⟩ := list h1 ha
      exact .vec h2 h3
    | vptr c o =>
      have hv':(bw (fR h f) c).map (fun p => (AVal.vptr p.1 o, p.2)) = some (v', rs) := hv
      simp only[QJ, Prod.mk.injEq]at hv'
      obtain⟨⟨c', rs'⟩, h1, rfl, rfl⟩ := hv'
      obtain⟨h2, h3⟩ := list h1 ha
      exact .vptr h2 h3
    | agg c =>
      have hv':(bw (fR h f) c).map (fun p => (AVal.agg p.1, p.2)) = some (v', rs) := hv
      simp only[QJ, Prod.mk.injEq]at hv'
      obtain⟨⟨c', rs'⟩, h1, rfl, rfl⟩ := hv'
      obtain⟨h2, h3⟩ := list h1 ha
      exact .agg h2 h3
    | tup c =>
      have hv':(bw (fR h f) c).map (fun p => (AVal.tup p.1, p.2)) = some (v', rs) := hv
      simp only[QJ, Prod.mk.injEq]at hv'
      obtain⟨⟨c', rs'⟩, h1, rfl, rfl⟩ := hv'
      obtain⟨h2, h3⟩ := list h1 ha
      exact .tup h2 h3
    | clo g a b =>
      have hv':(match bw (fR h f) a, bw (fR h f) b with | some p, some q => some (AVal.clo g p.1 q.1, p.2 ++ q.2) | _, _ => none) = some (v', rs) := hv
      split at hv'
      · rename_i p q h1 h2
        simp only[Option.some.injEq, Prod.mk.injEq]at hv'
        obtain⟨rfl, rfl⟩ := hv'
        obtain⟨h3, h4⟩ := list h1 fun r hr => ha r (So _ hr)
        obtain⟨h5, h6⟩ := list h2 fun r hr => ha r (Se _ hr)
        exact .clo h3 h5 h4 h6
      · cases hv'
    | own id g o l z =>
      have hv':(match aN h.hp id with | some (.arr g' _ cells) => if g' = g /\ o + l * z <= cells.length then (bw (fR h f) ((cells.drop o).take (l * z))).map fun p => (AVal.vec l p.1, id :: p.2) else none | _ => none) = some (v', rs) := hv
      split at hv'
      · rename_i g' e cells hg
        split at hv'
        · rename_i hc
          obtain⟨rfl, hle⟩ := hc
          simp only[QJ, Prod.mk.injEq]at hv'
          obtain⟨⟨c', rs'⟩, h1, rfl, rfl⟩ := hv'
          obtain⟨h2, h3⟩ := list h1 fun r hr => ha r (RB _ hr)
          have hlen:((cells.drop o).take (l * z)).length = l * z := by simp; omega
          refine .frz trivial ((ha id (RZ ..)).trans (kX hg)) (h2.trans hlen) fun i hi h2i hi' => ?_
          have := h3 i (by omega) hi'
          simpa using this
        · cases hv'
      · cases hv'
    | ptr id g o =>
      have hv':(match aN h.hp id with | some (.arr g' _ (x :: cells)) => if g' = g then (bw (fR h f) (x :: cells)).map fun p => (AVal.vptr p.1 o, id :: p.2) else none | _ => none) = some (v', rs) := hv
      split at hv'
      · rename_i g' e x cells hg
        split at hv'
        · rename_i hc
          subst hc
          simp only[QJ, Prod.mk.injEq]at hv'
          obtain⟨⟨c', rs'⟩, h1, rfl, rfl⟩ := hv'
          obtain⟨h2, h3⟩ := list h1 fun r hr => ha r (RB _ hr)
          exact .pfrz trivial ((ha id (RZ ..)).trans (kX hg)) (by simp) h2 h3
        · cases hv'
      · cases hv'
    | yld n => cases hv
theorem Kv {f:AVal -> Option AVal}:∀ {l l':List AVal}, jf f l = some l' -> l'.length = l.length /\ ∀ i (_:i < l.length) (_:i < l'.length), f l[i] = some l'[i] := by
  intro l
  induction l with
  | nil =>
    intro l' h
    simp only[jf, Option.some.injEq]at h
    subst h
    exact⟨rfl, fun i h _ => absurd h (Q5 _)⟩
  | cons x l ih =>
    intro l' h
    have h':(match f x, jf f l with | some y, some l => some (y :: l) | _, _ => none) = some l' := h
    split at h'
    · rename_i y l2 h1 h2
      simp only[Option.some.injEq]at h'
      subst h'
      obtain⟨h3, h4⟩ := ih h2
      refine⟨by simp [h3], fun i hi hi' => ?_⟩
      cases i with
      | zero => exact h1
      | succ i => exact h4 i (by simpa using hi) (by simpa using hi')
    · cases h'
theorem AG {h:EH}:∀ (fuel:Nat) {v v':AVal}, mn h fuel v = some v' -> Fresh (ak h) v v' := by
  intro fuel
  induction fuel with
  | zero => intro v v' h; cases h
  | succ f ih =>
    intro v v' hv
    have list:∀ {l l':List AVal}, jf (mn h f) l = some l' -> l'.length = l.length /\ ∀ i (_:i < l.length) (_:i < l'.length), Fresh (ak h) l[i] l'[i] := fun hm => by
      obtain⟨h1, h2⟩ := Kv hm
      exact⟨h1, fun i hi hi' => ih (h2 i hi hi')⟩
    cases v with
    | lit v =>
      have hv':some (AVal.lit v) = some v' := hv
      cases hv'
      exact .lit _
    | agg c =>
      have hv':(jf (mn h f) c).map AVal.agg = some v' := hv
      simp only[QJ]at hv'
      obtain⟨c', h1, rfl⟩ := hv'
      obtain⟨h2, h3⟩ := list h1
      exact .agg h2 h3
    | tup c =>
      have hv':(jf (mn h f) c).map AVal.tup = some v' := hv
      simp only[QJ]at hv'
      obtain⟨c', h1, rfl⟩ := hv'
      obtain⟨h2, h3⟩ := list h1
      exact .tup h2 h3
    | own id g o l z =>
      have hv':(match aN h.hp id with | some (.arr g' _ cells) => if g' = g /\ o + l * z <= cells.length then (jf (mn h f) ((cells.drop o).take (l * z))).map (AVal.vec l) else none | _ => none) = some v' := hv
      split at hv'
      · rename_i g' e cells hg
        split at hv'
        · rename_i hc
          obtain⟨rfl, hle⟩ := hc
          simp only[QJ]at hv'
          obtain⟨c', h1, rfl⟩ := hv'
          obtain⟨h2, h3⟩ := list h1
          have hlen:((cells.drop o).take (l * z)).length = l * z := by simp; omega
          refine .own (kX hg) (h2.trans hlen) fun i hi h2i hi' => ?_
          have := h3 i (by omega) hi'
          simpa using this
        · cases hv'
      · cases hv'
    | _ => cases hv
theorem gQ {f:AVal -> AVal -> Bool}(hf:∀ x y, f x y = true -> x = y):∀ {a b:List AVal}, eS f a b = true -> a = b := by
  intro a
  induction a with
  | nil => intro b h; cases b with
    | nil => rfl
    | cons => cases h
  | cons x l ih =>
    intro b h
    cases b with
    | nil => cases h
    | cons y b =>
      have h':(match f x y with | true => eS f l b | false => false) = true := h
      split at h'
      · rename_i hxy
        rw[hf _ _ hxy, ih h']
      · cases h'
theorem AH:∀ (fuel:Nat) (a b:AVal), nJ fuel a b = true -> a = b := by
  intro fuel
  induction fuel with
  | zero => intro a b h; cases h
  | succ f ih =>
    intro a b h
    have h':vA (nJ f) a b = true := h
    unfold vA at h'
    split at h'
    · simp only[Q7, decide_eq_true_eq, sR]at h'
      rw[h'.1, h'.2]
    · simp only[beq_iff_eq]at h'; rw[h']
    · rfl
    · simp only[Q7]at h'
      rw[QZ h'.1, gQ ih h'.2]
    · simp only[Q7]at h'
      rw[QZ h'.1, gQ ih h'.2]
    · rw[gQ ih h']
    · rw[gQ ih h']
    · simp only[Q7]at h'
      rw[QZ h'.1, gQ ih h'.2.1, gQ ih h'.2.2]
    · cases h'
theorem AI {args:List AVal}{v:AVal}:∀ {l:List (List AVal × AVal)}, rP args l = some v -> (args, v) ∈ l := by
  intro l
  induction l with
  | nil => intro h; cases h
  | cons p l ih =>
    intro h
    have h':Bool.casesOn (motive := fun _ => Option AVal) (eS (nJ 40) p.1 args) (rP args l) (some p.2) = some v := h
    cases he:eS (nJ 40) p.1 args with
    | true =>
      rw[he]at h'
      have := gQ (AH 40) he
      have h2:p.2 = v := Option.some.inj h'
      rw[<- this, <- h2]
      exact RZ ..
    | false =>
      rw[he]at h'
      exact RB _ (ih h')
theorem Kw {k:BT AVal -> R}{r:RR}:∀ {l:List AVal} {i:Nat} {t:BT AVal}, rM k l i t = some r -> ∃ t', k t' = some r /\ ∀ m, dH t' m = if i <= m /\ m < i + l.length then l[m - i]? else dH t m := by
  intro l
  induction l with
  | nil => intro i t h; exact⟨t, h, fun m => by rw[QQ (by simp only[List.length_nil]; omega)]⟩
  | cons x l ih =>
    intro i t h
    have h':(kP t i x fun t => cJ (Nat.succ i) fun i => rM k l i t) = some r := h
    obtain⟨t1, h1, h2⟩ := vY _ _ _ _ _ h'
    rw[fS]at h1
    obtain⟨t', h3, h4⟩ := ih h1
    refine⟨t', h3, fun m => ?_⟩
    rw[h4, h2]
    simp only[List.length_cons, Nat.succ_eq_add_one]
    by_cases hm:m = i
    · subst hm
      rw[QQ (by omega), QN rfl, QN (by omega)]
      simp
    · rw[QQ hm]
      by_cases hm2:i + 1 <= m /\ m < i + 1 + l.length
      · rw[QN hm2, QN (by omega)]
        have:m - i = (m - (i + 1)) + 1 := by omega
        rw[this, List.getElem?_cons_succ]
      · rw[QQ hm2, QQ (by omega)]
theorem Kx {k:BT AVal -> R}{r:RR}{l:List AVal}(h:rM k l 0 .nil = some r):∃ t, k t = some r /\ aw t = fA l := by
  obtain⟨t, h1, h2⟩ := Kw h
  refine⟨t, h1, funext fun m => ?_⟩
  rw[sN, h2]
  unfold fA
  split
  · rfl
  · rename_i hm
    rw[QR (by omega), sM]
theorem Ky {k:BT AVal -> R}{r:RR}:∀ {ps:List Tmp} {vs:List AVal} {e:BT AVal}, rQ k ps vs e = some r -> ∃ e', k e' = some r /\ vs.length = ps.length /\ aw e' = kM (aw e) (ps.zip vs) := by
  intro ps
  induction ps with
  | nil =>
    intro vs e h
    cases vs with
    | nil => exact⟨e, h, rfl, rfl⟩
    | cons => cases h
  | cons p ps ih =>
    intro vs e h
    cases vs with
    | nil => cases h
    | cons v vs =>
      have h':(kP e p v fun e => rQ k ps vs e) = some r := h
      obtain⟨t1, h1, h2⟩ := vY _ _ _ _ _ h'
      obtain⟨e', h3, h4, h5⟩ := ih h1
      refine⟨e', h3, by simp [h4], ?_⟩
      rw[h5, Au h2]
      rfl
theorem Kz {n:Nat}:∀ (t:BT AVal) (a b:Nat), okB t a b n = true -> ∀ j v, dH t j = some v -> a * j + b < n := by
  intro t
  induction t with
  | nil => intro a b _ j v h; cases h
  | node v l r ihl ihr =>
    intro a b h j u hj
    have h':(z8 v b n && (okB l (2 * a) (a + b) n && okB r (2 * a) (2 * a + b) n)) = true := h
    simp only[Q7]at h'
    obtain⟨h1, h2, h3⟩ := h'
    cases j with
    | zero =>
      rw[JW]at hj
      rw[hj]at h1
      have h4:b < n := by rw[<- TE]; exact h1
      omega
    | succ m =>
      rw[jj]at hj
      split at hj
      · rename_i hm
        have := ihl _ _ h2 _ _ hj
        have h4:m = 2 * (m / 2) := by omega
        generalize m / 2 = q at this h4
        subst h4
        have h5:a * (2 * q + 1) = 2 * a * q + a := by rw[TN, Nat.mul_one, <- Rx, Sd a 2]
        omega
      · rename_i hm
        have := ihr _ _ h3 _ _ hj
        have h4:m = 2 * (m / 2) + 1 := by omega
        generalize m / 2 = q at this h4
        subst h4
        have h5:a * (2 * q + 1 + 1) = 2 * a * q + 2 * a := by rw[show 2 * q + 1 + 1 = 2 * q + 2 from rfl, TN, <- Rx, Sd a 2]
        omega
theorem KA {env:BT AVal}{n:Nat}(h:okB env 1 0 n = true):dz (aw env) n = aw env := by
  funext t
  unfold dz
  split
  · rfl
  · rename_i ht
    rw[sN]
    cases hg:dH env t with
    | none => rfl
    | some v =>
      have := Kz env 1 0 h t v hg
      omega
end Go.Hx
namespace Go.Hx
theorem jk {l:List Nat}{n:Nat}:dR l n = true ↔ n ∈ l := by
  induction l with
  | nil => exact⟨fun h => absurd (show false = true from h) (by decide), fun h => absurd h (List.not_mem_nil)⟩
  | cons x l ih =>
    have h':dR (x :: l) n = Bool.rec (motive := fun _ => Bool) (dR l n) true (Nat.beq x n) := rfl
    rw[h', List.mem_cons]
    cases hb:Nat.beq x n with
    | true => exact⟨fun _ => .inl (QZ hb).symm, fun _ => rfl⟩
    | false =>
      refine⟨fun h => .inr (ih.1 h), ?_⟩
      rintro(rfl | h)
      · rw[Sx]at hb; cases hb
      · exact ih.2 h
theorem AS {l:List Nat}{n:Nat}(h:dR l n = false):n ∉ l := fun hm => by rw[jk.2 hm]at h; cases h
theorem KX {f:Nat -> Bool}{l:List Nat}(h:vB f l = true):∀ n, n ∈ l -> f n = true := by
  induction l with
  | nil => intro n hn; cases hn
  | cons x l ih =>
    have h':Bool.rec (motive := fun _ => Bool) false (vB f l) (f x) = true := h
    cases hx:f x with
    | false => rw[hx]at h'; cases h'
    | true =>
      rw[hx]at h'
      intro n hn
      rcases List.mem_cons.1 hn with rfl | hn
      · exact hx
      · exact ih h' n hn
def gR (lo:Nat)(kp acc:List Nat):Nat -> Prop := fun j => (j < lo /\ j ∈ kp) \/ (¬ j < lo /\ j ∈ acc)
def nY (h:EH)(lo:Nat)(kp acc:List Nat)(id:Nat):Prop := ¬ id < lo /\ ∃ g e c, aN h.hp id = some (.arr g e c) /\ ∀ i (h:i < c.length), Ev.Cln (gR lo kp acc) c[i]
def fF (h:EH)(lo:Nat)(kp acc acc':List Nat):Prop := (∀ id, id ∈ acc -> id ∈ acc') /\ ∀ id, id ∈ acc' -> id ∈ acc \/ nY h lo kp acc' id
theorem gR.mono {lo:Nat}{kp acc acc':List Nat}(hs:∀ id, id ∈ acc -> id ∈ acc')(id:Nat)(h:gR lo kp acc id):gR lo kp acc' id := by
  rcases h with h | h
  · exact .inl h
  · exact .inr ⟨h.1, hs _ h.2⟩
theorem nY.mono {h:EH}{lo:Nat}{kp acc acc':List Nat}(hs:∀ id, id ∈ acc -> id ∈ acc'){id:Nat}(hg:nY h lo kp acc id):nY h lo kp acc' id := by
  obtain⟨h1, g, e, c, h2, h3⟩ := hg
  exact⟨h1, g, e, c, h2, fun i hi => (h3 i hi).mono (gR.mono hs)⟩
theorem fF.refl (h:EH)(lo:Nat)(kp acc:List Nat):fF h lo kp acc acc := ⟨fun _ h => h, fun _ h => .inl h⟩
theorem fF.trans {h:EH}{lo:Nat}{kp a b c:List Nat}(h1:fF h lo kp a b)(h2:fF h lo kp b c):fF h lo kp a c := by
  refine⟨fun id hid => h2.1 id (h1.1 id hid), fun id hid => ?_⟩
  rcases h2.2 id hid with h3 | h3
  · rcases h1.2 id h3 with h4 | h4
    · exact .inl h4
    · exact .inr (h4.mono h2.1)
  · exact .inr h3
theorem pU {h : EH} {lo : Nat} {kp : List Nat} {f : KF} (hf : ∀ v acc acc', f v acc = some acc' → fF h lo kp acc acc' ∧ Ev.Cln (gR lo kp acc') v) :
    ∀ {l:List AVal} {acc acc':List Nat}, iN f l acc = some acc' -> fF h lo kp acc acc' /\ ∀ i (h:i < l.length), Ev.Cln (gR lo kp acc') l[i] := by
  intro l
  induction l with
  | nil =>
    intro acc acc' hk
    have:some acc = some acc' := hk
    cases this
    exact⟨.refl _ _ _ _, fun i h => absurd h (Q5 _)⟩
  | cons x l ih =>
    intro acc acc' hk
    have h':(match f x acc with | some acc => iN f l acc | none => none) = some acc' := hk
    split at h'
    · rename_i a1 h1
      obtain⟨h2, h3⟩ := hf _ _ _ h1
      obtain⟨h4, h5⟩ := ih h'
      refine⟨h2.trans h4, fun i hi => ?_⟩
      cases i with
      | zero => exact h3.mono (gR.mono h4.1)
      | succ i => exact h5 i (by simpa using hi)
    · cases h'
theorem AT {h : EH} {lo : Nat} {kp : List Nat} {f : KF} (hf : ∀ v acc acc', f v acc = some acc' → fF h lo kp acc acc' ∧ Ev.Cln (gR lo kp acc') v)
    {id:Nat} {acc acc':List Nat} (hk:nK h lo kp f id acc = some acc'):fF h lo kp acc acc' /\ gR lo kp acc' id := by
  unfold nK at hk
  split at hk
  · rename_i hlt
    rw[TE]at hlt
    split at hk
    · rename_i hm
      cases hk
      exact⟨.refl _ _ _ _, .inl ⟨hlt, jk.1 hm⟩⟩
    · cases hk
  · rename_i hlt
    have hlt':¬ id < lo := fun h => by rw[<- TE]at h; rw[h]at hlt; cases hlt
    split at hk
    · rename_i hm
      cases hk
      exact⟨.refl _ _ _ _, .inr ⟨hlt', jk.1 hm⟩⟩
    · split at hk
      · rename_i g e cells hg
        obtain⟨⟨h1, h2⟩, h3⟩ := pU hf hk
        have hin:id ∈ acc' := h1 id (RZ ..)
        refine⟨⟨fun j hj => h1 j (RB _ hj), fun j hj => ?_⟩, .inr ⟨hlt', hin⟩⟩
        rcases h2 j hj with h4 | h4
        · rcases List.mem_cons.1 h4 with rfl | h4
          · exact .inr ⟨hlt', g, e, cells, hg, h3⟩
          · exact .inl h4
        · exact .inr h4
      · cases hk
theorem AU {h:EH}{lo:Nat}{kp:List Nat}:∀ (fuel:Nat) (v:AVal) (acc acc':List Nat), jg h lo kp fuel v acc = some acc' -> fF h lo kp acc acc' /\ Ev.Cln (gR lo kp acc') v := by
  intro fuel
  induction fuel with
  | zero => intro v acc acc' h; cases h
  | succ n ih =>
    intro v acc acc' hk
    cases v with
    | lit v =>
      have:some acc = some acc' := hk
      cases this
      exact⟨.refl _ _ _ _, .lit _⟩
    | vec m c =>
      have hk':(match AVal.vec m c with | .vec 0 [] => some acc | _ => none) = some acc' := by
        cases m <;> cases c <;> exact hk
      split at hk'
      · rename_i he
        cases he
        cases hk'
        exact⟨.refl _ _ _ _, .nil⟩
      · cases hk'
    | agg c =>
      obtain⟨h1, h2⟩ := pU ih (show iN (jg h lo kp n) c acc = some acc' from hk)
      exact⟨h1, .agg h2⟩
    | tup c =>
      obtain⟨h1, h2⟩ := pU ih (show iN (jg h lo kp n) c acc = some acc' from hk)
      exact⟨h1, .tup h2⟩
    | clo f a b =>
      have hk':(match iN (jg h lo kp n) a acc with | some acc => iN (jg h lo kp n) b acc | none => none) = some acc' := hk
      split at hk'
      · rename_i a1 h1
        obtain⟨h2, h3⟩ := pU ih h1
        obtain⟨h4, h5⟩ := pU ih hk'
        exact⟨h2.trans h4, .clo (fun i hi => (h3 i hi).mono (gR.mono h4.1)) h5⟩
      · cases hk'
    | own id g o l z =>
      obtain⟨h1, h2⟩ := AT ih (show nK h lo kp (jg h lo kp n) id acc = some acc' from hk)
      exact⟨h1, .own h2⟩
    | ptr id g o =>
      obtain⟨h1, h2⟩ := AT ih (show nK h lo kp (jg h lo kp n) id acc = some acc' from hk)
      exact⟨h1, .ptr h2⟩
    | vptr => cases hk
    | yld => cases hk
theorem kZ {h : EH} {f : CF} (hf : ∀ v acc k r, f v acc k = some r → ∃ acc', k acc' = some r ∧ fF h 0 [] acc acc') :
    ∀ {l:List AVal} {acc:List Nat} {k:List Nat -> R} {r:RR}, jh f l acc k = some r -> ∃ acc', k acc' = some r /\ fF h 0 [] acc acc' := by
  intro l
  induction l with
  | nil => intro acc k r hr; exact⟨acc, hr, .refl _ _ _ _⟩
  | cons x l ih =>
    intro acc k r hr
    have h':(f x acc fun acc => jh f l acc k) = some r := hr
    obtain⟨a1, h1, h2⟩ := hf _ _ _ _ h'
    obtain⟨a2, h3, h4⟩ := ih h1
    exact⟨a2, h3, h2.trans h4⟩
theorem KY {h:EH}:∀ (fuel:Nat) (v:AVal) (acc:List Nat) (k:List Nat -> R) (r:RR), rK h fuel v acc k = some r -> ∃ acc', k acc' = some r /\ fF h 0 [] acc acc' := by
  intro fuel
  induction fuel with
  | zero => intro v acc k r hr; exact⟨acc, hr, .refl _ _ _ _⟩
  | succ n ih =>
    intro v acc k r hr
    have h':(match jg h 0 [] 40 v acc with | some acc => k acc | none => vC h (rK h n) v acc k) = some r := hr
    split at h'
    · rename_i a1 h1
      exact⟨a1, h', (AU 40 v acc a1 h1).1⟩
    · have blk : ∀ b, rJ (rK h n) acc k b = some r → ∃ acc', k acc' = some r ∧ fF h 0 [] acc acc' := by
        intro b hb
        unfold rJ at hb
        split at hb
        · exact kZ ih hb
        · exact⟨acc, hb, .refl _ _ _ _⟩
      unfold vC at h'
      split at h'
      · exact kZ ih h'
      · exact kZ ih h'
      · exact kZ ih h'
      · exact kZ ih h'
      · obtain⟨a1, h1, h2⟩ := kZ ih h'
        obtain⟨a2, h3, h4⟩ := kZ ih h1
        exact⟨a2, h3, h2.trans h4⟩
      · exact blk _ h'
      · exact blk _ h'
      · exact⟨acc, h', .refl _ _ _ _⟩
theorem KZ {h:EH}{kp:List Nat}(hkp:∀ id, id ∈ kp -> id < h.nx):∀ (fuel:Nat) {v v':AVal} {rs:List Nat}, iP h kp fuel v = some (v', rs) -> ∀ H2:AHeap, (∀ r, r ∈ rs -> H2.get r = (ak h).get r) -> Fz (fun id => ¬ id ∈ kp) H2 h.nx v v' := by
  intro fuel
  induction fuel with
  | zero => intro v v' rs h; cases h
  | succ f ih =>
    intro v v' rs hv H2 ha
    have list : ∀ {l l' : List AVal} {rs' : List Nat}, bw (iP h kp f) l = some (l', rs') → (∀ r, r ∈ rs' → H2.get r = (ak h).get r) →
        l'.length = l.length /\ ∀ i (_:i < l.length) (_:i < l'.length), Fz (fun id => ¬ id ∈ kp) H2 h.nx l[i] l'[i] := fun hm ha' => by
      obtain⟨h1, h2⟩ := mv hm
      exact⟨h1, fun i hi hi' => let ⟨ri, h3, h4⟩ := h2 i hi hi'; ih h3 H2 fun r hr => ha' r (h4 r hr)⟩
    cases v with
    | lit v =>
      have hv':some (AVal.lit v, []) = some (v', rs) := hv
      simp only[Option.some.injEq, Prod.mk.injEq]at hv'
      obtain⟨rfl, rfl⟩ := hv'
      exact .lit _
    | vec n c =>
      have hv':(bw (iP h kp f) c).map (fun p => (AVal.vec n p.1, p.2)) = some (v', rs) := hv
      simp only[QJ, Prod.mk.injEq]at hv'
      obtain⟨⟨c', rs'⟩, h1, rfl, rfl⟩ := hv'
      obtain⟨h2, h3⟩ := list h1 ha
      exact .vec h2 h3
    | vptr c o =>
      have hv':(bw (iP h kp f) c).map (fun p => (AVal.vptr p.1 o, p.2)) = some (v', rs) := hv
      simp only[QJ, Prod.mk.injEq]at hv'
      obtain⟨⟨c', rs'⟩, h1, rfl, rfl⟩ := hv'
      obtain⟨h2, h3⟩ := list h1 ha
      exact .vptr h2 h3
    | agg c =>
      have hv':(bw (iP h kp f) c).map (fun p => (AVal.agg p.1, p.2)) = some (v', rs) := hv
      simp only[QJ, Prod.mk.injEq]at hv'
      obtain⟨⟨c', rs'⟩, h1, rfl, rfl⟩ := hv'
      obtain⟨h2, h3⟩ := list h1 ha
      exact .agg h2 h3
    | tup c =>
      have hv':(bw (iP h kp f) c).map (fun p => (AVal.tup p.1, p.2)) = some (v', rs) := hv
      simp only[QJ, Prod.mk.injEq]at hv'
      obtain⟨⟨c', rs'⟩, h1, rfl, rfl⟩ := hv'
      obtain⟨h2, h3⟩ := list h1 ha
      exact .tup h2 h3
    | clo g a b =>
      have hv':(match bw (iP h kp f) a, bw (iP h kp f) b with | some p, some q => some (AVal.clo g p.1 q.1, p.2 ++ q.2) | _, _ => none) = some (v', rs) := hv
      split at hv'
      · rename_i p q h1 h2
        simp only[Option.some.injEq, Prod.mk.injEq]at hv'
        obtain⟨rfl, rfl⟩ := hv'
        obtain⟨h3, h4⟩ := list h1 fun r hr => ha r (So _ hr)
        obtain⟨h5, h6⟩ := list h2 fun r hr => ha r (Se _ hr)
        exact .clo h3 h5 h4 h6
      · cases hv'
    | own id g o l z =>
      have hv':(match dR kp id with
        | true => some (AVal.own id g o l z, [])
        | false => match aN h.hp id with | some (.arr g' _ cells) => if g' = g /\ o + l * z <= cells.length then (bw (iP h kp f) ((cells.drop o).take (l * z))).map fun p => (AVal.vec l p.1, id :: p.2) else none | _ => none) = some (v', rs) := hv
      split at hv'
      · rename_i hm
        simp only[Option.some.injEq, Prod.mk.injEq]at hv'
        obtain⟨rfl, rfl⟩ := hv'
        exact .own (hkp _ (jk.1 hm)) fun h => h (jk.1 hm)
      · rename_i hm
        split at hv'
        · rename_i g' e cells hg
          split at hv'
          · rename_i hc
            obtain⟨rfl, hle⟩ := hc
            simp only[QJ, Prod.mk.injEq]at hv'
            obtain⟨⟨c', rs'⟩, h1, rfl, rfl⟩ := hv'
            obtain⟨h2, h3⟩ := list h1 fun r hr => ha r (RB _ hr)
            have hlen:((cells.drop o).take (l * z)).length = l * z := by simp; omega
            refine .frz (AS hm) ((ha id (RZ ..)).trans (kX hg)) (h2.trans hlen) fun i hi h2i hi' => ?_
            have := h3 i (by omega) hi'
            simpa using this
          · cases hv'
        · cases hv'
    | ptr id g o =>
      have hv':(match dR kp id with
        | true => some (AVal.ptr id g o, [])
        | false => match aN h.hp id with | some (.arr g' _ (x :: cells)) => if g' = g then (bw (iP h kp f) (x :: cells)).map fun p => (AVal.vptr p.1 o, id :: p.2) else none | _ => none) = some (v', rs) := hv
      split at hv'
      · rename_i hm
        simp only[Option.some.injEq, Prod.mk.injEq]at hv'
        obtain⟨rfl, rfl⟩ := hv'
        exact .ptr (hkp _ (jk.1 hm)) fun h => h (jk.1 hm)
      · rename_i hm
        split at hv'
        · rename_i g' e x cells hg
          split at hv'
          · rename_i hc
            subst hc
            simp only[QJ, Prod.mk.injEq]at hv'
            obtain⟨⟨c', rs'⟩, h1, rfl, rfl⟩ := hv'
            obtain⟨h2, h3⟩ := list h1 fun r hr => ha r (RB _ hr)
            exact .pfrz (AS hm) ((ha id (RZ ..)).trans (kX hg)) (by simp) h2 h3
          · cases hv'
        · cases hv'
    | yld n => cases hv
theorem K0 {h:EH}{k:BT EBlk -> R}{r:RR}:∀ {l:List Nat} {t:BT EBlk}, vD h l k t = some r -> ∃ t', k t' = some r /\ ∀ m, aN t' m = if m ∈ l then aN h.hp m else aN t m := by
  intro l
  induction l with
  | nil => intro t hr; exact⟨t, hr, fun m => by rw[QQ (by simp)]⟩
  | cons x l ih =>
    intro t hr
    have h':(match aN h.hp x with | some b => fh t x b (vD h l k) | none => none) = some r := hr
    split at h'
    · rename_i b hb
      obtain⟨t1, h1, h2⟩ := kV _ _ _ _ _ h'
      obtain⟨t', h3, h4⟩ := ih h1
      refine⟨t', h3, fun m => ?_⟩
      rw[h4, h2]
      by_cases hm:m ∈ l
      · rw[QN hm, QN (RB _ hm)]
      · rw[QQ hm]
        by_cases hx:m = x
        · subst hx; rw[QN rfl, QN (RZ ..), hb]
        · rw[QQ hx, QQ (by simp [hx, hm])]
    · cases h'
theorem K2 {a b:Value}(h:vE a b = true):a = b := by
  unfold vE at h
  split at h
  · simp only[Q7, decide_eq_true_eq, sR]at h
    rw[h.1, h.2]
  · simp only[beq_iff_eq]at h; rw[h]
  · rfl
  · rfl
  · cases h
theorem K3:∀ (fuel:Nat) (a b:AVal), vG fuel a b = true -> a = b := by
  intro fuel
  induction fuel with
  | zero => intro a b h; cases h
  | succ f ih =>
    intro a b h
    have h':vF (vG f) a b = true := h
    unfold vF at h'
    split at h'
    · rw[K2 h']
    · simp only[Q7]at h'
      rw[QZ h'.1, gQ ih h'.2]
    · rw[gQ ih h']
    · rw[gQ ih h']
    · simp only[Q7]at h'
      rw[QZ h'.1, gQ ih h'.2.1, gQ ih h'.2.2]
    · simp only[Q7]at h'
      rw[QZ h'.1, QZ h'.2.1, QZ h'.2.2.1, QZ h'.2.2.2.1, QZ h'.2.2.2.2]
    · simp only[Q7]at h'
      rw[QZ h'.1, QZ h'.2.1, QZ h'.2.2]
    · cases h'
theorem K4 {a b:Option EBlk}(h:vI a b = true):a = b := by
  unfold vI at h
  split at h
  · simp only[Q7]at h
    rw[QZ h.1, QZ h.2.1, gQ (K3 40) h.2.2]
  · cases h
theorem K5 {h' : EH} {lv : List Nat} {lo : Nat} : ∀ {n : Nat} {t : BT EBlk} {k : BT EBlk → R} {r : RR}, rL h' lv lo n t k = some r →
    ∃ t', k t' = some r /\ ∀ m, aN t' m = if lo <= m /\ m < lo + n then (if dR lv m = true then aN h'.hp m else some (.arr 0 0 [])) else aN t m := by
  intro n
  induction n with
  | zero => intro t k r hr; exact⟨t, hr, fun m => by rw[QQ (by omega)]⟩
  | succ n ih =>
    intro t k r hr
    have h1:cJ (Nat.add lo n) (vJ h' lv t fun t => rL h' lv lo n t k) = some r := hr
    rw[fS]at h1
    have key : ∀ b, (if dR lv (lo + n) = true then aN h'.hp (lo + n) else some (.arr 0 0 [])) = some b → fh t (lo + n) b (fun t => rL h' lv lo n t k) = some r →
        ∃ t', k t' = some r /\ ∀ m, aN t' m = if lo <= m /\ m < lo + (n + 1) then (if dR lv m = true then aN h'.hp m else some (.arr 0 0 [])) else aN t m := by
      intro b hb hs
      obtain⟨t1, h2, h3⟩ := kV _ _ _ _ _ hs
      obtain⟨t', h4, h5⟩ := ih h2
      refine⟨t', h4, fun m => ?_⟩
      rw[h5, h3]
      by_cases hm:m = lo + n
      · subst hm
        rw[QQ (by omega), QN rfl, QN (by omega), hb]
      · rw[QQ hm]
        by_cases hm2:lo <= m /\ m < lo + n
        · rw[QN hm2, QN (⟨hm2.1, by omega⟩:lo <= m /\ m < lo + (n + 1))]
        · rw[QQ hm2, QQ (fun hc:lo <= m /\ m < lo + (n + 1) => hm2 ⟨hc.1, by omega⟩)]
    unfold vJ at h1
    split at h1
    · rename_i hm
      split at h1
      · rename_i b hb
        exact key b ((QN (show dR lv (lo + n) = true from hm)).trans hb) h1
      · cases h1
    · rename_i hm
      exact key _ (QQ (fun hc => by rw[show dR lv (lo + n) = false from hm]at hc; cases hc)) h1
end Go.Hx
namespace Go.Hx
def KB (z:GD):Option AVal -> AVal
  | some u => .tup [u, .lit (.int .i64 0)]
  | none => .tup [z.z, .lit (.int .i64 6)]
def AJ (P:Program)(G:Nat -> Option (List AVal))(f:FuncId)(z:GD):Prop := ∀ g cap cap' (H:AHeap) o, cap'.length = cap.length ->
  (∀ H2:AHeap, (∀ id, id < H.next -> H2.get id = H.get id) -> ∀ i (h:i < cap.length) (h':i < cap'.length), Fz (fun _ => True) H2 0 cap[i] cap'[i]) ->
  (∀ u, o = some u -> z.ok u = true) -> ah P G g cap' bT (pc o) -> ah P G f [.clo g [] cap] H fun r H' => r = .ret (KB z o) /\ H' = H
def pS (E:EP):Prop := ∀ f e, E.ext f = some e -> ∀ args r, e args = some r -> ∀ (H:AHeap) (K:ARes -> AHeap -> Prop), K (.ret r) H -> aG E.P E.G (.clo f [] []) args H K
theorem pS.none {E:EP}(h:E.ext = fun _ => .none):pS E := fun f e he => by rw[h]at he; cases he
structure EOk (E:EP):Prop where
  gok:el E.G
  mixed:E.P.follows .mixedOrders = true
  known:∀ f l, E.known f = some l -> ∀ a v, (a, v) ∈ l -> ah E.P E.G f a bT fun r H' => ∃ u, r = .ret u /\ Fresh H' u v
  gd:∀ f z, E.gd f = some z -> AJ E.P E.G f z
  ext:pS E
def we:RR -> ARes -> EH -> Prop
  | .ret v h, x, h' => x = .ret v /\ h' = h
  | .panic h, x, h' => x = .panic /\ h' = h
  | _, _, _ => False
def fE (E:EP)(ih:iQ):Prop := ∀ rd n c env h r, ih rd n c env h = some r -> VH h -> fits n c = true ->
  ∃ x env' h', r = .ev x env' h' /\ VH h' /\ ∀ Q:AX -> St -> Prop, Q x ⟨aw env', ak h'⟩ -> W E.P E.G n rd c Q ⟨aw env, ak h⟩
theorem W.here {P:Program}{G:Nat -> Option (List AVal)}{n:Nat}{rd:Option Nat}{c:Code}{Q:AX -> St -> Prop}{s s':St}{x:AX}(h:∀ Q:AX -> St -> Prop, Q x s' -> W P G n rd c Q s)(hq:Q x s'):W P G n rd c Q s :=
  (h (fun y t => y = x /\ t = s') ⟨rfl, rfl⟩).mono fun y t ht => by rw[ht.1, ht.2]; exact hq
def wg (E:EP)(f:FuncId)(args:List AVal)(h:EH)(r:RR):Prop :=
  ∃ x h', we r x h' /\ VH h' /\ ∀ K:ARes -> AHeap -> Prop, K x (ak h') -> ah E.P E.G f args (ak h) K
def wh (E:EP)(fv:AVal)(args:List AVal)(h:EH)(r:RR):Prop :=
  ∃ x h', we r x h' /\ VH h' /\ ∀ K:ARes -> AHeap -> Prop, K x (ak h') -> aG E.P E.G fv args (ak h) K
section
variable {E:EP} {ih:iQ}
theorem fk {b:Bool}{x:R}{r:RR}(h:Bool.rec (motive := fun _ => R) none x b = some r):b = true /\ x = some r := by
  cases b with
  | false => cases h
  | true => exact⟨rfl, h⟩
theorem wo:VH ⟨.nil, 0⟩ := fun _ _ h => by cases h
theorem kY (hI:fE E ih){f:FuncId}{args:List AVal}{h:EH}{r:RR}(hv:VH h)(hr:kR E ih f args h = some r):wg E f args h r := by
  unfold kR at hr
  cases hf:E.P.funcs[f]? with
  | none => rw[hf]at hr; cases hr
  | some fn =>
    rw[hf]at hr
    have hr1:Option.rec (motive := fun _ => R) none (fun c => rO E ih fn c args h) fn.body = some r := hr
    cases hb:fn.body with
    | none => rw[hb]at hr1; cases hr1
    | some c =>
      rw[hb]at hr1
      have hr2:rO E ih fn c args h = some r := hr1
      unfold rO at hr2
      obtain⟨hok, hr3⟩ := fk hr2
      obtain⟨hle, hr4⟩ := fk hr3
      have hle := Sk hle
      unfold zX at hok
      simp only[Q7, S1]at hok
      obtain⟨env, hr5, henv⟩ := Kx hr4
      have body:∀ K:ARes -> AHeap -> Prop, W E.P E.G fn.ntmps none c (pq E.P E.G fn.results.toList (ak h) K) ⟨fA args, ak h⟩ -> ah E.P E.G f args (ak h) K := fun K hW => ah.dP hf hb rfl rfl hok.2 hle hW
      unfold zW at hr5
      have ret:∀ env' h' vs, dF E.P (ak h') (aw env') fn.results.toList = some vs -> rN h.nx (fP vs) h' = some r -> VH h' -> (∀ Q:AX -> St -> Prop, (Q .normal ⟨aw env', ak h'⟩ /\ Q .ret ⟨aw env', ak h'⟩) -> W E.P E.G fn.ntmps none c Q ⟨aw env, ak h⟩) -> wg E f args h r := by
        intro env' h' vs hvs he hv' hW
        unfold rN at he
        obtain⟨hnx, he2⟩ := fk he
        rw[nT]at he2
        have he3:r = .ret (fP vs) h' := (Option.some.inj he2).symm
        subst he3
        refine⟨.ret (fP vs), h', ⟨rfl, rfl⟩, hv', fun K hK => body K ?_⟩
        rw[<- henv]
        have hfin:aP (dF E.P (ak h') (aw env') fn.results.toList) fun vs => az E.P E.G (ak h) K (fP vs) (ak h') := ⟨vs, hvs, az.mk (Sk hnx) hK⟩
        exact hW _ ⟨hfin, hfin⟩
      split at hr5
      · rename_i env' h' hi
        obtain⟨x, e2, h2, h3, h4, h5⟩ := hI _ _ _ _ _ _ hi hv hok.1
        cases h3
        split at hr5
        · rename_i vs hvs; exact ret _ _ _ hvs hr5 h4 fun Q hq => h5 Q hq.1
        · cases hr5
      · rename_i env' h' hi
        obtain⟨x, e2, h2, h3, h4, h5⟩ := hI _ _ _ _ _ _ hi hv hok.1
        cases h3
        split at hr5
        · rename_i vs hvs; exact ret _ _ _ hvs hr5 h4 fun Q hq => h5 Q hq.2
        · cases hr5
      · rename_i env' h' hi
        obtain⟨x, e2, h2, h3, h4, h5⟩ := hI _ _ _ _ _ _ hi hv hok.1
        cases h3
        obtain⟨hnx, he2⟩ := fk hr5
        have he3:r = .panic h' := (Option.some.inj he2).symm
        subst he3
        refine⟨.panic, h', ⟨rfl, rfl⟩, h4, fun K hK => body K ?_⟩
        rw[<- henv]
        exact h5 _ ⟨ak h', kG.refl _ _, Sk hnx, hK⟩
      · cases hr5
theorem KC (hI:fE E ih){f:FuncId}{args:List AVal}{v:AVal}(hr:vK E ih f args = some v):ah E.P E.G f args bT fun r H' => ∃ u, r = .ret u /\ Fresh H' u v := by
  unfold vK at hr
  split at hr
  · rename_i u h' hc
    obtain⟨x, h2, hcr, hv2, hK⟩ := kY hI wo hc
    obtain⟨rfl, rfl⟩ := hcr
    exact hK _ ⟨u, rfl, AG _ hr⟩
  · cases hr
theorem AK (hI:fE E ih){f:FuncId}{args:List AVal}{o:Option AVal}(hr:vL E ih f args = some o):ah E.P E.G f args bT (pc o) := by
  unfold vL at hr
  split at hr
  · rename_i u h' hc
    obtain⟨x, h2, hcr, _, hK⟩ := kY hI wo hc
    obtain⟨rfl, rfl⟩ := hcr
    split at hr
    · rename_i w hw
      cases hr
      exact hK (pc (some w)) ⟨u, rfl, AG _ hw⟩
    · cases hr
  · rename_i h' hc
    obtain⟨x, h2, hcr, _, hK⟩ := kY hI wo hc
    obtain⟨rfl, rfl⟩ := hcr
    cases hr
    exact hK (pc none) rfl
  · cases hr
theorem AL (hE : EOk E) {f : FuncId} {args args' : List AVal} {rs : List Nat} {v : AVal} {h : EH} (hm : bw (fR h 40) args = some (args', rs)) (hc : ah E.P E.G f args' bT fun r H' => ∃ u, r = .ret u ∧ Fresh H' u v)
    (H2:AHeap) (ha:∀ r, r ∈ rs -> H2.get r = (ak h).get r):ah E.P E.G f args H2 fun r H' => r = .ret v /\ H' = H2 := by
  obtain⟨h1, h2⟩ := mv hm
  exact ah.frame hE.gok h1 (fun i hi hi' => let ⟨ri, h3, h4⟩ := h2 i hi hi'; AF 40 h3 H2 fun r hr => ha r (h4 r hr)) hc
theorem KD (hE:EOk E)(hI:fE E ih){f:FuncId}{first cap args:List AVal}{h:EH}{r:RR}(hv:VH h)(hr:vN E ih f first cap args h = some r):wg E f (first ++ args ++ cap) h r := by
  unfold vN at hr
  split at hr
  · rw[gK]at hr
    split at hr
    · exact kY hI hv hr
    · rename_i l hl
      unfold Aa at hr
      split at hr
      · cases hr
      · rename_i p hm
        split at hr
        · rename_i v hk
          have:r = .ret v h := (Option.some.inj hr).symm
          subst this
          refine⟨.ret v, h, ⟨rfl, rfl⟩, hv, fun K hK => ?_⟩
          exact(AL hE hm (hE.known f l hl _ _ (AI hk)) (ak h) fun _ _ => rfl).mono fun x H' ⟨h1, h2⟩ => by rw[h1, h2]; exact hK
        · exact kY hI hv hr
  · rename_i z hz
    rw[gK]at hr
    unfold zZ at hr
    split at hr
    · rename_i g cap2 heq
      rw[heq]
      split at hr
      · rename_i p hm
        obtain⟨hlt, hr⟩ := fk hr
        have hview:∀ H2:AHeap, (∀ id, id < (ak h).next -> H2.get id = (ak h).get id) -> ∀ i (h:i < cap2.length) (h':i < p.1.length), Fz (fun _ => True) H2 0 cap2[i] p.1[i] := fun H2 ha i hi hi' => by
          obtain⟨_, h2⟩ := mv hm
          obtain⟨ri, h3, h4⟩ := h2 i hi hi'
          refine AF 40 h3 H2 fun r hr => ha r ?_
          have := Rd.1 hlt r (h4 r hr)
          rw[TE]at this
          exact this
        unfold zY at hr
        split at hr
        · rename_i u hgo
          obtain⟨hok, hr⟩ := fk hr
          have:r = .ret (.tup [u, .lit (.int .i64 0)]) h := (Option.some.inj hr).symm
          subst this
          refine⟨_, h, ⟨rfl, rfl⟩, hv, fun K hK => ?_⟩
          exact(hE.gd f z hz g cap2 p.1 (ak h) (some u) (mv hm).1 hview (fun _ h => by cases h; exact hok) (AK hI hgo)).mono fun x H' ⟨h1, h2⟩ => by rw[h1, h2]; exact hK
        · rename_i hgo
          have:r = .ret (.tup [z.z, .lit (.int .i64 6)]) h := (Option.some.inj hr).symm
          subst this
          refine⟨_, h, ⟨rfl, rfl⟩, hv, fun K hK => ?_⟩
          exact(hE.gd f z hz g cap2 p.1 (ak h) none (mv hm).1 hview (fun _ h => by cases h) (AK hI hgo)).mono fun x H' ⟨h1, h2⟩ => by rw[h1, h2]; exact hK
        · cases hr
      · cases hr
    · cases hr
theorem pT {h : EH} {id : Nat} {st : LoopState} {pend : Option Code} {n : Nat} {env : BT AVal} {ps : Array Tmp} {asg body : Code} (hg : aN h.hp id = some (.loop st pend n env ps asg body)) :
    (ak h).get id = some (.loop st pend n (aw env) ps asg body) := by
  show Option.map EBlk.je (aN h.hp id) = _
  rw[hg]
  rfl
theorem VH.set {h:EH}(hv:VH h){hp:BT EBlk}{id:Nat}{b:EBlk}(hs:∀ m, aN hp m = if m = id then some b else aN h.hp m)(hid:id < h.nx):VH ⟨hp, h.nx⟩ := by
  intro j x hj
  rw[hs]at hj
  show j < h.nx
  split at hj
  · omega
  · exact hv _ _ hj
theorem wu {h:EH}{hp:BT EBlk}{id:Nat}{b:EBlk}(hs:∀ m, aN hp m = if m = id then some b else aN h.hp m):ak ⟨hp, h.nx⟩ = (ak h).upd id b.je := by
  rw[sP (nx := h.nx) hs]
  rfl
theorem KE (hI:fE E ih){id:Nat}{args:List AVal}{h:EH}{r:RR}(hv:VH h)(hr:vM ih id args h = some r):wh E (.yld id) args h r := by
  unfold vM at hr
  split at hr
  · rename_i pend n env ps asg body hg
    obtain⟨hok, hr1⟩ := fk hr
    unfold z9 at hok
    simp only[Q7]at hok
    obtain⟨hokB, hf1, hf2, hps⟩ := hok
    obtain⟨e0, hr2, hlen, he0⟩ := Ky hr1
    have hget := pT hg
    have hid:id < h.nx := hv _ _ hg
    -- the rule of a round
    have rule:∀ K:ARes -> AHeap -> Prop, W E.P E.G n (some id) asg (zM E.P E.G n id body K) ⟨aw e0, ak h⟩ -> aG E.P E.G (.yld id) args (ak h) K := fun K hW => by
      refine aG.yld hget (by simpa using hlen) hps ?_
      rw[KA hokB, <- he0]
      exact hW
    unfold z0 at hr2
    split at hr2
    · rename_i e1 h1 hi
      obtain⟨x, e2, h2, h3, h4, h5⟩ := hI _ _ _ _ _ _ hi hv hf1
      cases h3
      split at hr2
      · rename_i pend2 n2 env2 ps2 asg2 body2 hg1
        obtain⟨hp1, hr3, hs1⟩ := kV _ _ _ _ _ hr2
        have hget1 := pT hg1
        have hv1:VH ⟨hp1, h1.nx⟩ := h4.set hs1 (h4 _ _ hg1)
        have hup1 := wu (h := h1) hs1
        have mk : ∀ (x2 : AX) (e3 : BT AVal) (h3 : EH) (st : LoopState) (pd : Option Code) (b : Bool), ih (some id) n body e1 ⟨hp1, h1.nx⟩ = some (.ev x2 e3 h3) → pI id st pd b h3 = some r →
            (∀ K:ARes -> AHeap -> Prop, uR id K x2 ⟨aw e3, ak h3⟩ = aP (kN st pd ((ak h3).get id)) fun blk => K (.ret (.lit (.bool b))) ((ak h3).upd id blk)) -> wh E (.yld id) args h r := by
          intro x2 e3 h3 st pd b hi2 hre hq
          obtain⟨x', e', h', h6, h7, h8⟩ := hI _ _ _ _ _ _ hi2 hv1 hf2
          cases h6
          unfold pI at hre
          split at hre
          · rename_i n3 env3 ps3 asg3 body3 hg3
            obtain⟨hp3, hr4, hs3⟩ := kV _ _ _ _ _ hre
            have hr5:r = .ret (.lit (.bool b)) ⟨hp3, h3.nx⟩ := (Option.some.inj hr4).symm
            subst hr5
            have hup3 := wu (h := h3) hs3
            refine⟨_, _, ⟨rfl, rfl⟩, h7.set hs3 (h7 _ _ hg3), fun K hK => rule K (h5 _ ?_)⟩
            refine⟨_, by rw[hget1]; rfl, ?_⟩
            have hbusy:(ak h1).upd id (.loop .busy pend2 n2 (aw env2) ps2 asg2 body2) = ak ⟨hp1, h1.nx⟩ := hup1.symm
            show W E.P E.G n (some id) body (uR id K) ⟨aw e1, (ak h1).upd id (.loop .busy pend2 n2 (aw env2) ps2 asg2 body2)⟩
            rw[hbusy]
            refine h8 _ ?_
            rw[hq]
            refine⟨.loop st pd n3 (aw env3) ps3 asg3 body3, by rw[pT hg3]; rfl, ?_⟩
            rw[hup3]at hK
            exact hK
          · cases hre
        unfold endRound at hr3
        split at hr3
        · rename_i e3 h3 hi2; exact mk _ _ _ _ _ _ hi2 hr3 fun _ => rfl
        · rename_i e3 h3 hi2; exact mk _ _ _ _ _ _ hi2 hr3 fun _ => rfl
        · rename_i i e3 h3 hi2; exact mk _ _ _ _ _ _ hi2 hr3 fun _ => rfl
        · cases hr3
      · cases hr2
    · cases hr2
  · cases hr
theorem KG (hE:EOk E)(hI:fE E ih){fv:AVal}{args:List AVal}{h:EH}{r:RR}(hv:VH h)(hr:rR E ih fv args h = some r):wh E fv args h r := by
  unfold rR at hr
  split at hr
  · rename_i f first cap
    split at hr
    · obtain⟨x, h', h1, h2, h3⟩ := KD hE hI hv hr
      exact⟨x, h', h1, h2, fun K hK => aG.clo (h3 K hK)⟩
    · rename_i e he
      unfold Ab at hr
      split at hr
      · rename_i hfc
        obtain⟨rfl, rfl⟩ := T2.1 hfc
        rw[gK]at hr
        split at hr
        · rename_i v hv2
          rw[nT]at hr
          have:r = .ret v h := (Option.some.inj hr).symm
          subst this
          exact⟨_, h, ⟨rfl, rfl⟩, hv, fun K hK => hE.ext f e he _ _ hv2 _ _ hK⟩
        · cases hr
      · cases hr
  · exact KE hI hv hr
  · cases hr
theorem sT {h:EH}{rd:Option Nat}(hr:nL h rd = true):dc (ak h) rd := by
  unfold nL at hr
  split at hr
  · trivial
  · rename_i id
    split at hr
    · rename_i st pend n env ps asg body hg
      exact⟨st, pend, n, aw env, ps, asg, body, pT hg⟩
    · cases hr
abbrev Rest (r:RR)(KQ:(AX -> St -> Prop) -> St -> Prop)(env:BT AVal)(h:EH):Prop :=
  ∃ x e2 h2, r = .ev x e2 h2 /\ VH h2 /\ ∀ Q:AX -> St -> Prop, Q x ⟨aw e2, ak h2⟩ -> KQ Q ⟨aw env, ak h⟩
theorem KH {P:Program}{H:AHeap}{op:BinOp}{t:TypeId}{x y:Operand}{a b v:AVal}(h:aZ P op t x y a b = some v):gF H op a b = none := by
  cases hn:gF H op a b with
  | none => rfl
  | some c =>
    exfalso
    unfold gF at hn
    unfold aZ at h
    split at hn
    · cases a <;> simp_all [AVal.bG]
    · cases a <;> simp_all [AVal.bG]
    · cases hn
theorem KI {P:Program}{G:Nat -> Option (List AVal)}{rd:Option Nat}{Q:AX -> St -> Prop}{o:Oper}{K:St -> Prop}{s:St}{v:AVal}{H':AHeap}(hop:ae P G s.ρ s.H s.H.next o.op = some (v, H'))(hk:K ⟨ay s.ρ o.dst v, H'⟩):aC P G rd Q o K s := by
  unfold aC
  split
  · rename_i h; rw[h]at hop; simp [ae]at hop
  · rename_i h; rw[h]at hop; simp [ae]at hop
  · rename_i op t x y u h
    rw[h]at hop
    have hb:(aZ P op t x y (af G s.ρ x) (af G s.ρ y)).map (fun v => (v, s.H)) = some (v, H') := hop
    simp only[QJ, Prod.mk.injEq]at hb
    obtain⟨v', hb1, _, _⟩ := hb
    rw[KH hb1]
    exact⟨(v, H'), hop, hk⟩
  · exact⟨(v, H'), hop, hk⟩
theorem KJ (hE : EOk E) (hI : fE E ih) {rd : Option Nat} {o : Oper} {k : BT AVal → EH → R} {env : BT AVal} {h : EH} {r : RR} {KQ : (AX → St → Prop) → St → Prop} (hv : VH h)
    (hk:∀ env' h', VH h' -> k env' h' = some r -> Rest r KQ env' h') (hr:sF o.op E ih rd o.dst k env h = some r):Rest r (fun Q => aC E.P E.G rd Q o (KQ Q)) env h := by
  rcases Ku hv hr with ⟨v, env', h', hop, hv', he, hkr⟩ | ⟨op, t, x, y, u, env', hop, hn, hs, he, hkr⟩ | ⟨fv, args, ats, hop, hrv⟩ | ⟨x, hop, hrp⟩
  · obtain⟨x, e2, h2, h3, h4, h5⟩ := hk _ _ hv' hkr
    refine⟨x, e2, h2, h3, h4, fun Q hq => KI (v := v) (H' := ak h') hop ?_⟩
    have := h5 Q hq
    rw[he]at this
    exact this
  · obtain⟨x', e2, h2, h3, h4, h5⟩ := hk _ _ hv hkr
    refine⟨x', e2, h2, h3, h4, fun Q hq => ?_⟩
    unfold aC
    rw[hop]
    simp only
    rw[hn]
    refine⟨hs, fun b hb => ?_⟩
    have hb' := hb rfl
    subst hb'
    have := h5 Q hq
    rw[he]at this
    cases hnq:(op == BinOp.neq) <;> rw[hnq]at this <;> exact this
  · unfold vP at hrv
    rw[nU, bZ]at hrv
    unfold Ac at hrv
    have key : ∀ {x : ARes} {h' : EH} {r0 : RR}, rR E ih (af E.G (aw env) fv) (args.toList.map (af E.G (aw env))) h = some r0 → we r0 x h' → VH h' ∧ ∀ (Q : AX → St → Prop), (dc (ak h') rd ∧ match (x : ARes) with
        | .ret v => KQ Q ⟨ay (aw env) o.dst v, ak h'⟩
        | .panic => Q .panic ⟨aw env, ak h'⟩) -> aC E.P E.G rd Q o (KQ Q) ⟨aw env, ak h⟩ := by
      intro x h' r0 happ hc
      obtain⟨x2, h2, hc2, hv2, hK⟩ := KG hE hI hv happ
      have hx:x2 = x /\ h2 = h' := by
        cases r0 with
        | ret v h0 => exact⟨hc2.1.trans hc.1.symm, hc2.2.trans hc.2.symm⟩
        | panic h0 => exact⟨hc2.1.trans hc.1.symm, hc2.2.trans hc.2.symm⟩
        | ev => exact hc.elim
      obtain⟨rfl, rfl⟩ := hx
      refine⟨hv2, fun Q hq => ?_⟩
      unfold aC
      rw[hop]
      exact hK _ hq
    split at hrv
    · rename_i v h' happ
      obtain⟨hrd, hrv2⟩ := fk hrv
      obtain⟨hv', hq⟩ := key happ (x := .ret v) (h' := h') ⟨rfl, rfl⟩
      obtain⟨env', h1, h2⟩ := jS hrv2
      obtain⟨x, e2, h3, h4, h5, h6⟩ := hk _ _ hv' h1
      refine⟨x, e2, h3, h4, h5, fun Q hQ => hq Q ⟨sT hrd, ?_⟩⟩
      have := h6 Q hQ
      rw[h2]at this
      exact this
    · rename_i h' happ
      obtain⟨hrd, hrv2⟩ := fk hrv
      obtain⟨hv', hq⟩ := key happ (x := .panic) (h' := h') ⟨rfl, rfl⟩
      exact⟨.panic, env, h', (Option.some.inj hrv2).symm, hv', fun Q hQ => hq Q ⟨sT hrd, hQ⟩⟩
    · cases hrv
  · unfold vO at hrp
    split at hrp
    · rename_i t v heq
      refine⟨.panic, env, h, (Option.some.inj hrp).symm, hv, fun Q hq => ?_⟩
      unfold aC
      rw[hop]
      exact⟨⟨t, v, heq⟩, hq⟩
    · cases hrp
theorem AM {all:Array Oper}{ρ:Env}{o:Oper}{yes no:R}{r:RR}(hr:nP all ρ o.guard yes no = some r):(dO all ρ o = some true /\ yes = some r) \/ (dO all ρ o = some false /\ no = some r) := by
  unfold nP at hr
  unfold dO
  cases hg:o.guard with
  | none => rw[hg]at hr; exact .inl ⟨rfl, hr⟩
  | some jw =>
    obtain⟨j, want⟩ := jw
    rw[hg]at hr
    have hr2:vR all ρ yes no (j, want) = some r := hr
    unfold vR at hr2
    simp only at hr2 ⊢
    split at hr2
    · rename_i d hd
      rw[hd]
      simp only
      split at hr2
      · rename_i b hb
        rw[hb]
        cases hbw:b == want with
        | true => rw[hbw]at hr2; exact .inl ⟨by show some (b == want) = _; rw[hbw], hr2⟩
        | false => rw[hbw]at hr2; exact .inr ⟨by show some (b == want) = _; rw[hbw], hr2⟩
      · rename_i v hnb hb
        rw[hb]
        exact .inr ⟨by cases v <;> first | rfl | exact absurd rfl (hnb _), hr2⟩
      · cases hr2
    · rename_i hd
      rw[hd]
      exact .inr ⟨rfl, hr2⟩
theorem AN (hE:EOk E)(hI:fE E ih){rd:Option Nat}{all:Array Oper}{r:RR}:∀ (l:List Oper) (env:BT AVal) (h:EH), VH h -> nQ E ih rd all l env h = some r -> Rest r (fun Q => cK E.P E.G rd Q all l) env h := by
  intro l
  induction l with
  | nil => exact fun env h hv hr => ⟨.normal, env, h, (Option.some.inj hr).symm, hv, fun Q hq => hq⟩
  | cons o l ihl =>
    intro env h hv hr
    have hr1:nP all (aw env) o.guard (sF o.op E ih rd o.dst (nQ E ih rd all l) env h) (eG env o.dst (.lit undef) fun env => nQ E ih rd all l env h) = some r := hr
    rcases AM hr1 with ⟨hw, hr2⟩ | ⟨hw, hr2⟩
    · obtain⟨x, e2, h2, h3, h4, h5⟩ := KJ hE hI (KQ := fun Q => cK E.P E.G rd Q all l) hv (fun env' h' hv' hk => ihl env' h' hv' hk) hr2
      exact⟨x, e2, h2, h3, h4, fun Q hq => ⟨true, hw, h5 Q hq⟩⟩
    · obtain⟨env', h1, h2⟩ := jS hr2
      obtain⟨x, e2, h2', h3, h4, h5⟩ := ihl env' h hv h1
      refine⟨x, e2, h2', h3, h4, fun Q hq => ⟨false, hw, ?_⟩⟩
      have := h5 Q hq
      rw[h2]at this
      exact this
theorem nW {I:Machine -> Prop}{P:Program}{m t m1:Machine}(h:StepsIn I P m t)(hs:step P m = .next m1)(hne:m ≠ t):StepsIn I P m1 t := by
  cases h with
  | refl => exact absurd rfl hne
  | head hI h' h'' =>
    rw[hs]at h'
    cases h'
    exact h''
theorem sU {b b':Frame}{a a':Act}{k k':List Item}{cs cs':List Frame}{w w':World}(h:k ≠ k'):lone (b.atR a k) cs w ≠ lone (b'.atR a' k') cs' w' := by
  intro he
  simp only[lone, Machine.mk.injEq, Array.mk.injEq, List.cons.injEq, Goroutine.mk.injEq, Frame.atR, Frame.mk.injEq]at he
  exact h he.2.1.1.1.2.2.1
theorem AO {b b':Frame}{a a':Act}{k k':List Item}{cs cs':List Frame}{w w':World}{u:FrameMode}(h:u ≠ .run):lone (b.atR a k) cs w ≠ lone { b'.atR a' k' with mode := u } cs' w' := by
  intro he
  simp only[lone, Machine.mk.injEq, Array.mk.injEq, List.cons.injEq, Goroutine.mk.injEq, Frame.atR, Frame.mk.injEq]at he
  exact h he.2.1.1.1.2.2.2.2.1.symm
theorem KK {id:Nat}:∀ {k k':List Item}, exitTo id k = some k' -> k'.length <= k.length := by
  intro k
  induction k with
  | nil => intro k' h; cases h
  | cons x k ih =>
    intro k' h
    have hle:exitTo id k = some k' -> k'.length <= (x :: k).length := fun h => Nat.le_succ_of_le (ih h)
    cases x with
    | inBlock id' =>
      simp only[exitTo]at h
      split at h
      · cases h; simp
      · exact hle h
    | _ => exact hle h
theorem W.KL {P:Program}{G:Nat -> Option (List AVal)}{n:Nat}{rd:Option Nat}{c:Code}{Q:AX -> St -> Prop}{s:St}(hQ:∀ l s, ¬ Q (.goto l) s)(h:W P G n rd c (gE (W P G n rd (.loop c) Q) Q) s):W P G n rd (.loop c) Q s := by
  intro wb Γ a w rb hs hr b k cs hro hb hrm
  have h0:(lone (b.atR a (.code (.loop c) :: k)) cs w).fenced P (cU rb) := fenced_calm hb hrm rfl
  obtain⟨e, a₁, w₁, ⟨x, s₁, Γ₁, hx, hq, hs₁, E₁, hn₁, hr₁, hf₁⟩, harr⟩ := h wb Γ a w rb hs hr b (.inLoop c :: k) cs hro hb hrm
  cases e with
  | normal =>
    cases x with
    | normal =>
      obtain⟨e, a₂, w₂, hp, harr₂⟩ := hq wb Γ₁ a₁ w₁ rb hs₁ hr₁ b k cs hro hb hrm
      have hp' := hp.step E₁ hn₁ hf₁ fun t ht => ht
      refine⟨e, a₂, w₂, hp', ?_⟩
      have start:StepsIn (Machine.fenced P (cU rb)) P (lone (b.atR a (.code (.loop c) :: k)) cs w) (lone (b.atR a₁ (.code c :: .inLoop c :: k)) cs w₁) :=
        .head h0 stepR_loop (StepsIn.trans harr (.one (fenced_calm hb hrm rfl) stepR_inLoop))
      obtain⟨y, s₂, Γ₂, hy, hq₂, _⟩ := hp
      have hl:∀ (k':List Item), k'.length <= k.length -> Item.code (.loop c) :: k ≠ k' := fun k' hk' he => by subst he; simp only[List.length_cons]at hk'; omega
      cases e with
      | normal => exact start.trans (nW harr₂ stepR_loop (sU (hl _ (Nat.le_refl _))))
      | exit id =>
        refine⟨fun k' hk' => start.trans (nW (harr₂.1 k' hk') stepR_loop (sU (hl _ (KK hk')))), fun hr2 hk' => ?_⟩
        obtain⟨k₁, h1, h2⟩ := harr₂.2 hr2 hk'
        exact⟨k₁, h1, start.trans (nW h2 stepR_loop (sU (k' := .code (.exit id) :: k₁) (fun he => by cases he)))⟩
      | goto l => cases y with
        | goto l' => exact absurd hq₂ (hQ _ _)
        | _ => exact hy.elim
      | ret =>
        refine⟨fun hr2 => ?_, fun hr2 => ?_⟩
        · obtain⟨todo, h1⟩ := harr₂.1 hr2
          exact⟨todo, start.trans (nW h1 stepR_loop (AO (fun he => by cases he)))⟩
        · obtain⟨k₁, h1⟩ := harr₂.2 hr2
          exact⟨k₁, start.trans (nW h1 stepR_loop (sU (k' := .code .ret :: k₁) (fun he => by cases he)))⟩
      | panic ch =>
        obtain⟨todo, h1⟩ := harr₂
        exact⟨todo, start.trans (nW h1 stepR_loop (AO (fun he => by cases he)))⟩
      | outgrown => cases y <;> exact hy.elim
    | _ => exact hx.elim
  | exit id => cases x with
    | exit j => exact⟨_, a₁, w₁, ⟨.exit j, s₁, Γ₁, hx, hq, hs₁, E₁, hn₁, hr₁, hf₁⟩, .of_steps (.one h0 stepR_loop) (.pass (x := .inLoop c) rfl (fun _ _ => .inl (by simp)) harr)⟩
    | _ => exact hx.elim
  | goto id => cases x with
    | goto j => exact⟨_, a₁, w₁, ⟨.goto j, s₁, Γ₁, hx, hq, hs₁, E₁, hn₁, hr₁, hf₁⟩, .of_steps (.one h0 stepR_loop) (.pass (x := .inLoop c) rfl (fun _ _ => .inl (by simp)) harr)⟩
    | _ => exact hx.elim
  | ret => cases x with
    | ret => exact⟨_, a₁, w₁, ⟨.ret, s₁, Γ₁, hx, hq, hs₁, E₁, hn₁, hr₁, hf₁⟩, .of_steps (.one h0 stepR_loop) (.pass (x := .inLoop c) rfl (fun _ _ => .inl (by simp)) harr)⟩
    | _ => exact hx.elim
  | panic ch => cases x with
    | panic => exact⟨_, a₁, w₁, ⟨.panic, s₁, Γ₁, hx, hq, hs₁, E₁, hn₁, hr₁, hf₁⟩, .of_steps (.one h0 stepR_loop) (.pass (x := .inLoop c) rfl (fun _ _ => .inl (by simp)) harr)⟩
    | _ => exact hx.elim
  | outgrown => cases x <;> exact hx.elim
theorem AP {b:Nat}{f:FP}{acc:List (Nat × FP)}(h:vS b f acc = true):fg b f acc := by
  intro p hp hb
  have := Rd.1 h p hp
  rw[hb, TY, Q7, Rd, Rd]at this
  refine⟨fun r hr hr2 => ?_, fun r hr hr2 => ?_⟩
  · have := this.1 r hr
    simp [hr2]at this
  · have := this.2 r hr
    simp [hr2]at this
theorem kE.KM {P : Program} {G : Nat → Option (List AVal)} {fv : AVal} {args : List AVal} {H : AHeap} {v : AVal} {rs : List Nat} (h1 : ∀ r, r ∈ rs → r < H.next)
    (h2:∀ H2:AHeap, (∀ r, r ∈ rs -> H2.get r = H.get r) -> aG P G fv args H2 fun r H3 => r = .ret v /\ H3 = H2):Ev.kE P G fv args H v (fun _ => none) 0 ⟨[], rs⟩ :=
  ⟨h1, fun r (hr:false = true) => absurd hr (by decide), fun c hc => absurd hc (Q5 _), fun H2 ha _ _ => h2 H2 ha⟩
def nX (E:EP)(fv:AVal)(args:List AVal)(h:EH)(k:AVal -> FP -> EH -> R)(r:RR):Prop :=
  ∃ v e n fp h2, k v fp h2 = some r /\ VH h2 /\ ak h2 = ⟨Ev.bY e (ak h).get, (ak h).next + n⟩ /\ Ev.kE E.P E.G fv args (ak h) v e n fp
theorem nX.pure {fv : AVal} {args : List AVal} {h : EH} {k : AVal → FP → EH → R} {r : RR} {v : AVal} {rs : List Nat} (hv : VH h) (hk : k v ⟨[], rs⟩ h = some r) (h1 : ∀ r, r ∈ rs → r < (ak h).next)
    (h2:∀ H2:AHeap, (∀ r, r ∈ rs -> H2.get r = (ak h).get r) -> aG E.P E.G fv args H2 fun r H3 => r = .ret v /\ H3 = H2):nX E fv args h k r :=
  ⟨v, _, 0, _, h, hk, hv, rfl, kE.KM h1 h2⟩
theorem AQ {l:List Nat}{n:Nat}(h:(l.all fun r => Nat.blt r n) = true):∀ r, r ∈ l -> r < n := fun r hr => by
  have := Rd.1 h r hr
  rw[TE]at this
  exact this
theorem wx (hE:EOk E)(hI:fE E ih){f:FuncId}{first cap args:List AVal}{h:EH}{k:AVal -> FP -> EH -> R}{r:RR}(hv:VH h)(hr:sG E ih f (first ++ args ++ cap) h k = some r):nX E (.clo f first cap) args h k r := by
  obtain⟨kp, hr1, hinv⟩ := kZ (fun v acc k r => KY 40 v acc k r) hr
  have hgood:∀ id, id ∈ kp -> nY h 0 [] kp id := fun id hid => (hinv.2 id hid).resolve_left (List.not_mem_nil)
  have hkn:∀ id, id ∈ kp -> id < h.nx := fun id hid => let ⟨_, g, e, c, hg, _⟩ := hgood id hid; hv id _ hg
  unfold Ak at hr1
  split at hr1
  · rename_i p hp
    obtain⟨hfz, hr2⟩ := fk hr1
    obtain⟨hp1, hr3, hget⟩ := K0 hr2
    have hvs:VH ⟨hp1, h.nx⟩ := by
      intro id b hb
      have hb':aN hp1 id = some b := hb
      rw[hget]at hb'
      split at hb'
      · exact hv id b hb'
      · cases hb'
    unfold Aj at hr3
    split at hr3
    · rename_i v h' hc
      obtain⟨x, h2, hcr, hv2, hK⟩ := kY hI hvs hc
      obtain⟨rfl, rfl⟩ := hcr
      unfold Ai at hr3
      split at hr3
      · rename_i lv hle hsame hlv
        obtain⟨hi2, hcl⟩ := AU 40 v [] lv hlv
        have hgl:∀ id, id ∈ lv -> nY h2 h.nx kp lv id := fun id hid => (hi2.2 id hid).resolve_left (List.not_mem_nil)
        have hln:∀ id, id ∈ lv -> id < h2.nx := fun id hid => let ⟨_, g, e, c, hg, _⟩ := hgl id hid; hv2 id _ hg
        have hle':h.nx <= h2.nx := Sk hle
        obtain⟨t', hr4, hnew⟩ := K5 hr3
        rw[fS]at hr4
        have hKin:∀ id, gR h.nx kp lv id -> (id ∈ kp \/ (h.nx <= id /\ id < h2.nx /\ dR lv id = true)) := by
          rintro id (⟨h1, h3⟩ | ⟨h1, h3⟩)
          · exact .inl h3
          · exact .inr ⟨by omega, hln id h3, jk.2 h3⟩
        obtain⟨hm1, hm2⟩ := mv hp
        have hE1 := Ev.kE.mk (P := E.P) (G := E.G) (f := f) (first := first) (cap := cap) (args := args) (args' := p.1) (v := v) (H := ak h) (ak ⟨hp1, h.nx⟩) (ak h2) (fun id => id ∈ kp) (dR lv) (kp ++ p.2) hE.gok
          (fun r hr => by
            rcases Q1.1 hr with hr | hr
            · exact hkn r hr
            · exact AQ hfz r hr)
          rfl hle'
          (fun id hid => by
            obtain⟨_, g, e, c, hg, hcc⟩ := hgood id hid
            refine⟨So _ hid, ?_, ?_, g, e, c, kX hg, fun i hi => (hcc i hi).mono fun j hj => hj.elim (fun h => absurd h.1 (Q5 _)) fun h => h.2⟩
            · show Option.map _ (aN hp1 id) = Option.map _ (aN h.hp id)
              rw[hget, QN hid]
            · show Option.map _ (aN h2.hp id) = Option.map _ (aN h.hp id)
              rw[<- K4 (KX hsame id hid)])
          (fun id hid => by
            show Option.map _ (aN hp1 id) = none
            rw[hget, QQ hid]
            rfl)
          hm1
          (fun H2 ha i hi hi' => by
            obtain⟨ri, h3, h4⟩ := hm2 i hi hi'
            exact KZ hkn 40 h3 H2 fun r hr => ha r (Se _ (h4 r hr)))
          (hK _ ⟨rfl, rfl⟩)
          (hcl.mono hKin)
          (fun id h1 h3 h4 => by
            obtain⟨_, g, e, c, hg, hcc⟩ := hgl id (jk.1 h4)
            exact⟨g, e, c, kX hg, fun i hi => (hcc i hi).mono hKin⟩)
        refine⟨v, _, _, _, ⟨t', h2.nx⟩, hr4, ?_, ?_, hE1⟩
        · intro id b hb
          have hb':aN t' id = some b := hb
          rw[hnew]at hb'
          show id < h2.nx
          split at hb'
          · rename_i hc
            have:Nat.sub h2.nx h.nx = h2.nx - h.nx := rfl
            rw[this]at hc
            omega
          · have := hv id b hb'
            omega
        · have hget2 : (ak ⟨t', h2.nx⟩).get = Ev.bY (Ev.iJ (ak h).next (ak h2).next (dR lv) (ak h2).get) (ak h).get := by
            funext m
            show Option.map EBlk.je (aN t' m) = _
            rw[hnew]
            have hsub:h.nx + Nat.sub h2.nx h.nx = h2.nx := by
              have:Nat.sub h2.nx h.nx = h2.nx - h.nx := rfl
              omega
            rw[hsub]
            unfold Ev.bY Ev.iJ
            by_cases hc:h.nx <= m /\ m < h2.nx
            · rw[QN hc, QN (show (ak h).next <= m /\ m < (ak h2).next from hc)]
              by_cases hm:dR lv m = true
              · obtain⟨_, g, e, c, hg, hcc⟩ := hgl m (jk.1 hm)
                rw[QN hm, QN hm, kX hg, hg]
                rfl
              · rw[QQ hm, QQ hm]
                rfl
            · rw[QQ hc, QQ (show ¬ ((ak h).next <= m /\ m < (ak h2).next) from hc)]
              rfl
          have hnx:(ak ⟨t', h2.nx⟩).next = (ak h).next + ((ak h2).next - (ak h).next) := by
            show h2.nx = h.nx + (h2.nx - h.nx)
            omega
          calc ak ⟨t', h2.nx⟩ = ⟨(ak ⟨t', h2.nx⟩).get, (ak ⟨t', h2.nx⟩).next⟩ := rfl
            _ = _ := by rw[hget2, hnx]
      · cases hr3
    · cases hr3
  · cases hr1
theorem KN (hE:EOk E)(hI:fE E ih){fv:AVal}{args:List AVal}{h:EH}{k:AVal -> FP -> EH -> R}{r:RR}(hv:VH h)(hr:vT E ih fv args h k = some r):nX E fv args h k r := by
  unfold vT at hr
  split at hr
  · rename_i f first cap
    split at hr
    · unfold Am at hr
      split at hr
      · cases hr
      · rw[gK]at hr
        split at hr
        · exact wx hE hI hv hr
        · rename_i l hl
          unfold Al at hr
          split at hr
          · exact wx hE hI hv hr
          · rename_i p hm
            split at hr
            · rename_i v hf
              obtain⟨hlt, hr2⟩ := fk hr
              exact nX.pure hv hr2 (AQ hlt) fun H2 ha => aG.clo (AL hE hm (hE.known f l hl p.1 v (AI hf)) H2 ha)
            · exact wx hE hI hv hr
    · rename_i e he
      unfold Ah at hr
      split at hr
      · rename_i hfc
        obtain⟨rfl, rfl⟩ := T2.1 hfc
        rw[gK]at hr
        split at hr
        · rename_i v hv2
          exact nX.pure hv hr (fun r hr => by cases hr) fun H2 _ => hE.ext f e he _ _ hv2 _ _ ⟨rfl, rfl⟩
        · cases hr
      · cases hr
  · cases hr
theorem KO (hE : EOk E) (hI : fE E ih) {o : Oper} {b i : Nat} {acc : List (Nat × FP)} {k : nR} {env : BT AVal} {h : EH} {r : RR} {KQ : (AX → St → Prop) → List (Nat × FP) → St → Prop} (hv : VH h)
    (hk:∀ acc env' h', VH h' -> k acc env' h' = some r -> Rest r (fun Q => KQ Q acc) env' h') (hr:sI E ih o b i acc k env h = some r):
    Rest r (fun Q s => Ev.bE E.P E.G o (fun f s' => fg b f acc /\ KQ Q (eg i f acc) s') s) env h := by
  have gen : ∀ {op : Op}, o.op = op → sH o.dst b i acc k env (aY E.P E.G (aw env) h.nx op) (mq E env h op) h = some r → (∀ fv args ats, op ≠ .call ⟨.value fv, args, ats⟩) →
      Rest r (fun Q s => Ev.bE E.P E.G o (fun f s' => fg b f acc /\ KQ Q (eg i f acc) s') s) env h := by
    intro op hop hd hne
    unfold sH at hd
    obtain⟨hap, hd2⟩ := fk hd
    obtain⟨v, h', h1, h2, h3⟩ := Ay hv (sS hv).1 hd2
    obtain⟨env', h4, h5⟩ := jS h3
    obtain⟨x, e2, h6, h7, h8, h9⟩ := hk _ _ _ h2 h4
    refine⟨x, e2, h6, h7, h8, fun Q hq => ?_⟩
    have hopA := (sS hv).2 _ _ h1
    have hq2 := h9 Q hq
    rw[h5]at hq2
    unfold Ev.bE
    split
    · rename_i hop2; exact absurd (hop.symm.trans hop2) (hne _ _ _)
    · refine⟨(v, ak h'), by rw[hop]; exact hopA, ?_⟩
      rw[hop]
      exact⟨AP hap, hq2⟩
  unfold sI at hr
  split at hr
  · rename_i c hop
    split at hr
    · rename_i fv hc
      rw[nU, bZ]at hr
      obtain⟨v, e, n, fp, h2, hr2, hv2, hH, hec⟩ := KN hE hI hv hr
      unfold An at hr2
      obtain⟨hap, hd2⟩ := fk hr2
      rw[nT]at hd2
      obtain⟨env', h4, h5⟩ := jS hd2
      obtain⟨x, e2, h6, h7, h8, h9⟩ := hk _ _ _ hv2 h4
      refine⟨x, e2, h6, h7, h8, fun Q hq => ?_⟩
      have hq2 := h9 Q hq
      rw[h5, hH]at hq2
      obtain⟨callee, args, ats⟩ := c
      simp only at hc
      subst hc
      unfold Ev.bE
      rw[hop]
      exact⟨v, e, n, fp, hec, AP hap, hq2⟩
    · rename_i hne
      refine gen hop hr fun fv args ats he => ?_
      have he2:c = ⟨.value fv, args, ats⟩ := Op.call.inj he
      exact hne fv (by rw[he2])
  · cases hr
  · rename_i op hne1 hne2 
    exact gen rfl hr fun fv args ats he => hne1 _ he
theorem KP (hE : EOk E) (hI : fE E ih) {all : Array Oper} {tail : BT AVal → EH → R} {r : RR} {TQ : (AX → St → Prop) → St → Prop} (ht : ∀ env h, VH h → tail env h = some r → Rest r TQ env h) :
    ∀ (l:List Oper) (bs:List Nat) (i:Nat) (acc:List (Nat × FP)) (env:BT AVal) (h:EH), VH h -> sJ E ih all tail l bs i acc env h = some r -> Rest r (fun Q => Ev.cS E.P E.G all (TQ Q) bs i acc l) env h := by
  intro l
  induction l with
  | nil =>
    intro bs i acc env h hv hr
    obtain⟨x, e2, h2, h3, h4, h5⟩ := ht env h hv hr
    exact⟨x, e2, h2, h3, h4, fun Q hq => by cases bs <;> exact h5 Q hq⟩
  | cons o l ihl =>
    intro bs i acc env h hv hr
    cases bs with
    | nil => cases hr
    | cons b bs =>
      have hr1:nP all (aw env) o.guard (sI E ih o b i acc (sJ E ih all tail l bs (i + 1)) env h) (eG env o.dst (.lit undef) fun env => sJ E ih all tail l bs (i + 1) acc env h) = some r := hr
      rcases AM hr1 with ⟨hw, hr2⟩ | ⟨hw, hr2⟩
      · obtain⟨x, e2, h2, h3, h4, h5⟩ := KO hE hI (KQ := fun Q acc => Ev.cS E.P E.G all (TQ Q) bs (i + 1) acc l) hv (fun acc env' h' hv' hk => ihl bs (i + 1) acc env' h' hv' hk) hr2
        exact⟨x, e2, h2, h3, h4, fun Q hq => ⟨true, hw, h5 Q hq⟩⟩
      · obtain⟨env', h1, h2⟩ := jS hr2
        obtain⟨x, e2, h2', h3, h4, h5⟩ := ihl bs (i + 1) acc env' h hv h1
        refine⟨x, e2, h2', h3, h4, fun Q hq => ⟨false, hw, ?_⟩⟩
        have := h5 Q hq
        rw[h2]at this
        exact this
theorem AR {r0:R}{r:RR}(h:nS r0 = some r):r0 = some r /\ ∀ l e h, r ≠ .ev (.goto l) e h := by
  unfold nS at h
  split at h
  · cases h
  · rename_i hne
    subst h
    exact⟨rfl, fun l e h he => hne l e h (by rw[he])⟩
theorem KR (hE:EOk E)(hI:fE E ih):fE E (Aq E ih) := by
  intro rd n c env h r hr hv hf
  have seqK : ∀ (a : Code) (b : Code), fits n a = true → fits n b = true → pQ ih rd n b (ih rd n a env h) = some r →
      ∃ x env' h', r = .ev x env' h' /\ VH h' /\ ∀ Q:AX -> St -> Prop, Q x ⟨aw env', ak h'⟩ -> W E.P E.G n rd a (gE (W E.P E.G n rd b Q) Q) ⟨aw env, ak h⟩ := by
    intro a b hfa hfb hs
    unfold pQ at hs
    split at hs
    · rename_i e1 h1 hi
      obtain⟨x, e2, h2, h3, h4, h5⟩ := hI _ _ _ _ _ _ hi hv hfa
      cases h3
      obtain⟨x', e', h', h6, h7, h8⟩ := hI _ _ _ _ _ _ hs h4 hfb
      exact⟨x', e', h', h6, h7, fun Q hq => h5 _ (h8 Q hq)⟩
    · rename_i r0 hne
      obtain⟨x, e2, h2, h3, h4, h5⟩ := hI _ _ _ _ _ _ hs hv hfa
      subst h3
      refine⟨x, e2, h2, rfl, h4, fun Q hq => h5 _ ?_⟩
      cases x with
      | normal => exact absurd hs (hne _ _)
      | _ => exact hq
  cases c with
  | skip => exact⟨.normal, env, h, (Option.some.inj hr).symm, hv, fun Q hq => .skip hq⟩
  | label l => exact⟨.normal, env, h, (Option.some.inj hr).symm, hv, fun Q hq => .label hq⟩
  | exit i => exact⟨.exit i, env, h, (Option.some.inj hr).symm, hv, fun Q hq => .exit hq⟩
  | ret => exact⟨.ret, env, h, (Option.some.inj hr).symm, hv, fun Q hq => .ret hq⟩
  | goto l => cases hr
  | refuse w => cases hr
  | region id ops dr =>
    have hr1:Bool.rec (motive := fun _ => R) (nQ E ih rd ops ops.toList env h) (sK E ih rd ops (kT ops.toList []) (pP (kT ops.toList []) ops.toList.length) env h) dr = some r := hr
    cases dr with
    | false =>
      obtain⟨x, e2, h2, h3, h4, h5⟩ := AN hE hI ops.toList env h hv hr1
      exact⟨x, e2, h2, h3, h4, fun Q hq => .region hf (h5 Q hq)⟩
    | true =>
      have hr2:sK E ih rd ops (kT ops.toList []) (pP (kT ops.toList []) ops.toList.length) env h = some r := hr1
      unfold sK at hr2
      obtain⟨hok, hr3⟩ := fk hr2
      obtain⟨x, e2, h2, h3, h4, h5⟩ := KP hE hI (TQ := fun Q => cK E.P E.G rd Q ops (ops.toList.drop (pP (kT ops.toList []) ops.toList.length))) (fun env h hv hr => AN hE hI _ env h hv hr) _ _ _ _ env h hv hr3
      exact⟨x, e2, h2, h3, h4, fun Q hq => Ev.W.Dw _ _ hE.mixed hf hok (h5 Q hq)⟩
  | seq a b =>
    simp only[fits, Q7]at hf
    obtain⟨x, e2, h2, h3, h4, h5⟩ := seqK a b hf.1 hf.2 hr
    exact⟨x, e2, h2, h3, h4, fun Q hq => .seq (h5 Q hq)⟩
  | cond x a b =>
    simp only[fits, Q7]at hf
    have hr1:vV (af E.G (aw env) x) (ih rd n a env h) (ih rd n b env h) = some r := hr
    unfold vV at hr1
    split at hr1
    · rename_i t ht
      cases t with
      | true =>
        obtain⟨y, e2, h2, h3, h4, h5⟩ := hI _ _ _ _ _ _ hr1 hv hf.1
        exact⟨y, e2, h2, h3, h4, fun Q hq => .cond ht (h5 Q hq)⟩
      | false =>
        obtain⟨y, e2, h2, h3, h4, h5⟩ := hI _ _ _ _ _ _ hr1 hv hf.2
        exact⟨y, e2, h2, h3, h4, fun Q hq => .cond ht (h5 Q hq)⟩
    · cases hr1
  | block id b =>
    have hr1:vU id (ih rd n b env h) = some r := hr
    unfold vU at hr1
    split at hr1
    · rename_i i e1 h1 hi
      obtain⟨x, e2, h2, h3, h4, h5⟩ := hI _ _ _ _ _ _ hi hv hf
      cases h3
      cases hb:Nat.beq i id with
      | true =>
        rw[hb]at hr1
        have := QZ hb
        refine⟨.normal, e1, h1, (Option.some.inj hr1).symm, h4, fun Q hq => .block (h5 _ ?_)⟩
        show (if i = id then Q .normal _ else Q (.exit i) _)
        rw[QN this]
        exact hq
      | false =>
        rw[hb]at hr1
        have:¬ i = id := fun h => by rw[h]at hb; rw[show Nat.beq id id = true from Sx _]at hb; cases hb
        refine⟨.exit i, e1, h1, (Option.some.inj hr1).symm, h4, fun Q hq => .block (h5 _ ?_)⟩
        show (if i = id then Q .normal _ else Q (.exit i) _)
        rw[QQ this]
        exact hq
    · rename_i r0 hne
      obtain⟨x, e2, h2, h3, h4, h5⟩ := hI _ _ _ _ _ _ hr1 hv hf
      subst h3
      refine⟨x, e2, h2, rfl, h4, fun Q hq => .block (h5 _ ?_)⟩
      cases x with
      | exit i => exact absurd hr1 (hne _ _ _)
      | _ => exact hq
  | loop b =>
    have hr1:nS (pQ ih rd n (.loop b) (ih rd n b env h)) = some r := hr
    obtain⟨hr2, hng⟩ := AR hr1
    obtain⟨x, e2, h2, h3, h4, h5⟩ := seqK b (.loop b) hf hf hr2
    refine⟨x, e2, h2, h3, h4, fun Q hq => (W.KL (Q := fun y t => y = x /\ t = ⟨aw e2, ak h2⟩) (fun l s hx => ?_) (h5 _ ⟨rfl, rfl⟩)).mono fun y t ht => by rw[ht.1, ht.2]; exact hq⟩
    subst h3
    rw[<- hx.1]at hng
    exact hng _ _ _ rfl
  | scope b =>
    have hr1:nS (ih rd n b env h) = some r := hr
    obtain⟨hr2, hng⟩ := AR hr1
    obtain⟨x, e2, h2, h3, h4, h5⟩ := hI _ _ _ _ _ _ hr2 hv hf
    subst h3
    refine⟨x, e2, h2, rfl, h4, fun Q hq => .scope (h5 _ ?_)⟩
    cases x with
    | goto i => exact absurd rfl (hng _ _ _)
    | _ => exact hq
  | rangeFunc f ps asg body =>
    have hr1:vW E ih rd n env h ps asg body (af E.G (aw env) f) = some r := hr
    unfold vW at hr1
    split at hr1
    · rename_i g first cap hg
      obtain⟨hp1, hr2, hs1⟩ := kV _ _ _ _ _ hr1
      rw[gK]at hr2
      have hv1:VH ⟨hp1, h.nx + 1⟩ := by
        intro j b hj
        rw[hs1]at hj
        show j < h.nx + 1
        split at hj
        · omega
        · have := hv _ _ hj; omega
      have hlay:(ak h).lay (ak h).next (.loop .ready none n (aw env) ps asg body) = some (ak ⟨hp1, h.nx + 1⟩) := by
        rw[sP (nx := h.nx + 1) hs1]
        unfold AHeap.lay
        rw[QN rfl]
        rfl
      have rule:∀ Q:AX -> St -> Prop, ah E.P E.G g (first ++ [.yld h.nx] ++ cap) (ak ⟨hp1, h.nx + 1⟩) (rA rd Q (aw env) h.nx) -> W E.P E.G n rd (.rangeFunc f ps asg body) Q ⟨aw env, ak h⟩ :=
        fun Q hq => W.rangeFunc hg ⟨_, hlay, hq⟩
      unfold Ao at hr2
      split at hr2
      · rename_i v h2 hc
        obtain⟨x, h3, hcr, hv3, hK⟩ := kY hI hv1 hc
        obtain⟨rfl, rfl⟩ := hcr
        obtain⟨hrd, hr3⟩ := fk hr2
        split at hr3
        · cases hr3
        · rename_i st pend n2 env2 ps2 asg2 body2 hne hg3
          obtain⟨hp3, hr4, hs3⟩ := kV _ _ _ _ _ hr3
          have hup := wu (h := h3) hs3
          have hv4 := hv3.set hs3 (hv3 _ _ hg3)
          have hend:pB ((ak h3).get h.nx) = some (pend, .loop .exhausted pend n2 (aw env2) ps2 asg2 body2) := by
            rw[pT hg3]
            unfold pB
            cases st with
            | busy => exact(hne rfl).elim
            | _ => rfl
          have fin : ∀ x : AX, (∀ Q : AX → St → Prop, Q x ⟨aw env, ak ⟨hp3, h3.nx⟩⟩ → zN Q ⟨aw env, ak ⟨hp3, h3.nx⟩⟩ pend) → r = .ev x env ⟨hp3, h3.nx⟩ →
              ∃ x env' h', r = .ev x env' h' /\ VH h' /\ ∀ Q:AX -> St -> Prop, Q x ⟨aw env', ak h'⟩ -> W E.P E.G n rd (.rangeFunc f ps asg body) Q ⟨aw env, ak h⟩ := by
            intro x hx he
            refine⟨x, env, _, he, hv4, fun Q hq => rule Q (hK _ ⟨sT hrd, _, hend, ?_⟩)⟩
            have := hx Q hq
            rw[hup]at this
            exact this
          unfold endLoop at hr4
          split at hr4
          · exact fin .normal (fun Q hq => hq) (Option.some.inj hr4).symm
          · exact fin .ret (fun Q hq => hq) (Option.some.inj hr4).symm
          · rename_i i; exact fin (.exit i) (fun Q hq => hq) (Option.some.inj hr4).symm
          · cases hr4
        · cases hr3
      · rename_i h2 hc
        obtain⟨x, h3, hcr, hv3, hK⟩ := kY hI hv1 hc
        obtain⟨rfl, rfl⟩ := hcr
        obtain⟨hrd, hr3⟩ := fk hr2
        exact⟨.panic, env, h3, (Option.some.inj hr3).symm, hv3, fun Q hq => rule Q (hK _ ⟨sT hrd, hq⟩)⟩
      · cases hr2
    · cases hr1
theorem KS (hE:EOk E):∀ fuel, fE E (Ar E fuel) := by
  intro fuel
  induction fuel with
  | zero => intro rd n c env h r hr; cases hr
  | succ f ih => exact KR hE ih
theorem KT (hE:EOk E){fuel:Nat}{f:FuncId}{args:List AVal}{v:AVal}(h:As E fuel f args = some v):ah E.P E.G f args bT fun r H' => ∃ u, r = .ret u /\ Fresh H' u v :=
  KC (KS hE fuel) h
end
end Go.Hx
namespace Go.Hx
open Go.ChangeShapes Go.WideShapes Go.RowKit
variable {P:Program} {G:Nat -> Option (List AVal)}
def eY:au := fun _ => none
def tX (P:Program)(G:Nat -> Option (List AVal))(W:World):Prop := ∀ g cells, G g = some cells -> RelV P eY bT W (.vptr cells 0) (.pointer (some ⟨g, 0, none⟩)) /\ ∃ c e f, W.heap[g]? = some (.cells c e f) /\ c.size = cells.length
theorem Dh {W:World}(hg:tX P G W):RelH P G eY bT W where
  arr _ _ _ _ h := by cases h
  loop _ _ _ _ _ _ _ _ h := by cases h
  mp _ _ h := by cases h
  rsv _ h := by cases h
  inj _ _ _ _ _ _ _ h := by cases h
  dom _ _ h := by cases h
  lt _ _ _ _ h := by cases h
  next _ _ h := by cases h
  glob g cells h := (hg g cells h).1
  gsz g cells h := (hg g cells h).2
theorem tY (b:Nat):¬ eY.dZ b := fun ⟨_, _, _, h⟩ => by cases h
theorem Di {f : FuncId} {args : List AVal} {cargs : Array Value} {W : World} (hA : ah P G f args bT fun r H' => ∃ u, r = .ret u ∧ Fresh H' u (.lit (.bool true))) (hg : tX P G W) (hr : cG P eY bT W args cargs) :
    Calls P f cargs W fun e W' => e = .returned (.bool true) /\ RowKit.Below W.heap.size W W' /\ ∀ a, a.block < W.heap.size -> W'.frozen? a = W.frozen? a := by
  refine callsIn_wide.1 ((hA.2 eY W cargs (Dh hg) hr).mono ?_)
  rintro e W' ⟨r, H', Γ', hend, ⟨u, rfl, hf⟩, _, E, _⟩
  cases e with
  | returned cv =>
    have hu:u = .lit (.bool true) := by cases hf; rfl
    subst hu
    cases hend
    exact⟨rfl, ⟨E.os, E.tape, E.output, E.size, fun k hk => (E.keep k hk (tY k)).1⟩, E.frz⟩
  | panicked => exact hend.elim
  | outgrown => exact hend.elim
theorem Dj {W W':World}(hb:RowKit.Below W.heap.size W W')(may:MemPlace -> Prop):W.keptBut W' may := by
  refine⟨hb.os, hb.output, fun i hi => ?_⟩
  rw[hb.block i hi]
  cases h:W.heap[i]? with
  | none => rfl
  | some o => cases o <;> first | exact rfl | exact⟨rfl, rfl, rfl, fun _ _ => rfl⟩ | exact .inr ⟨rfl, rfl⟩
theorem Dk {H : Type} {enc : TypeId × Value → H} (hl : laidOutB P = true) {W W' : World} (hb : RowKit.Below W.heap.size W W') {sp : Nat → Bool} : ∀ {ts : List TypeId} {vs : List Value} {ds : List (DataW H)} {ps : List MemPlace},
    ts.all (fun t => P.readableRec t && decide (t < P.types.size)) = true -> DataW.TrodAll enc P W 0 (fun _ => true) true ts vs ds ps -> (∀ x ∈ ps, x.block < W.heap.size) -> (∀ x ∈ ps, sp x.block = true) -> DataW.TrodAll enc P W' 0 sp true ts vs ds ps := by
  intro ts
  induction ts with
  | nil =>
    intro vs ds ps _ h _ _
    cases vs <;> cases ds <;> first | exact h | exact h.elim
  | cons t ts ih =>
    intro vs ds ps hok h hlt hsp
    simp only[List.all_cons, Q7, decide_eq_true_eq]at hok
    cases vs with
    | nil => cases ds <;> exact h.elim
    | cons v vs => cases ds with
      | nil => exact h.elim
      | cons d ds =>
        obtain⟨p, q, h1, h2, rfl⟩ := h
        refine⟨p, q, ?_, ih hok.2 h2 (fun x hx => hlt x (by simp [hx])) (fun x hx => hsp x (by simp [hx])), rfl⟩
        exact WideElems.Trod_stays hl hok.1.1 hok.1.2 h1 (fun x hx => hb.same (hlt x (by simp [hx]))) (fun x hx => hsp x (by simp [hx]))
theorem Dl {H : Type} {enc : TypeId × Value → H} {W : World} {base : Nat} {sp : Nat → Bool} {held : Bool} : ∀ {ts : List TypeId} {vs : List Value} {ds : List (DataW H)} {ps : List MemPlace},
    DataW.TrodAll enc P W base sp held ts vs ds ps -> vs.length = ts.length /\ ds.length = ts.length := by
  intro ts
  induction ts with
  | nil =>
    intro vs ds ps h
    cases vs <;> cases ds <;> first | exact⟨rfl, rfl⟩ | exact h.elim
  | cons t ts ih =>
    intro vs ds ps h
    cases vs with
    | nil => cases ds <;> exact h.elim
    | cons v vs => cases ds with
      | nil => exact h.elim
      | cons d ds =>
        obtain⟨p, q, _, h2, _⟩ := h
        obtain⟨h3, h4⟩ := ih h2
        exact⟨by simp [h3], by simp [h4]⟩
theorem Dm {H : Type} {enc : TypeId × Value → H} {f : Func} {s : ChangeSpec} {apart fresh handsOn again : Bool} {W W' : World} {args : Array Value} {ds gs : List (DataW H)} {before : List MemPlace} {t : TypeId}
    (hl:laidOutB P = true) (hok:f.params.toList.all (fun t => P.readableRec t && decide (t < P.types.size)) = true) (hvars:s.vars = []) (hrt:f.resultTypes = #[t]) (ht:P.underlying t = some .bool)
    (hs:∀ ds:List (DataW H), ds.length = f.params.toList.length -> s.fn H (ds ++ []) = { results := [.lit (.bool true)], args := ds })
    (hW:DataW.Whole enc P f.params.toList s.vars apart W args.toList ds gs before) (hb:RowKit.Below W.heap.size W W') (hfz:∀ a, a.block < W.heap.size -> W'.frozen? a = W.frozen? a):s.post enc P f apart fresh handsOn again W args (.bool true) W' := by
  have hW' := hW
  obtain⟨p, q, hA, hV, rfl, hz, hn⟩ := hW
  have hgs:gs = [] /\ q = [] := by
    rw[hvars]at hV
    cases gs with
    | nil => exact⟨rfl, hV⟩
    | cons => exact hV.elim
  obtain⟨rfl, rfl⟩ := hgs
  have hfn := hs ds (Dl hA).2
  have hlt:∀ x ∈ p, x.block < W.heap.size := fun x hx => by simpa using hW'.lt x (by simp [hx])
  have hres:∀ (b:Nat) (sp:Nat -> Bool) (hd:Bool), DataW.TrodAll enc P W' b sp hd f.resultTypes.toList ((Value.bool true).resultList f.resultTypes.size) (s.fn H (ds ++ [])).results [] := fun b sp hd => by
    rw[hfn, hrt]
    exact trodAll_mk1 (shut_bool ht true)
  have hargs:∀ sp:Nat -> Bool, (∀ x ∈ p, sp x.block = true) -> DataW.TrodAll enc P W' 0 sp true f.params.toList args.toList (s.fn H (ds ++ [])).args p := fun sp hsp => by
    rw[hfn]
    exact Dk hl hb hok hA hlt hsp
  have hva:∀ sp:Nat -> Bool, DataW.TrodVars enc P W' sp s.vars (s.fn H (ds ++ [])).vars [] := fun sp => by
    rw[hfn, hvars]
    exact rfl
  have hpp:p ++ [] = p := List.append_nil p
  have hold:∀ x ∈ p, (fun b => decide (b < W.heap.size)) x.block = true := fun x hx => by simpa using hlt x hx
  rw[hpp]at hW' hz hn
  refine⟨ds, [], p, [], p, [], hW', hres _ _ _, hargs _ hold, hva _, World.keptBut_mono (fun x hx => ⟨hx, .inr (.inl hx)⟩) (Dj hb _), fun _ => ⟨ok_one hrt rfl (okWide_bool_mk ht true), (s.fn H (ds ++ [])).results ++ (s.fn H (ds ++ [])).args, (s.fn H (ds ++ [])).vars, p, ?_, fun x hx _ => hx⟩⟩
  have hall := trodAll_append (hargs (fun _ => true) fun _ _ => rfl) (hres 0 (fun _ => true) true)
  refine⟨p, [], by simpa using hall, hva _, by simp, fun b off hx => ?_, fun ha => by simpa using hn ha⟩
  rw[hfz _ (hlt _ hx)]
  exact hz b off hx
end Go.Hx
namespace Go.Hx
variable {P:Program} {G:Nat -> Option (List AVal)}
abbrev iS := List (List AVal × AVal)
def iT (P:Program)(G:Nat -> Option (List AVal))(f:FuncId)(l:iS):Prop := ∀ p, p ∈ l -> ah P G f p.1 bT fun r H' => ∃ u, r = .ret u /\ Fresh H' u p.2
theorem iT.nil {f:FuncId}:iT P G f [] := fun _ h => by cases h
theorem iT.cons {f:FuncId}{p:List AVal × AVal}{l:iS}(h:ah P G f p.1 bT fun r H' => ∃ u, r = .ret u /\ Fresh H' u p.2)(hl:iT P G f l):iT P G f (p :: l) := fun q hq => by
  rcases List.mem_cons.1 hq with rfl | hq
  · exact h
  · exact hl q hq
theorem iT.append {f:FuncId}{l l':iS}(h:iT P G f l)(h':iT P G f l'):iT P G f (l ++ l') := fun q hq => (Q1.1 hq).elim (h q) (h' q)
noncomputable def sV (l:List (FuncId × iS))(f:FuncId):Option iS :=
  List.rec (motive := fun _ => Option iS) none (fun p _ ih => Bool.rec (motive := fun _ => Option iS) ih (some p.2) (Nat.beq p.1 f)) l
def wy (P:Program)(G:Nat -> Option (List AVal)):List (FuncId × iS) -> Prop
  | [] => True
  | p :: l => iT P G p.1 p.2 /\ wy P G l
theorem KU:∀ {l:List (FuncId × iS)}, wy P G l -> ∀ f t, sV l f = some t -> iT P G f t := by
  intro l
  induction l with
  | nil => intro _ f t h; cases h
  | cons p l ih =>
    intro ha f t h
    have h':Bool.rec (motive := fun _ => Option iS) (sV l f) (some p.2) (Nat.beq p.1 f) = some t := h
    cases hb:Nat.beq p.1 f with
    | true =>
      rw[hb]at h'
      have := QZ hb
      have h2:p.2 = t := Option.some.inj h'
      rw[<- this, <- h2]
      exact ha.1
    | false =>
      rw[hb]at h'
      exact ih ha.2 f t h'
theorem EOk.KV {E : EP} {l : List (FuncId × iS)} (hk : E.known = sV l) (gok : el E.G) (mixed : E.P.follows .mixedOrders = true)
    (gd:∀ f z, E.gd f = some z -> AJ E.P E.G f z) (ha:wy E.P E.G l) (hx:pS E := by exact pS.none rfl):EOk E :=
  ⟨gok, mixed, fun f t h a v hm => KU ha f t (by rw[<- hk]; exact h) (a, v) hm, gd, hx⟩
noncomputable def wz (E:EP)(fuel:Nat)(f:FuncId)(args:List AVal)(v:AVal):Bool := match As E fuel f args with
  | some u => nJ 40 u v
  | none => false
theorem KW {E:EP}{fuel:Nat}{f:FuncId}{args:List AVal}{v:AVal}(hE:EOk E)(h:wz E fuel f args v = true):ah E.P E.G f args bT fun r H' => ∃ u, r = .ret u /\ Fresh H' u v := by
  unfold wz at h
  split at h
  · rename_i u hu
    rw[<- AH 40 _ _ h]
    exact KT hE hu
  · cases h
end Go.Hx
namespace Go.Hx
variable {P:Program} {G:Nat -> Option (List AVal)} {Γ Γ':au} {H H':AHeap} {w w':World}
section
variable {n:Nat} {wb:Base} {rd rb:Option Nat} {Q:AX -> St -> Prop}
end
end Go.Hx
namespace Go.Hx
open Go.ChangeShapes Go.WideShapes Go.RowKit
variable {P:Program} {W:World} {H:Type} {enc:TypeId × Value -> H} {spare:Nat -> Bool} {held:Bool}
def fB (P:Program)(W:World)(as:List AVal)(cs:List Value):Prop := cs.length = as.length /\ ∀ i (h:i < as.length) (h':i < cs.length), RelV P eY bT W as[i] cs[i]
def dQ (enc:TypeId × Value -> H)(P:Program)(W:World)(spare:Nat -> Bool)(held:Bool)(t:TypeId)(φ:DataW H -> List AVal -> Prop):Prop :=
  ∀ fuel cs x, DataW.trod enc P W 0 spare held fuel t cs = some x -> ∃ as, fB P W as cs /\ φ x.1 as
theorem fB.nil:fB P W [] [] := ⟨rfl, fun i h _ => absurd h (Q5 _)⟩
theorem fB.one {a:AVal}{c:Value}(h:RelV P eY bT W a c):fB P W [a] [c] := ⟨rfl, fun i hi _ => by
  match i, hi with
  | 0, _ => exact h⟩
theorem fB.append {as bs:List AVal}{cs ds:List Value}(h1:fB P W as cs)(h2:fB P W bs ds):fB P W (as ++ bs) (cs ++ ds) := by
  refine⟨by simp [h1.1, h2.1], fun i h h' => ?_⟩
  by_cases hi:i < as.length
  · rw[RY hi, RY (by rw[h1.1]; exact hi)]
    exact h1.2 i hi _
  · have e := h1.1
    rw[Sb (by omega), Sb (by omega)]
    have := h2.2 (i - as.length) (by simp at h; omega) (by rw[h2.1]; simp at h; omega)
    simpa [e] using this
theorem me {t:TypeId}{k:IntKind}(ht:P.underlying t = some (.int k)):dQ enc P W spare held t fun d as => ∃ n, d = .lit (.int k n) /\ as = [.lit (.int k n)] /\ (Lit.int k n).wf = true := by
  intro fuel cs x h
  cases fuel with
  | zero => simp [DataW.trod]at h
  | succ n =>
    unfold DataW.trod at h
    rw[ht]at h
    split at h <;> simp_all
    rename_i k' n' _ _
    obtain⟨⟨rfl, hw⟩, rfl⟩ := h
    exact⟨_, .one (.lit _), _, rfl, rfl, hw⟩
theorem uG:∀ {rows:List (List AVal)} {css:List (List Value)}, css.length = rows.length -> (∀ i (h:i < rows.length) (h':i < css.length), fB P W rows[i] css[i]) -> fB P W rows.flatten css.flatten := by
  intro rows
  induction rows with
  | nil => intro css h _; obtain rfl := QT h; exact .nil
  | cons r rows ih =>
    intro css h h'
    match css, h with
    | c :: css, h =>
      simp only[List.flatten_cons]
      exact(h' 0 (by simp) (by simp)).append (ih (by simpa using h) fun i hi hi' => h' (i + 1) (by simpa using hi) (by simpa using hi'))
theorem uH {α:Type}{Q:Nat -> α -> Prop}:∀ n, (∀ i, i < n -> ∃ a, Q i a) -> ∃ l:List α, l.length = n /\ ∀ i (h:i < l.length), Q i l[i] := by
  intro n
  induction n with
  | zero => intro _; exact⟨[], rfl, fun i h => absurd h (Q5 _)⟩
  | succ n ih =>
    intro h
    obtain⟨l, hl, hq⟩ := ih fun i hi => h i (by omega)
    obtain⟨a, ha⟩ := h n (by omega)
    refine⟨l ++ [a], by simp [hl], fun i hi => ?_⟩
    by_cases hi':i < l.length
    · rw[RY hi']; exact hq i hi'
    · have:i = l.length := by simp at hi; omega
      subst this
      simp only[List.getElem_concat_length]
      rw[hl]; exact ha
theorem Eg {α:Type}{z:Nat}:∀ {rows:List (List α)}, (∀ i (h:i < rows.length), rows[i].length = z) -> rows.flatten.length = rows.length * z := by
  intro rows
  induction rows with
  | nil => intro _; simp
  | cons r rows ih =>
    intro h
    have h0 := h 0 (by simp)
    have := ih fun i hi => h (i + 1) (by simpa using hi)
    simp only[Rq]at h0
    simp only[List.flatten_cons, List.length_append, List.length_cons, this, h0, SM]
    omega
theorem Eh {α:Type}{z:Nat}:∀ {rows:List (List α)}, (∀ i (h:i < rows.length), rows[i].length = z) -> ∀ i j (hi:i < rows.length) (hj:j < z), rows.flatten[i * z + j]? = (rows[i])[j]? := by
  intro rows
  induction rows with
  | nil => intro _ i j hi; exact absurd hi (Q5 _)
  | cons r rows ih =>
    intro h i j hi hj
    have h0 := h 0 (by simp)
    simp only[Rq]at h0
    cases i with
    | zero => simp only[List.flatten_cons, Rq, Sj, Nat.zero_add]; rw[Q0 (by omega)]
    | succ i =>
      simp only[List.flatten_cons, SU]
      rw[Q2 (by rw[h0, SM]; omega), <- ih (fun i hi => h (i + 1) (by simpa using hi)) i j (by simpa using hi) hj]
      congr 1
      rw[h0, SM]; omega
def qR (φ:DataW H -> List AVal -> Prop)(ds:List (DataW H))(rows:List (List AVal)):Prop := ds.length = rows.length /\ ∀ i (h:i < rows.length) (h':i < ds.length), φ ds[i] rows[i]
theorem yZ {t e : TypeId} {φ : DataW H → List AVal → Prop} (ht : P.underlying t = some (.slice e)) (hz : 0 < P.cellsOf e) (he : dQ enc P W spare held e φ) :
    dQ enc P W spare held t fun d as => (d = .nil /\ as = [.vec 0 []]) \/ ∃ ds rest rows, d = .slice ds rest /\ as = [.vec rows.length rows.flatten] /\ qR φ ds rows /\ (∀ i (h:i < rows.length), rows[i].length = P.cellsOf e) /\ rows.length <= maxLen := by
  intro fuel cs x h
  rcases DataW.trod_slice ht h with ⟨rfl, rfl⟩ | ⟨a, len, cap, elems, rest, n, rfl, rfl, rfl, _, hl, hm, hlen, hel, _, _⟩
  · exact⟨_, .one (.vec0 _ _), .inl ⟨rfl, rfl⟩⟩
  have hrow:∀ i, i < len -> ∃ p:List Value × List AVal, W.cells? 0 (a.add (i * P.cellsOf e)) (P.cellsOf e) = some p.1 /\ fB P W p.2 p.1 /\ ∃ x, elems[i]? = some x /\ φ x.1 p.2 := by
    intro i hi
    have := hel i hi
    rw[QK (by omega), QO]at this
    obtain⟨cs, hc, hx⟩ := this
    obtain⟨as, ha, hφ⟩ := he _ _ _ hx
    exact⟨(cs, as), hc, ha, _, QK (by omega), hφ⟩
  obtain⟨l, hll, hQ⟩ := uH len hrow
  have hzr:∀ i (h:i < (l.map Prod.snd).length), (l.map Prod.snd)[i].length = P.cellsOf e := by
    intro i h
    simp only[QX]at h
    simp only[QY]
    obtain⟨hc, hr, _⟩ := hQ i h
    rw[<- hr.1]; exact(World.cells?_some hc).2.1
  have hzc:∀ i (h:i < (l.map Prod.fst).length), (l.map Prod.fst)[i].length = P.cellsOf e := by
    intro i h
    simp only[QX]at h
    simp only[QY]
    exact(World.cells?_some (hQ i h).1).2.1
  refine⟨[.vec (l.map Prod.snd).length (l.map Prod.snd).flatten], .one ?_, .inr ⟨_, _, l.map Prod.snd, rfl, rfl, ⟨by simp [hll, hlen], fun i h h' => ?_⟩, hzr, by simp only[QX]; omega⟩⟩
  · rcases Sf len with h0 | h0
    · subst h0
      obtain rfl := QT hll
      exact .vec0 _ _
    have hrc:fB P W (l.map Prod.snd).flatten (l.map Prod.fst).flatten := uG (by simp) fun i h h' => by
      simp only[QX]at h
      simp only[QY]
      exact(hQ i h).2.1
    have hla:(l.map Prod.snd).length = len := by simp [hll]
    have hsp:∀ i, i < len -> ∀ j, j < P.cellsOf e -> ∃ v, W.cell? ((a.add (i * P.cellsOf e)).add j) = some v /\ (l.map Prod.fst).flatten[i * P.cellsOf e + j]? = some v := by
      intro i hi j hj
      obtain⟨hc, _⟩ := hQ i (by omega)
      obtain⟨_, hcl, hcell⟩ := World.cells?_some hc
      refine⟨(l[i]'(by omega)).1[j]'(by omega), ?_, ?_⟩
      · rw[hcell j hj, QK]
      · rw[Eh hzc i j (by simp; omega) hj]
        simp only[QY]
        rw[QK]
    have hspot:a.spot = none := by
      obtain⟨v, hv, _⟩ := hsp 0 h0 0 hz
      unfold World.cell? at hv
      split at hv
      · split at hv
        · cases hv
        · rename_i hs; simpa [Addr.add] using hs
      · cases hv
    obtain⟨b, off, spot⟩ := a
    simp only at hspot
    subst hspot
    have hadd:∀ (b off n:Nat), (⟨b, off, none⟩:Addr).add n = ⟨b, off + n, none⟩ := by
      intro b off n
      unfold Addr.add
      by_cases hn:n = 0
      · subst hn; simp
      · simp [hn]
    have hlt:b < W.heap.size := by
      obtain⟨v, hv, _⟩ := hsp 0 h0 0 hz
      rw[hadd, hadd]at hv
      unfold World.cell? at hv
      rcases Q3 b W.heap.size with h | h
      · exact h
      · rw[RK h]at hv; cases hv
    rw[hla]
    refine .vec (tY b) hlt hl hrc.1 (fun i hi => ?_) fun i h h' => hrc.2 i h h'
    have hlc := Eg hzc
    simp only[QX, hll]at hlc
    have hi':i < len * P.cellsOf e := by omega
    obtain⟨v, hv, hg⟩ := hsp (i / P.cellsOf e) (Nat.div_lt_of_lt_mul (by rw[Sd]; exact hi')) (i % P.cellsOf e) (Nat.mod_lt _ hz)
    have hdm:i / P.cellsOf e * P.cellsOf e + i % P.cellsOf e = i := by rw[Sd]; exact Nat.div_add_mod _ _
    rw[hdm]at hg
    rw[QK hi]at hg
    rw[Option.some.inj hg, <- hv, hadd, hadd]
    congr 2
    omega
  · simp only[QX]at h h'
    obtain⟨_, _, y, hy, hφ⟩ := hQ i h
    simp only[QY]
    rw[QK h']at hy
    rw[Option.some.inj hy]
    exact hφ
theorem Ei {α:Type}{z:Nat}:∀ {n:Nat} {cs:List α}, cs.length = n * z -> ((List.range n).map fun i => (cs.drop (i * z)).take z).flatten = cs := by
  intro n
  induction n with
  | zero => intro cs h; simp at h; subst h; rfl
  | succ n ih =>
    intro cs h
    have h1:(cs.take (n * z)).length = n * z := by rw[QV, h, SM]; omega
    have := ih h1
    rw[Sr, RN, List.flatten_append]
    have e:((List.range n).map fun i => (cs.drop (i * z)).take z) = (List.range n).map fun i => ((cs.take (n * z)).drop (i * z)).take z := by
      refine Rm fun i hi => ?_
      have hi' := QW.1 hi
      rw[List.drop_take, List.take_take]
      congr 1
      have:i * z + z <= n * z := by rw[<- SM]; exact Ri _ hi'
      omega
    rw[e, this]
    simp only[List.map_cons, List.map_nil, List.flatten_cons, List.flatten_nil, List.append_nil]
    rw[QP (l := cs.drop (n * z)) (by simp [h, SM])]
    exact RW _ _
theorem y1 {t e : TypeId} {n : Nat} {φ : DataW H → List AVal → Prop} (ht : P.underlying t = some (.array n e)) (hz : P.cellsOf t = n * P.cellsOf e) (he : dQ enc P W spare held e φ) :
    dQ enc P W spare held t fun d as => ∃ ds rows, d = .agg ds /\ as = rows.flatten /\ qR φ ds rows /\ rows.length = n /\ ∀ i (h:i < rows.length), rows[i].length = P.cellsOf e := by
  intro fuel cs x h
  obtain⟨xs, m, rfl, rfl, hcl, hxl, hel⟩ := DataW.trod_array ht h
  have hrow:∀ i, i < n -> ∃ as:List AVal, fB P W as ((cs.drop (i * P.cellsOf e)).take (P.cellsOf e)) /\ ∃ x, xs[i]? = some x /\ φ x.1 as := by
    intro i hi
    have := hel i hi
    rw[QK (by omega)]at this
    obtain⟨as, ha, hφ⟩ := he _ _ _ this
    exact⟨as, ha, _, QK (by omega), hφ⟩
  obtain⟨l, hll, hQ⟩ := uH n hrow
  refine⟨l.flatten, ?_, _, l, rfl, rfl, ⟨by simp [hxl, hll], fun i h h' => ?_⟩, hll, fun i h => ?_⟩
  · rw[<- Ei (n := n) (hcl.trans hz)]
    refine uG (by simp [hll]) fun i h h' => ?_
    simp only[QY, List.getElem_range]
    exact(hQ i h).1
  · obtain⟨_, y, hy, hφ⟩ := hQ i h
    simp only[QX]at h'
    simp only[QY]
    rw[QK h']at hy
    rw[Option.some.inj hy]
    exact hφ
  · obtain⟨hr, _⟩ := hQ i h
    rw[<- hr.1, QV, Rr, hcl, hz]
    have:i * P.cellsOf e + P.cellsOf e <= n * P.cellsOf e := by rw[<- SM]; exact Ri _ (by omega)
    omega
theorem y2 {t : TypeId} {fs : Array Field} {φ : Nat → DataW H → List AVal → Prop} (ht : P.underlying t = some (.struct fs))
    (hlay:∀ cs:List Value, cs.length = P.cellsOf t -> (fs.toList.map fun f => (cs.drop f.offset).take (P.cellsOf f.type)).flatten = cs)
    (he:∀ i (h:i < fs.size), dQ enc P W spare held fs[i].type (φ i)):
    dQ enc P W spare held t fun d as => ∃ (ds:List (DataW H)) (rows:List (List AVal)), d = .agg ds /\ as = rows.flatten /\ ds.length = fs.size /\ rows.length = fs.size /\ ∀ i (h:i < rows.length) (h':i < ds.length), φ i ds[i] rows[i] := by
  intro fuel cs x h
  obtain⟨xs, m, rfl, rfl, hcl, hxl, hel⟩ := DataW.trod_struct ht h
  have hrow:∀ i, i < fs.size -> ∃ as:List AVal, (∀ h:i < fs.size, fB P W as ((cs.drop fs[i].offset).take (P.cellsOf fs[i].type))) /\ ∃ x, xs[i]? = some x /\ φ i x.1 as := by
    intro i hi
    have := hel i fs[i] (QS hi)
    rw[QK (by omega)]at this
    obtain⟨as, ha, hφ⟩ := he i hi _ _ _ this
    exact⟨as, fun _ => ha, _, QK (by omega), hφ⟩
  obtain⟨l, hll, hQ⟩ := uH fs.size hrow
  refine⟨l.flatten, ?_, _, l, rfl, rfl, by simp [hxl], hll, fun i h h' => ?_⟩
  · rw[<- hlay cs hcl]
    refine uG (by simp [hll]) fun i h h' => ?_
    simp only[QY, RC]
    exact(hQ i h).1 (by omega)
  · obtain⟨_, y, hy, hφ⟩ := hQ i h
    simp only[QX]at h'
    simp only[QY]
    rw[QK h']at hy
    rw[Option.some.inj hy]
    exact hφ
theorem Ej {name : String} {d : DataW Unit} {g : Nat} {t : TypeId} {φ : DataW Unit → List AVal → Prop} {r : List (String × DataW Unit)} {ps : List MemPlace}
    (hg:P.globalNamed name = some g) (ht:(P.globals[g]?).map (·.type) = some t) (hop:dQ (fun _ => ()) P W (fun _ => true) false t φ)
    (h:DataW.LaidVars P W ((name, d) :: r) ps):(∃ as, φ d as /\ RelV P eY bT W (.vptr as 0) (.pointer (some ⟨g, 0, none⟩)) /\ ∃ c e f, W.heap[g]? = some (.cells c e f) /\ c.size = as.length) /\ ∃ ps, DataW.LaidVars P W r ps := by
  obtain⟨g', t', cs, fuel, p, q, h1, h2, h3, h4, h5, _⟩ := h
  rw[hg]at h1
  cases h1
  rw[ht]at h2
  cases h2
  obtain⟨as, hr, hφ⟩ := hop _ _ _ h4
  refine⟨⟨as, hφ, ?_, ?_⟩, _, h5⟩
  rotate_left
  · have h3' := h3
    unfold World.var? at h3'
    rw[hg]at h3'
    simp only[Option.bind_some]at h3'
    split at h3'
    · rename_i c e f hc
      cases h3'
      exact⟨_, _, _, hc, by simpa using hr.1⟩
    · cases h3'
  have hcell := fun i => World.var?_cell hg h3 i
  have hlt:g < W.heap.size := by
    unfold World.var? at h3
    rw[hg]at h3
    simp only[Option.bind_some]at h3
    rcases Q3 g W.heap.size with h | h
    · exact h
    · rw[RK h]at h3; cases h3
  have := RelV.vptr (P := P) (Γ := eY) (H := bT) (w := W) (cells := as) (off := 0) (b := g) (o := 0) (cs := cs.toList) (tY g) hlt hr.1 (fun i hi => by
    rw[Nat.zero_add, hcell i]
    simp only[Sa]at hi
    simp [QS hi]) hr.2
  simpa using this
end Go.Hx
namespace Go.Hx
variable {P:Program} {G:Nat -> Option (List AVal)} {H:AHeap}
theorem I9 (l:List AVal)(i:Nat):jG (.tup l) i = l[i]? := rfl
theorem Ja (cells:List AVal)(off:Nat):iH H (.vptr cells off) = some (.vptr cells off) := rfl
theorem Jb (id gen off:Nat):iH H (.ptr id gen off) = (H.live id gen).map fun _ => .ptr id gen off := by
  simp only[iH]
theorem Jc (t:TypeId)(f:Nat)(id gen off:Nat):nt P H t f (.ptr id gen off) = (bW P t f).bind fun of => (H.live id gen).map fun _ => .ptr id gen (off + of.1) := rfl
theorem Jd (t:TypeId)(f:Nat)(cells:List AVal)(off:Nat):nt P H t f (.vptr cells off) = (bW P t f).bind fun of => some (.vptr cells (off + of.1)) := rfl
def cM (H:AHeap)(L:List Blk)(e:TypeId)(lo hi:Nat)(v:AVal)(cs:List AVal):Prop :=
  (v = .lit (.slice none 0 0) /\ cs = []) \/ ∃ i g, lo <= i /\ i < hi /\ v = .own (H.next + i) g 0 cs.length 1 /\ L[i]? = some (.arr g e cs)
theorem cM.nil {L:List Blk}{e:TypeId}{lo hi:Nat}:cM H L e lo hi (.lit (.slice none 0 0)) [] := .inl ⟨rfl, rfl⟩
theorem cM.keep {L L' : List Blk} {e : TypeId} {lo hi lo' hi' : Nat} {v : AVal} {cs : List AVal} (h : cM H L e lo hi v cs) (hl : lo' ≤ lo) (hh : hi ≤ hi') (hk : ∀ i g, lo ≤ i → i < hi → L[i]? = some (.arr g e cs) → L'[i]? = L[i]?) :
    cM H L' e lo' hi' v cs := by
  rcases h with h | ⟨i, g, h1, h2, h3, h4⟩
  · exact .inl h
  · exact .inr ⟨i, g, by omega, by omega, h3, by rw[hk i g h1 h2 h4]; exact h4⟩
theorem cM.fz {S : Nat → Prop} {L : List Blk} {e : TypeId} {lo hi : Nat} {v : AVal} {cs cs' : List AVal} {nx : Nat} (h : cM H L e lo hi v cs) (hS : ∀ i, S (H.next + i)) (hl : cs'.length = cs.length)
    (hc:∀ i (h:i < cs.length) (h':i < cs'.length), Fz S (ext H L) nx cs[i] cs'[i]):Fz S (ext H L) nx v (.vec cs'.length cs') := by
  rcases h with ⟨rfl, rfl⟩ | ⟨i, g, _, _, rfl, h4⟩
  · obtain rfl := QT hl
    exact .nil
  · rw[hl]
    have hi:i < L.length := by
      rcases Q3 i L.length with h' | h'
      · exact h'
      · rw[QR h']at h4; cases h4
    refine .frz (hS i) (by rw[bP H L i hi]; exact h4) (by omega) fun j hj h2 h' => ?_
    simp only[Nat.zero_add]at h2 ⊢
    exact hc j h2 h'
end Go.Hx
namespace Go.Hx
variable {P:Program} {G:Nat -> Option (List AVal)} {H:AHeap}
def uY (P:Program)(s d:TypeId)(x:Bool)(y:Option TypeDesc)(v:AVal):Option AVal :=
  if x = true then (match y, v with
    | some (.int k'), .lit (.int _ a) => some (.lit (.int k' (k'.wrap a)))
    | _, _ => iX P s d v) else iX P s d v
theorem Je (s d:TypeId)(v:AVal):iX P s d v = uY P s d (P.underlying s).isSome (P.underlying d) v := by
  unfold uY
  split
  · rename_i hs
    split
    · rename_i k' k a hd
      exact Gk hs hd
    · rfl
  · rfl
theorem Jf (s d:TypeId)(k k':IntKind)(a:Int):uY P s d true (some (.int k')) (.lit (.int k a)) = some (.lit (.int k' (k'.wrap a))) := rfl
def zU (P:Program)(d:Option TypeDesc)(cells:List AVal)(i:Int):Option AVal := match d with
  | some (.array n e) => if 0 <= i /\ i < (n:Int) then dL P e cells (i.toNat * P.cellsOf e) else none
  | _ => none
theorem Jg (t:TypeId)(cells:List AVal)(k:IntKind)(i:Int):kD P t (.agg cells) (.lit (.int k i)) = zU P (P.underlying t) cells i := rfl
theorem Jh (n:Nat)(e:TypeId)(cells:List AVal)(i:Int):zU P (some (.array n e)) cells i = if 0 <= i /\ i < (n:Int) then dL P e cells (i.toNat * P.cellsOf e) else none := rfl
theorem aq {id g:Nat}{e:TypeId}{c:List AVal}(h:H.get id = some (.arr g e c)):H.live id g = some (e, c) := by
  unfold AHeap.live; rw[h]; simp
theorem aV (a:Nat)(x:Blk):(H.upd a x).next = H.next := rfl
theorem jb {L:List Blk}{id g:Nat}(h:id < H.next):(ext H L).live id g = H.live id g := by
  unfold AHeap.live; rw[jN H L id h]
def mi (H:AHeap)(L:List Blk)(e1 e0:TypeId)(v:AVal)(rows:List (List AVal)):Prop :=
  ∃ cs:List AVal, cM H L e1 0 L.length v cs /\ cs.length = rows.length /\ ∀ (j:Nat) (r:List AVal) (c:AVal), rows[j]? = some r -> cs[j]? = some c -> cM H L e0 0 L.length c r
theorem mi.nil {L:List Blk}{e1 e0:TypeId}:mi H L e1 e0 (.lit (.slice none 0 0)) [] := ⟨[], .nil, rfl, fun j r c h => by simp at h⟩
theorem cM.lt {L:List Blk}{e:TypeId}{lo hi i g n z:Nat}{cs:List AVal}(h:cM H L e lo hi (.own (H.next + i) g 0 n z) cs):i < L.length /\ L[i]? = some (.arr g e cs) /\ n = cs.length /\ z = 1 := by
  rcases h with ⟨h, _⟩ | ⟨j, g2, _, _, h3, h4⟩
  · cases h
  · have := AVal.own.inj h3
    obtain rfl:i = j := by omega
    obtain⟨_, rfl, _, rfl, rfl⟩ := this
    refine⟨?_, h4, rfl, rfl⟩
    rcases Q3 i L.length with h | h
    · exact h
    · rw[QR h]at h4; cases h4
theorem cM.uZ {L L' : List Blk} {e e' : TypeId} {lo hi lo' hi' : Nat} {v u : AVal} {cs cs' : List AVal} (hv : cM H L e lo hi v cs) (hu : cM H L e' lo' hi' u cs') (hne : e ≠ e') (hh : hi' ≤ L.length)
    (hp:∀ k, k < L.length -> (∀ g n, v ≠ .own (H.next + k) g 0 n 1) -> L'[k]? = L[k]?):cM H L' e' lo' hi' u cs' := by
  refine hu.keep (Nat.le_refl _) (Nat.le_refl _) fun i g h1 h2 h3 => hp i (by omega) fun g' n he => ?_
  rcases hv with ⟨rfl, _⟩ | ⟨j, g2, _, _, rfl, h4⟩
  · cases he
  · have hj : j = i := by
      have := AVal.own.inj he
      omega
    subst hj
    rw[h3]at h4
    cases h4
    exact hne rfl
theorem cM.lZ {L:List Blk}{e:TypeId}{lo hi:Nat}{v:AVal}{cs:List AVal}(hv:cM H L e lo hi v cs):v.one = true := by
  rcases hv with ⟨rfl, _⟩ | ⟨_, _, _, _, rfl, _⟩ <;> rfl
theorem cM.jc {L:List Blk}{e:TypeId}{lo hi:Nat}{v:AVal}{cs:List AVal}(hv:cM H L e lo hi v cs):v.cells = [v] := by
  rcases hv with ⟨rfl, _⟩ | ⟨_, _, _, _, rfl, _⟩ <;> rfl
theorem cM.other {L L' : List Blk} {e e' : TypeId} {lo hi lo' hi' : Nat} {v u : AVal} {cs cs' : List AVal} (hv : cM H L e lo hi v cs) (hu : cM H L e' lo' hi' u cs') (hne : e ≠ e') (hh : hi' ≤ L.length)
    (hp:∀ k, k < L.length -> (∀ g n, v ≠ .own (H.next + k) g 0 n 1) -> L'[k]? = L[k]?):cM H L' e' lo' hi' u cs' := hv.uZ hu hne hh hp
theorem cM.one {L:List Blk}{e:TypeId}{lo hi:Nat}{v:AVal}{cs:List AVal}(hv:cM H L e lo hi v cs):v.one = true := hv.lZ
theorem cM.cells {L:List Blk}{e:TypeId}{lo hi:Nat}{v:AVal}{cs:List AVal}(hv:cM H L e lo hi v cs):v.cells = [v] := hv.jc
theorem mi.keep {L L':List Blk}{e1 e0:TypeId}{v:AVal}{rows:List (List AVal)}(h:mi H L e1 e0 v rows)(hl:L.length <= L'.length)(hk:∀ i, i < L.length -> L'[i]? = L[i]?):mi H L' e1 e0 v rows := by
  obtain⟨cs, c1, c2, c3⟩ := h
  exact⟨cs, c1.keep (Nat.le_refl _) hl fun i _ _ hi _ => hk i hi, c2, fun j r c hr hc => (c3 j r c hr hc).keep (Nat.le_refl _) hl fun i _ _ hi _ => hk i hi⟩
theorem mi.fz {S : Nat → Prop} {L : List Blk} {e1 e0 : TypeId} {v : AVal} {rows rows' : List (List AVal)} {nx : Nat} (h : mi H L e1 e0 v rows) (hS : ∀ i, S (H.next + i)) (hl : rows'.length = rows.length)
    (hr:∀ (j:Nat) (r r':List AVal), rows[j]? = some r -> rows'[j]? = some r' -> r'.length = r.length /\ ∀ i (h:i < r.length) (h':i < r'.length), Fz S (ext H L) nx r[i] r'[i]):
    Fz S (ext H L) nx v (.vec rows'.length (rows'.map fun r => .vec r.length r)) := by
  obtain⟨cs, h1, h2, h3⟩ := h
  have := h1.fz (S := S) (nx := nx) (cs' := rows'.map fun r => .vec r.length r) hS (by simp [h2, hl]) fun i hi hi' => by
    simp only[QY]
    have hi2:i < rows.length := by omega
    have hi3:i < rows'.length := by omega
    obtain⟨a1, a2⟩ := hr i rows[i] rows'[i] (QK hi2) (QK hi3)
    exact(h3 i rows[i] cs[i] (QK hi2) (QK hi)).fz (S := S) (nx := nx) (cs' := rows'[i]) hS a1 a2
  rw[QX]at this
  exact this
theorem Ji (H:AHeap)(L L':List Blk):ext (ext H L) L' = ext H (L ++ L') := by
  unfold ext
  simp only[List.length_append]
  congr 1
  · funext j
    by_cases h1:H.next + L.length <= j /\ j < H.next + L.length + L'.length
    · rw[QN h1, QN (by omega), Q2 (by omega)]
      congr 1
      omega
    · rw[QQ h1]
      by_cases h2:H.next <= j /\ j < H.next + L.length
      · rw[QN h2, QN (by omega), Q0 (by omega)]
      · rw[QQ h2, QQ (by omega)]
  · omega
theorem Jj (t:TypeId)(id g o l z:Nat):iL P t (.own id g o l z) = if jM (P.underlying t) = true then [id] else [] := by
  unfold iL
  cases h:P.underlying t with
  | none => rfl
  | some d => cases d <;> rfl
structure Over (H H2:AHeap):Prop where
  next:H.next <= H2.next
  old:∀ id, id < H.next -> H2.get id = H.get id
theorem Over.refl (H:AHeap):Over H H := ⟨Nat.le_refl _, fun _ _ => rfl⟩
theorem Over.trans {H H2 H3:AHeap}(a:Over H H2)(b:Over H2 H3):Over H H3 :=
  ⟨Ry a.next b.next, fun id h => (b.old id (QU h a.next)).trans (a.old id h)⟩
theorem Over.ext (H:AHeap)(L:List Blk):Over H (ext H L) := ⟨by simp [dk], fun id h => jN H L id h⟩
theorem Jk {H H2:AHeap}(hc:Clo H)(ho:Over H H2):FzH (fun id => H.next <= id) H2 H where
  gone id hs := by
    cases h:H.get id with
    | none => rfl
    | some b => have := hc.lt id b h; omega
  kept id b hs hb := by
    have hlt:id < H.next := SJ hs
    rw[ho.old id hlt]at hb
    have hbb := hc.below id b hb
    refine⟨hlt, b, hb, ?_⟩
    have hno:∀ i, i < H.next -> ¬ H.next <= i := fun i h => Nat.not_le_of_lt h
    cases b with
    | rsv => trivial
    | mp => rfl
    | arr g e cells => exact⟨rfl, rfl, rfl, fun i h _ => .refl (hbb i h) hno⟩
    | loop st pend n env ps asg body => exact⟨rfl, rfl, rfl, rfl, rfl, rfl, rfl, fun t ht => .refl (hbb t ht) hno⟩
  none id hs hb := by
    rw[ho.old id (SJ hs)]at hb
    exact hb
theorem az.cC {H2:AHeap}(hG:el G)(hc:Clo H)(ho:Over H H2){K:ARes -> AHeap -> Prop}{v v':AVal}(hv:Fz (fun id => H.next <= id) H2 H.next v v')(hk:K (.ret v') H):az P G H K v H2 :=
  ⟨v', H, .freeze hG (Jk hc ho) hv, Nat.le_refl _, hk⟩
theorem Fz.old {H H2:AHeap}{nx:Nat}{v:AVal}(h:Below H.next v)(hn:H.next <= nx):Fz (fun id => H.next <= id) H2 nx v v := by
  induction h with
  | lit v => exact .lit v
  | vec _ ih => exact .vec rfl fun i h _ => ih i h
  | vptr _ ih => exact .vptr rfl fun i h _ => ih i h
  | agg _ ih => exact .agg rfl fun i h _ => ih i h
  | tup _ ih => exact .tup rfl fun i h _ => ih i h
  | clo _ _ ih1 ih2 => exact .clo rfl rfl (fun i h _ => ih1 i h) fun i h _ => ih2 i h
  | own h => exact .own (by omega) (by omega)
  | ptr h => exact .ptr (by omega) (by omega)
  | yld h => exact .yld (by omega) (by omega)
theorem Fz.put {S:Nat -> Prop}{H:AHeap}{nx d:Nat}{ρ ρ':Env}{v v':AVal}(h:∀ t, Fz S H nx (ρ t) (ρ' t))(hv:Fz S H nx v v'):∀ t, Fz S H nx (ay ρ (some d) v t) (ay ρ' (some d) v' t) := by
  intro t
  simp only[ay]
  split
  · exact hv
  · exact h t
theorem Fz.aD {S:Nat -> Prop}{H:AHeap}{nx:Nat}(rows:List (List Int)):Fz S H nx (.vec rows.length (rows.map ag)) (.vec rows.length (rows.map ag)) :=
  .vec rfl fun i h _ => by simp only[QY]; exact .ik _
theorem Fz.env {S:Nat -> Prop}{H:AHeap}{nx:Nat}{args args':List AVal}(hl:args'.length = args.length)(h:∀ i (h:i < args.length) (h':i < args'.length), Fz S H nx args[i] args'[i]):∀ t, Fz S H nx (fA args t) (fA args' t) := by
  intro t
  rw[uN, uN]
  by_cases ht:t < args.length
  · rw[QK ht, QK (by omega)]
    exact h t ht (by omega)
  · rw[QR (by omega), QR (by omega)]
    exact .lit _
end Go.Hx
namespace Go.Hx
open Go.ChangeShapes Go.WideShapes Go.RowKit
variable {P:Program} {W:World} {H:Type} {enc:TypeId × Value -> H} {spare:Nat -> Bool} {held:Bool}
theorem dQ.mono {t:TypeId}{φ ψ:DataW H -> List AVal -> Prop}(h:dQ enc P W spare held t φ)(hm:∀ d as, φ d as -> ψ d as):dQ enc P W spare held t ψ := fun fuel cs x hx =>
  let ⟨as, h1, h2⟩ := h fuel cs x hx; ⟨as, h1, hm _ _ h2⟩
def mf (k:IntKind)(l:List Int):List AVal := l.map fun n => .lit (.int k n)
theorem uI {α : Type} {φ : DataW H → List AVal → Prop} {f : α → List AVal} {q : α → Prop} (hφ : ∀ d as, φ d as → ∃ a, as = f a ∧ q a) : ∀ {rows : List (List AVal)} {ds : List (DataW H)}, qR φ ds rows →
    ∃ l:List α, rows = l.map f /\ ∀ a, a ∈ l -> q a := by
  intro rows
  induction rows with
  | nil => intro ds _; exact⟨[], rfl, fun a h => by cases h⟩
  | cons r rows ih =>
    intro ds h
    obtain⟨h1, h2⟩ := h
    cases ds with
    | nil => simp at h1
    | cons d ds =>
      obtain⟨a, ha, hq⟩ := hφ _ _ (h2 0 (by simp) (by simp))
      obtain⟨l, hl, hq2⟩ := ih (ds := ds) ⟨by simpa using h1, fun i hi hi' => h2 (i + 1) (by simpa using hi) (by simpa using hi')⟩
      refine⟨a :: l, by simp only[List.map_cons, <- hl]; simp only[Rq]at ha; rw[ha], fun b hb => ?_⟩
      rcases List.mem_cons.1 hb with rfl | hb
      · exact hq
      · exact hq2 b hb
theorem y5 {α β:Type}(f:α -> β)(l:List α):(l.map fun a => [f a]).flatten = l.map f := by
  induction l with
  | nil => rfl
  | cons a l ih => simp only[List.map_cons, List.flatten_cons, ih]; rfl
theorem y6 {t e : TypeId} {k : IntKind} (ht : P.underlying t = some (.slice e)) (he : P.underlying e = some (.int k)) (hc : P.cellsOf e = 1) :
    dQ enc P W spare held t fun _ as => ∃ l:List Int, as = [.vec l.length (mf k l)] /\ l.length <= maxLen /\ ∀ c, c ∈ l -> (Lit.int k c).wf = true :=
  (yZ ht (by omega) (me he)).mono fun d as h => by
    rcases h with ⟨_, rfl⟩ | ⟨ds, rest, rows, _, rfl, hr, _, hl⟩
    · exact⟨[], rfl, by decide, fun c h => by cases h⟩
    · obtain⟨l, rfl, hq⟩ := uI (f := fun n => [AVal.lit (.int k n)]) (q := fun n => (Lit.int k n).wf = true) (fun d as ⟨n, _, h2, h3⟩ => ⟨n, h2, h3⟩) hr
      refine⟨l, ?_, by simpa using hl, hq⟩
      rw[QX]
      congr 2
      exact y5 _ l
theorem y7 {t e : TypeId} {k : IntKind} {n : Nat} (ht : P.underlying t = some (.array n e)) (he : P.underlying e = some (.int k)) (hc : P.cellsOf e = 1) (hz : P.cellsOf t = n) :
    dQ enc P W spare held t fun _ as => ∃ l:List Int, as = mf k l /\ l.length = n /\ ∀ c, c ∈ l -> (Lit.int k c).wf = true :=
  (y1 ht (by rw[hz, hc, Nat.mul_one]) (me he)).mono fun d as h => by
    obtain⟨ds, rows, _, rfl, hr, hl, _⟩ := h
    obtain⟨l, rfl, hq⟩ := uI (f := fun n => [AVal.lit (.int k n)]) (q := fun n => (Lit.int k n).wf = true) (fun d as ⟨n, _, h2, h3⟩ => ⟨n, h2, h3⟩) hr
    exact⟨l, y5 _ l, by simpa using hl, hq⟩
theorem y8 {r : Reach} {b : Nat} {t : TypeId} {v : Value} {d : DataW H} {ps : List MemPlace} {φ : DataW H → List AVal → Prop} (hop : dQ enc P W spare held t φ)
    (ht:(∃ fs, P.underlying t = some (.struct fs)) \/ ∃ n e, P.underlying t = some (.array n e)) (hval:Value.okWide P W r b t v) (hd:DataW.Trod enc P W 0 spare held t v d ps):
    ∃ as, RelV P eY bT W (.agg as) v /\ φ d as := by
  obtain⟨cs, rfl⟩:∃ cs, v = .agg cs := by
    unfold Value.okWide at hval
    rcases ht with ⟨fs, ht⟩ | ⟨n, e, ht⟩
    · rw[ht]at hval; obtain⟨cs, h, _⟩ := hval; exact⟨cs, h⟩
    · rw[ht]at hval; obtain⟨cs, h, _⟩ := hval; exact⟨cs, h⟩
  obtain⟨fuel, hf⟩ := hd
  obtain⟨as, hr, hφ⟩ := hop _ _ _ hf
  refine⟨as, ?_, hφ⟩
  have := RelV.agg (P := P) (Γ := eY) (H := bT) (w := W) (cells := as) (cs := cs.toList) hr.1 hr.2
  simpa using this
theorem Ek {r : Reach} {b : Nat} {t : TypeId} {v : Value} {d : DataW H} {ps : List MemPlace} {φ : DataW H → List AVal → Prop} {ψ : AVal → Prop} (hop : dQ enc P W spare held t φ) (h1 : ∀ d as, φ d as → ∃ a, as = [a] ∧ ψ a)
    (hno:∀ cs, ¬ Value.okWide P W r b t (.agg cs)) (hval:Value.okWide P W r b t v) (hd:DataW.Trod enc P W 0 spare held t v d ps):∃ a, RelV P eY bT W a v /\ ψ a := by
  have hc:v.cells.toList = [v] := by
    cases v with
    | agg cs => exact absurd hval (hno cs)
    | _ => rfl
  obtain⟨fuel, hf⟩ := hd
  rw[hc]at hf
  obtain⟨as, hr, hφ⟩ := hop _ _ _ hf
  obtain⟨a, rfl, hψ⟩ := h1 _ _ hφ
  exact⟨a, hr.2 0 (by simp) (by simp), hψ⟩
theorem El {r:Reach}{b:Nat}{t:TypeId}{k:IntKind}(ht:P.underlying t = some (.int k))(cs:Array Value):¬ Value.okWide P W r b t (.agg cs) := fun h => by
  obtain⟨n, hn⟩ := okWide_int ht h; cases hn
theorem qS {r : Reach} {b : Nat} {t : TypeId} {k : IntKind} {v : Value} {d : DataW H} {ps : List MemPlace} (ht : P.underlying t = some (.int k)) (hval : Value.okWide P W r b t v) (hd : DataW.Trod enc P W 0 spare held t v d ps) :
    ∃ n, RelV P eY bT W (.lit (.int k n)) v /\ (Lit.int k n).wf = true := by
  obtain⟨a, h1, n, rfl, h2⟩ := Ek (ψ := fun a => ∃ n, a = .lit (.int k n) /\ (Lit.int k n).wf = true) (me ht) (fun d as ⟨n, _, h2, h3⟩ => ⟨_, h2, n, rfl, h3⟩) (El ht) hval hd
  exact⟨n, h1, h2⟩
theorem wf_u8 {n:Int}(h:(Lit.int .u8 n).wf = true):0 <= n /\ n <= 255 := by
  simpa [Lit.wf, IntKind.min, IntKind.max, IntKind.signed, IntKind.bits] using h
theorem Em {k:IntKind}:∀ {l:List Int} {rows:List (List AVal)}, qR (fun (d:DataW H) as => ∃ n, d = .lit (.int k n) /\ as = [.lit (.int k n)] /\ (Lit.int k n).wf = true) (l.map fun n => .lit (.int k n)) rows -> rows.flatten = mf k l := by
  intro l
  induction l with
  | nil =>
    intro rows h
    have := h.1
    simp only[List.map_nil, List.length_nil]at this
    obtain rfl := QT this.symm
    rfl
  | cons a l ih =>
    intro rows h
    obtain⟨h1, h2⟩ := h
    cases rows with
    | nil => simp at h1
    | cons r rows =>
      obtain⟨n, e1, e2, _⟩ := h2 0 (by simp) (by simp)
      simp only[List.map_cons, Rq, DataW.lit.injEq, Lit.int.injEq, true_and]at e1 e2
      subst e1
      have := ih (rows := rows) ⟨by simpa using h1, fun i hi hi' => h2 (i + 1) (by simpa using hi) (by simpa using hi')⟩
      simp only[List.flatten_cons, this, e2, mf, List.map_cons]
      rfl
theorem En {name : String} {g : Nat} {t e : TypeId} {k : IntKind} {n : Nat} {l : List Int} {r : List (String × DataW Unit)} {ps : List MemPlace}
    (hg:P.globalNamed name = some g) (ht:(P.globals[g]?).map (·.type) = some t) (hu:P.underlying t = some (.array n e)) (he:P.underlying e = some (.int k)) (hz:P.cellsOf t = n * P.cellsOf e)
    (h:DataW.LaidVars P W ((name, .agg (l.map fun n => .lit (.int k n))) :: r) ps):(RelV P eY bT W (.vptr (mf k l) 0) (.pointer (some ⟨g, 0, none⟩)) /\ ∃ c e f, W.heap[g]? = some (.cells c e f) /\ c.size = (mf k l).length) /\ ∃ ps, DataW.LaidVars P W r ps := by
  obtain⟨⟨as, ⟨ds, rows, e1, rfl, hr, _, _⟩, hR⟩, hrest⟩ := Ej hg ht (y1 hu hz (me he)) h
  cases e1
  rw[Em hr]at hR
  exact⟨hR, hrest⟩
end Go.Hx
namespace Go.Hx
attribute [go_sem] List.replicate_one List.flatten_cons List.flatten_nil List.length_append List.append_nil Nat.sub_zero Bool.not_true Bool.not_false
attribute [go_sem] Bool.true_eq_false List.map_eq_nil_iff uP Int.le_refl decide_true decide_false eq_self List.getElem?_map
attribute [go_sem] EX EY EZ Fa Fb Fc Fe Ff
attribute [go_sem] Fg Fh Fi Fj Fl Fk Fm Fo
attribute [go_sem] Fp Fq Fs Ft EG EI EJ EK
attribute [go_sem] EL EM EN EO ER ES ET EU
attribute [go_sem] EV EW kJ re uM eF zg EB
attribute [go_sem] EC FD FE Gu Gq Gr Gs Gt
attribute [go_sem] List.getElem?_toArray Option.bind_some Gv Gw Gx Gy Gz GA
attribute [go_sem] GC GE GF GG GH GI GJ GK
attribute [go_sem] GL GM GN GO GP GQ GR GS
attribute [go_sem] GT GU GV GW GX HN zP HO
attribute [go_sem] HP HQ zQ HR HS HT HU HV
attribute [go_sem] HW HX HY HZ Ia Ib Ic List.set_cons_zero
attribute [go_sem] List.set_cons_succ Ie If Ig Ih Ii Ij Ik
attribute [go_sem] Il Im Io Ip Iq Ir Is It
attribute [go_sem] Iu Iv Iw Ix Iy Iz IA
attribute [go_sem] IB IC ID IE IF IG IH
attribute [go_sem] II IJ IK IL IM IN IP IQ
attribute [go_sem] IR IS IT IU IV IW IX IY
attribute [go_sem] IZ I0 I1 I2 I3 I4 I5 I6
attribute [go_sem] I7 fC aX ab Int.toNat_natCast Int.natCast_nonneg ag List.all_cons
attribute [go_sem] List.all_nil Bool.and_true Nat.mul_one GY GZ G1 G2 G3
attribute [go_sem] G4 G5 G6 G7 G8 G9
attribute [go_sem] Hg Hh Ht Hl
attribute [go_sem] Hu Hv Hw HE List.take_succ_cons List.take_zero
attribute [go_sem] List.take_nil List.drop_succ_cons List.drop_zero List.drop_nil List.forall_mem_cons List.not_mem_nil List.mem_cons List.mem_singleton
attribute [go_sem] or_false false_or or_true true_or not_or false_implies implies_true forall_const
attribute [go_sem] FH FI FJ FK FL FM FN FO
attribute [go_sem] FQ FR FS FT FU FV FW FX
attribute [go_sem] FY FZ F0 F1 F4 Bool.false_eq_true F5 F6
attribute [go_sem] F7 F8 F9 Ga Gb Gc
attribute [go_sem] Gd Ge builtin_len builtin_append builtin_copy builtin_min zj
attribute [go_sem] zk zm Gf Gg zp zq zr zu
attribute [go_sem] zw zx Gh dk rj zy Gl zA
attribute [go_sem] Gn zz Gp Gm List.map_cons List.map_nil if_true if_false
attribute [go_sem] ne_eq not_false_eq_true not_true_eq_false true_and and_true false_and and_false List.length_cons
attribute [go_sem] List.length_nil Nat.zero_add Nat.add_zero Option.isSome_some List.append_assoc List.cons_append List.nil_append Option.map_some
attribute [go_sem] Option.map_none dc uN List.getElem?_cons_zero List.getElem?_cons_succ List.getElem?_nil Option.getD_some Option.getD_none
attribute [go_sem] Fu Fv Fw Fx Fy FA FB FC
attribute [go_sem] I9 Ja Jb Int.natCast_zero Int.cast_ofNat_Int Jg Jh Jj
attribute [go_sem] Gi Gj Je Jf Jc Jd cL Nat.le_refl
end Go.Hx
