/- Own work: contracts. -/
import Derived.Test.YtebhdkihcdmmjaaGreatConB
import Derived.Test.YtebhdkihcdmmjaaGreatConA
set_option linter.all false
set_option maxHeartbeats 8000000
set_option maxRecDepth 100000
namespace Go.Proofs.R01
open Go.Hx Tryz
section
variable {P:Program} {t:TypeId} {x y:Operand} {k k':IntKind} {a b:Int}
def pureRun_bind {α β:Type}{s:Sem α}{f:α->Sem β}{a:α}(h:aQ P s=some a):aQ P (s >>= f)=aQ P (f a):=by
 induction s with
 |pure b=>simp only[aQ,Option.some.injEq]at h;subst h;rfl
 |program k ih=>exact ih P h
 |mark m k ih=>exact ih h
 |_=>simp[aQ]at h
def sY {t:TypeId}{a b:Bool}(n:Nat)(ht:P.underlying t=some .bool):aQ P (Op.equalIn (n+1) t (.bool a) (.bool b))=some (a == b):=by
 unfold Op.equalIn;simp[underlying,program,ht,aQ,bind,Sem.bind,pure]
def pq {t:TypeId}{x y:Operand}{a b:Bool}(ht:P.underlying t=some .bool):aU P .eql t x y (.lit (.bool a)) (.lit (.bool b))=some (.lit (.bool (a == b))):=by
 have h1:(do eqGuard .eql t x y (.bool a) (.bool b);binOp .eql t (.bool a) (.bool b))=(Op.equalIn (9999+1) t (.bool a) (.bool b) >>= fun r=>pure (Value.bool r)):=rfl;show (aQ P _).map _=_;rw[h1,pureRun_bind (sY 9999 ht)];rfl
def mJ {t:TypeId}{x y:Operand}{a b:Bool}(ht:P.underlying t=some .bool):aU P .neq t x y (.lit (.bool a)) (.lit (.bool b))=some (.lit (.bool (!(a == b)))):=by
 have h1:(do eqGuard .neq t x y (.bool a) (.bool b);binOp .neq t (.bool a) (.bool b))=(Op.equalIn (9999+1) t (.bool a) (.bool b) >>= fun r=>pure (Value.bool (!r))):=rfl;show (aQ P _).map _=_;rw[h1,pureRun_bind (sY 9999 ht)];rfl
end
section
variable {P:Program} {G:Nat->Option (List Zo)}
def EJ {n m:Nat}{v:Zo}(h:Below n v)(hm:n<=m):Below m v:=by
 induction h with
 |lit v=>exact .lit v
 |Q h ih=>exact .Q ih
 |ni h ih=>exact .ni ih
 |agg h ih=>exact .agg ih
 |nf h ih=>exact .nf ih
 |Z h1 h2 ih1 ih2=>exact .Z ih1 ih2
 |U h=>exact .U (V)
 |O h=>exact .O (V)
 |np h=>exact .np (V)
def RS {n m:Nat}{b:Zu}(h:sK n b)(hm:n<=m):sK m b:=by
 cases b with
 |J g e cells=>exact fun i hi=>EJ (h i hi) hm
 |loop st pend n env ps asg body=>exact fun t ht=>EJ (h t ht) hm
 |nr=>trivial
 |mp=>exact h
def RT {H:Zn}(hc:Z6 H){L:List Zu}(h:∀b,b∈L->sK (H.A+L.length) b):Z6 (ext H L):=by
 have key:∀id b,(ext H L).get id=some b->(id<H.A/\H.get id=some b)\/(id<H.A+L.length/\b∈L):=by
  intro id b hb;by_cases h1:id<H.A
  ·rw[c9 _ _ _ h1]at hb;exact .inl ⟨h1,hb⟩
  ·by_cases h2:id<H.A+L.length
   ·have:=bO H L (id-H.A) V;rw[show H.A+(id-H.A)=id by omega,hb]at this;exact .inr ⟨h2,an this.symm⟩
   ·have:(ext H L).get id=H.get id:=(by unfold ext;simp only;rw[UW V]);rw[this]at hb;exact absurd (hc.lt _ _ hb) h1
 refine⟨fun id b hb=>?_,fun id b hb=>?_⟩
 ·rw[aV];rcases key id b hb with ⟨h1,_⟩|⟨h1,_⟩<;>omega
 ·rw[aV];rcases key id b hb with ⟨_,h1⟩|⟨_,h1⟩
  ·exact RS (hc.below _ _ h1) (V)
  ·exact h b h1
def RU {n g:Nat}{e:TypeId}{cells:List Zo}(h:∀c,c∈cells->∃v,c=.lit v):sK n (.J g e cells):=fun i hi=>by
 obtain⟨v,hv⟩:=h _ (VU hi);rw[hv];exact .lit v
end
def qV (n d:Int):Zo:=.agg [.lit (.int .i64 n),.lit (.int .i64 d)]
def cu (p q:Int):Int:=if p<q then -1 else if p=q then 0 else 1
theorem sW {S:Nat->Prop}{H:Zn}{nx:Nat}(n d:Int):Fz S H nx (.agg [.lit (.int .i64 n),.lit (.int .i64 d)]) (qV n d) :=
 .agg rfl fun i hi _=>match i,hi with
  |0,_=>.lit _
  |1,_=>.lit _
end Go.Proofs.R01
namespace Go.Proofs.R01
open Go.Hx Tryz
variable {n:Nat}
def val:List Int -> Nat
  | [] => 0
  |a :: l => a.toNat + 10000 * val l
def aD (n:Nat):List Int := if h:n=0 then [] else ((n % 10000:Nat):Int) :: aD (n / 10000)
termination_by n
decreasing_by omega
def iP:aD 0 = [] := by rw[aD];rfl
def oB (h:n ≠ 0):aD n=((n % 10000:Nat):Int) :: aD (n / 10000) := by
  conv => lhs;rw[aD]
  rw[dif_neg h]
def lD:∀n:Nat,val (aD n)=n := by
  intro n
  induction n using Nat.strongRecOn with
  |_ n ih =>
    by_cases h:n=0
    · subst h;rw[iP];rfl
    · rw[oB h,val,ih _ V];omega
def Dg (l:List Int):Prop := ∀c,c ∈ l -> 0 <= c /\ c <= 9999
def mZ:∀n:Nat,Dg (aD n) := by
  intro n
  induction n using Nat.strongRecOn with
  |_ n ih =>
    by_cases h:n=0
    · subst h;rw[iP];intro c hc;cases hc
    · rw[oB h];intro c hc;rcases List.mem_cons.1 hc with rfl |hc
      · omega
      · exact ih _ V c hc
theorem ry:∀(l m:List Int),val (l ++ m)=val l + 10000 ^ l.length * val m
  | [],m => by simp[val]
  |a :: l,m => by
    simp only[List.cons_append,val,ry l m,List.length_cons,Wq,W2];rw[show 10000 * (10000 ^ l.length * val m)=10000 ^ l.length * 10000 * val m by ac_rfl];omega
theorem pM:∀ {l:List Int},Dg l -> val l < 10000 ^ l.length
  | [],_ => by simp[val]
  |a :: l,h => by
    have ih := pM (l := l) fun c hc => h c (by simp[hc]);have ha := h a Zj;simp only[val,List.length_cons,Wq];omega
def pN {k:Nat}(h:n < 10000 ^ k):(aD n).length <= k := by
  induction k generalizing n with
  | zero => have : n = 0 := by simpa using h
            subst this;rw[iP];simp
  |succ k ih =>
    by_cases h0:n=0
    · subst h0;rw[iP];simp
    · rw [oB h0, List.length_cons];have : n / 10000 < 10000 ^ k := by
        rw[Wq]at h;exact WL (by rw[Wr];exact h)
      have := ih this;omega
theorem Ex:∀ {l:List Int},Dg l -> (∀a,l.getLast? = some a -> a ≠ 0) -> aD (val l)=l
  | [],_,_ => iP
  |a :: l,h,hl => by
    have ha := h a Zj;have hd:Dg l := fun c hc => h c (by simp[hc]);have ih := Ex (l := l) hd fun b hb => hl b (by
      cases l with
      |nil => cases hb
      |cons c l => simpa[List.getLast?_cons_cons] using hb)
    by_cases h0:val (a :: l)=0
    · exfalso;simp only[val]at h0;have a0:a=0 :=V;have v0:val l=0 :=V;rw[v0,iP]at ih;exact hl a (by rw[<- ih];rfl) a0
    · rw[oB h0];have e1:val (a :: l) % 10000=a.toNat :=(by simp only[val];omega);have e2:val (a :: l) / 10000=val l :=(by simp only[val];omega);rw[e1,e2,ih];congr 1;omega
def RF (k:Nat):val (List.replicate k 0)=0 := by
  induction k with
  |zero => rfl
  |succ k ih => simp[WD,val,ih]
def zL :aD n = [] ↔ n=0 := by
  constructor
  · intro h;have := lD n;rw[h]at this;exact this.symm
  · rintro rfl;exact iP
def Ey (b:Nat):b ≠ 0 -> 10000 ^ ((aD b).length-1) <= b := by
  induction b using Nat.strongRecOn with
  |_ b ih =>
    intro hb;rw[oB hb,List.length_cons,Ws];by_cases h1:b / 10000=0
    · rw[h1,iP];simp;omega
    · have := ih _ V h1;have hl : (aD (b / 10000)).length ≠ 0 := by
        intro h;exact h1 (zL.1 (U5 h))
      obtain⟨k,hk⟩:∃k,(aD (b / 10000)).length=k + 1 := ⟨_,(Nat.succ_pred_eq_of_ne_zero hl).symm⟩
      rw[hk]at this ⊢;rw[Ws]at this;rw[Wq];omega
def rz {a b:Nat}(h:(aD a).length < (aD b).length):a < b := by
  rcases Vj a b with h1 |h1
  · exact h1
  · exfalso;have h2 := Ey b (by intro h0;rw[h0,iP]at h;simp at h);have h3 := pM (mZ a);rw[lD]at h3;have h4:10000 ^ (aD a).length <= 10000 ^ ((aD b).length-1) := U7 Zk V;omega
end Go.Proofs.R01
namespace Go.Proofs.R01
open Go.Hx Tryz
def Ez {α:Type}{l:List α}{i:Nat}{a:α}(h:l[i]? = some a):l.take (i + 1)=l.take i ++ [a] := by
  rw[List.take_add_one,h];rfl
def nf {H H' H2:Zn}{v:Zo}{cs:List Zo}{e:TypeId}(ov:Zs H H')(h:aJ H.A H' e v cs)(hn:H'.A <= H2.A)(hp:∀k,k < H'.A -> (∀g n,v ≠ .U k g 0 n 1) -> H2.get k=H'.get k):Zs H H2 :=
  ⟨by have := ov.A;omega,fun id hid => by
    rw[hp id (by have := ov.A;omega) fun g n he => ?_,ov.nc id hid]
    rcases h with ⟨h,_⟩ |⟨i2,g2,a1,_,h,_⟩
    · rw[h]at he;cases he
    · rw[h]at he;have := Zo.U.inj he;omega⟩
def rA (n:Int)(hn:-9223372036854775808 <= n /\ n <= 9223372036854775807)(H:Zn)(K:Zt -> Zn -> Prop)(hK:K (.ret (af (aD n.natAbs))) H):ae prog G0 61 [.lit (.int .i64 n)] H K := by
  refine ae.Z ⟨_,func61,rfl,rfl⟩ fun hcl => ?_
  refine ae.st (n := 19) (rs := [.tmp 2]) func61 ?_
  simp only[go_sem,aA]
  refine W.aS 262137 (by rfl) (fun ρ H' => ∃(c:Int) (done:List Int),ρ 0=aa c /\ Zs H H' /\ aJ H.A H' 3 (ρ 3) (ints done) /\ aD n.natAbs=done ++ aD c.natAbs /\ c.natAbs <= n.natAbs) (fun ρ H => (iv (ρ 0)).natAbs) ?_ ?_
  · simp only[go_sem,aA]
    exact⟨n,[],rfl,.refl _,.nil,Zj,V⟩
  rintro ρ H' ⟨c,done,h0,ov,h3,hd,hc⟩
  refine W.vs ?_
  by_cases hz:c=0
  · subst hz
    simp only[go_sem,h0,aA]
    rw[show (0:Int).natAbs=0 from rfl,iP,List.append_nil]at hd
    rw[hd]at hK
    exact aj.bH aF hcl ov (h3.iz fun i hi => hi) hK
  · have hq:(c.tdiv 10000).natAbs=c.natAbs / 10000 := by rw[YO];rfl
    have hr:(c.tmod 10000).natAbs=c.natAbs % 10000 := by rw[YN];rfl
    have w1 := UU (c.tmod 10000) (V)
    have w2 := UU (0-c.tmod 10000) (V)
    have w3 := UU (c.tdiv 10000) (V)
    have hmax:(if 0-c.tmod 10000 > c.tmod 10000 then 0-c.tmod 10000 else c.tmod 10000)=((c.natAbs % 10000:Nat):Int) := by split <;> omega
    have h5 : (aD n.natAbs).length ≤ 5 := pN (by have : (10000 : Nat) ^ 5 = 100000000000000000000 := by decide
                                                 omega)
    have hlen:done.length <= 5 := by rw[hd,List.length_append]at h5;omega
    have hdc := oB (n := c.natAbs) (V)
    obtain⟨v',H2,hA,hO,hn2,hp⟩ := jL (P := prog) (H := H') (t := 72) (x := aa (c.natAbs % 10000:Nat)) (n := H'.A + 1) Tryz.underlying72 Tryz.fK Tryz.fy rfl (by rw[Tryz.gI,bG];omega) h3 ov.A rfl
    simp only[aa]at hA
    simp only[go_sem,h0,hz,w1,w2,w3,hmax,hA]
    have ov2:Zs H H2 := nf ov h3 hn2 hp
    refine⟨ov2.A,⟨c.tdiv 10000,done ++ [((c.natAbs % 10000:Nat):Int)],rfl,ov2,?_,?_,V⟩,V⟩
    · simpa[ints,aa] using hO
    · rw[hd,hdc,hq];simp
def tB (l:List Int)(hl:Dg l)(hn:(l.length:Int) < 2 ^ 40)(H:Zn)(K:Zt -> Zn -> Prop)(hK:K (.ret (af (aD (val l)))) H):ae prog G0 103 [af l] H K := by
  refine ae.st (n := 21) (rs := [.tmp 2]) func103 ?_
  simp only[go_sem,aA]
  refine W.aS 1048569 (by rfl) (fun ρ H' => H=H' /\ ∃(m:List Int),ρ 0=af m /\ Dg m /\ val m=val l /\ m.length <= l.length) (fun ρ H => (match ρ 0 with |.Q n _ => n |_ => 0)) ?_ ?_
  · simp only[go_sem,aA]
    exact⟨l,rfl,hl,rfl,Zm⟩
  rintro ρ H' ⟨rfl,m,h0,hd,hv,hm⟩
  refine W.vs ?_
  unfold af at h0
  by_cases hz:m.length=0
  · have hm0:m = [] := U5 hz
    subst hm0
    have z1:¬(0:Int) < ((0:Nat):Int) := by omega
    simp only[go_sem,h0,mv,List.length_nil,aA]
    rw[<- hv]at hK
    have:aD (val []) = [] := iP
    rw[this]at hK
    exact aj.mk Zm hK
  · obtain⟨a,ha⟩:∃a,m[m.length-1]? = some a := ⟨_,UV V⟩
    have hmn:¬m = [] := by rintro rfl;simp at hz
    have z1:(0:Int) < (m.length:Int) := by omega
    have w1:IntKind.i64.wrap ((m.length:Int)-1)=((m.length-1:Nat):Int) := by rw[UU _ V];omega
    have b1:((m.length-1:Nat):Int) < (m.length:Int) := by omega
    have b2:((m.length-1:Nat):Int) <= (m.length:Int) := by omega
    by_cases h0a:a=0
    · subst h0a
      simp only[go_sem,h0,z1,w1,b1,b2,ha,hmn,aA]
      have hs:m.take (m.length-1) ++ [0]=m := by
        have h := Ez ha
        rw[Nat.sub_add_cancel V,Xy]at h
        exact h.symm
      refine⟨⟨m.take (m.length-1),?_,fun c hc => hd c (Vk hc),?_,by simp;omega⟩,V⟩
      · simp only[Vd,AB];congr 1;omega
      · rw[<- hv]
        conv => rhs;rw[<- hs]
        rw[ry];simp[val]
    · simp only[go_sem,h0,z1,w1,b1,b2,ha,hmn,h0a,aA]
      have hlast:m.getLast? = some a := by rw[List.getLast?_eq_getElem?];exact ha
      have := Ex hd fun b hb => by rw[hlast]at hb;cases hb;exact h0a
      rw[<- hv,this]at hK
      exact aj.mk Zm hK
def EA {x y:List Int}(hx:Dg x)(hy:Dg y)(hl:x.length=y.length){k:Nat}{a b:Int}(ha:x[k]? = some a)(hb:y[k]? = some b)(he:∀j,k < j -> x[j]? = y[j]?)(hab:a < b):val x < val y := by
  have sp:∀ {l:List Int} {c:Int},l[k]? = some c -> l=l.take k ++ c :: l.drop (k + 1) := fun {l c} h => by
    have hk := (Vs.1 h).1
    have h2 := (Vs.1 h).2
    conv => lhs;rw[<- VL k l]
    rw[VT hk,h2]
  have e1:x.drop (k + 1)=y.drop (k + 1) := by
    apply VG
    intro i
    rw[We,We]
    exact he _ (V)
  have hk := (Vs.1 ha).1
  have hk2 := (Vs.1 hb).1
  rw[sp ha,sp hb,ry,ry,e1]
  have l1:(x.take k).length=k := by simp;omega
  have l2:(y.take k).length=k := by simp;omega
  rw[l1,l2]
  have v1 := pM (l := x.take k) fun c hc => hx c (Vk hc)
  have v2:0 <= val (y.take k) := Wo _
  rw[l1]at v1
  have pa := hx a (an ha)
  have pb := hy b (an hb)
  simp only[val]
  have h3:10000 ^ k * (a.toNat + 10000 * val (y.drop (k + 1))) + 10000 ^ k <= 10000 ^ k * (b.toNat + 10000 * val (y.drop (k + 1))) := by
    have:a.toNat + 10000 * val (y.drop (k + 1)) + 1 <= b.toNat + 10000 * val (y.drop (k + 1)) := by omega
    calc _=10000 ^ k * (a.toNat + 10000 * val (y.drop (k + 1)) + 1) := (Nat.mul_succ _ _).symm
      _ <= _ := V2 _ this
  omega
def v9 (x y:Nat)(hx:((aD x).length:Int) < 2 ^ 40)(H:Zn)(K:Zt -> Zn -> Prop)(hK:K (.ret (.lit (.int .i64 (cu x y)))) H):ae prog G0 59 [af (aD x),af (aD y)] H K := by
  obtain⟨p,hp⟩:∃p,p=aD x := ⟨_,rfl⟩
  obtain⟨q,hq⟩:∃q,q=aD y := ⟨_,rfl⟩
  have dx := mZ x
  have dy := mZ y
  have vx := lD x
  have vy := lD y
  have lt1:p.length < q.length -> x < y := fun h => rz (by rw[<- hp,<- hq];exact h)
  have lt2:q.length < p.length -> y < x := fun h => rz (by rw[<- hp,<- hq];exact h)
  rw[<- hp]at hx dx vx ⊢
  rw[<- hq]at dy vy ⊢
  refine ae.st (n := 41) (rs := [.tmp 4]) func59 ?_
  by_cases hl:(p.length:Int)=q.length
  rotate_left
  · by_cases hl2:(p.length:Int) < q.length
    · have:cu x y = -1 := by unfold cu;rw[UX (by have := lt1 V;omega)]
      rw[this]at hK
      simp only[go_sem,hl,hl2,aA]
      exact aj.mk Zm hK
    · have := lt2 (V)
      have:cu x y=1 := by unfold cu;rw[UW V,UW V]
      rw[this]at hK
      simp only[go_sem,hl,hl2,aA]
      exact aj.mk Zm hK
  have hln:p.length=q.length := by omega
  have w0 := UU ((p.length:Int)-1) (V)
  simp only[go_sem,hl,w0,aA]
  rw[<- hl,w0]
  refine W.aS 2199022731312 (by rfl) (fun ρ H' => H=H' /\ ∃(k:Nat),ρ 5=aa ((k:Int)-1) /\ k <= p.length /\ ∀j,k <= j -> p[j]? = q[j]?) (fun ρ H => (iv (ρ 5) + 1).toNat) ?_ ?_
  · simp only[go_sem,aA]
    exact⟨p.length,Zj,Zm,fun j hj => by rw[U3 hj,U3 V]⟩
  rintro ρ H' ⟨rfl,k,h5,hk,he⟩
  refine W.vs ?_
  by_cases hz:k=0
  · subst hz
    have z1:¬(0:Int) <= ((0:Nat):Int)-1 := by omega
    have e0:p=q := VG fun j => he j (Wo _)
    have:x=y := by rw[<- vx,<- vy,e0]
    have:cu x y=0 := by unfold cu;rw[UW V,UX V]
    rw[this]at hK
    simp only[go_sem,h5,z1,aA]
    exact aj.mk Zm hK
  · obtain⟨j,rfl⟩:∃j,k=j + 1 := ⟨k-1,V⟩
    obtain⟨a,ha⟩:∃a,p[j]? = some a := ⟨_,UV V⟩
    obtain⟨b,hb⟩:∃b,q[j]? = some b := ⟨_,UV V⟩
    have hpn:¬p = [] := by rintro rfl;simp at ha
    have hqn:¬q = [] := by rintro rfl;simp at hb
    have ej:((j + 1:Nat):Int)-1=(j:Int) := by omega
    rw[ej]at h5
    have z1:(0:Int) <= (j:Int) := by omega
    have b1:(j:Int) < p.length := by omega
    have b2:(j:Int) < q.length := by omega
    have w2 := UU ((j:Int)-1) (V)
    simp only[go_sem,h5,z1,aA]
    refine W.dr 8 [0,0,3,7,0,0,48,112] mixed ?_
    by_cases hab:a=b
    · subst hab
      simp only[go_sem,h5,z1,b1,b2,ha,hb,hpn,hqn,w2,aA]
      exact⟨⟨j,rfl,V,fun i hi => by
        rcases Vj j i with h |h
        · exact he i (V)
        · obtain rfl:i=j := by omega
          rw[ha,hb]⟩,V⟩
    · simp only[go_sem,h5,z1,b1,b2,ha,hb,hpn,hqn,hab,aA]
      refine W.dr 8 [0,0,3,7,0,0,48,112] mixed ?_
      by_cases hlt:a < b
      · have h1 := EA dx dy hln ha hb (fun i hi => he i V) hlt
        rw[vx,vy]at h1
        have:cu x y = -1 := by unfold cu;rw[UX V]
        rw[this]at hK
        simp only[go_sem,h5,z1,b1,b2,ha,hb,hpn,hqn,hlt,aA]
        exact aj.mk Zm hK
      · have h1 := EA dy dx hln.symm hb ha (fun i hi => (he i V).symm) (V)
        rw[vx,vy]at h1
        have:cu x y=1 := by unfold cu;rw[UW V,UW V]
        rw[this]at hK
        simp only[go_sem,h5,z1,b1,b2,ha,hb,hpn,hqn,hlt,aA]
        exact aj.mk Zm hK
end Go.Proofs.R01
namespace Go.Proofs.R01
open Go.Hx Tryz
def rB {l:List Int}{i X:Nat}(h:l.drop i=aD X):(i<l.length↔X≠0)/\(X≠0->l[i]?=some ((X % 10000:Nat):Int))/\l.drop (i+1)=aD (X / 10000):=by
 have hl:l.length-i=(aD X).length:=by rw[<- h,VM]
 by_cases h0:X=0
 ·subst h0;rw[iP]at h hl;simp only[List.length_nil]at hl;refine⟨⟨fun h=>V,fun h=>absurd rfl h⟩,fun h=>absurd rfl h,?_⟩;rw[iP,Y7.2 V]
 ·rw[oB h0]at h hl;simp only[List.length_cons]at hl;refine⟨⟨fun _=>h0,fun _=>V⟩,fun _=>?_,?_⟩
  ·have:=congrArg (fun m=>m[0]?) h;simpa[We] using this
  ·have:=congrArg List.tail h;simpa[List.tail_drop] using this
def zM {n:Nat}{k:Nat}(h:(aD n).length<=k):n<10000 ^ k:=by
 have:=pM (mZ n);rw[lD]at this;exact U4 this (U7 Zk h)
def RG (x y:Nat)(hxy:y<=x)(hx:(aD x).length<=200)(H:Zn)(K:Zt->Zn->Prop)(hK:K (.ret (af (aD (x-y)))) H):ae prog G0 71 [af (aD x),af (aD y)] H K:=by
 refine ae.Z ⟨_,func71,rfl,rfl⟩ fun hcl=>?_;have vx:=lD x;obtain⟨p,hp⟩:∃p,p=aD x:=⟨_,rfl⟩
 obtain⟨q,hq⟩:∃q,q=aD y:=⟨_,rfl⟩
 rw[<- hp]at hx vx ⊢;rw[<- hq];refine ae.st (n:=41) (rs:=[.tmp 4]) func71 ?_;simp only[go_sem];refine W.aS 549755813856 (by rfl) (fun ρ H'=>∃(i c X Y:Nat) (done:List Int),ρ 7=aa i/\ρ 6=aa c/\c<=1/\i<=p.length/\Zs H H'/\aJ H.A H' 3 (ρ 5) (ints done)/\done.length=i/\Dg done/\p.drop i=aD X/\q.drop i=aD Y/\val done+10000 ^ i*X=(x-y)+10000 ^ i*(Y+c)) (fun ρ H=>p.length-(iv (ρ 7)).toNat) ?_ ?_
 ·simp only[go_sem];exact⟨0,0,x,y,[],rfl,rfl,V,V,.refl _,.nil,rfl,(fun c hc=>by cases hc),by simpa using hp,by simpa using hq,by simp[val];omega⟩
 rintro ρ H' ⟨i,c,X,Y,done,h7,h6,hc,hi,ov,h5,hl,hdg,hX,hY,he⟩;refine W.vs ?_;obtain⟨a1,a2,a3⟩:=rB hX;obtain⟨b1,b2,b3⟩:=rB hY;by_cases hb:(i:Int)<p.length;rotate_left
 ·simp only[go_sem,h7,hb];have hX0:X=0:=by
   rcases V6 X with h|h
   ·exact h
   ·have:=a1.2 V;omega
  have hv:=pM hdg;rw[hl]at hv;have hYc:Y+c=0:=by
   rcases V6 (Y+c) with h|h
   ·exact h
   ·have:10000 ^ i*1<=10000 ^ i*(Y+c):=V2 _ h;rw[hX0]at he;omega
  have hvd:val done=x-y:=by rw[hX0,hYc]at he;omega
  refine ao.lY H.A (args':=[af done]) aF rfl (fun j hj _=>match j,hj with|0,_=>h5.iz fun i hi=>hi) (tB done hdg V _ _ ⟨trivial,?_⟩);rw[hvd];have ov3:Zs H (H'.cut H.A):=ov.wW Zm;simp only[go_sem];exact aj.bH aF hcl ov3 (.dW _) hK
 have hx0:X≠0:=a1.1 V;have g1:=a2 hx0;have pn:¬p=[]:=by rintro rfl;simp at hb;omega
 have w3:=UU ((i:Int)+1) V;obtain⟨d,c',hd,hd2,hc'⟩:∃d c':Nat,(d:Int)=((X % 10000:Nat):Int)-c-((Y % 10000:Nat):Int)+10000*(c':Int)/\d<=9999/\c'<=1:=by
  by_cases h:((X % 10000:Nat):Int)-c-((Y % 10000:Nat):Int)<0
  ·exact⟨(((X % 10000:Nat):Int)-c-((Y % 10000:Nat):Int)+10000).toNat,1,V,V,V⟩
  ·exact⟨(((X % 10000:Nat):Int)-c-((Y % 10000:Nat):Int)).toNat,0,V,V,V⟩
 obtain⟨v',H2,hA,hO,hn2,hpr⟩:=jL (P:=prog) (H:=H') (t:=72) (x:=aa (d:Nat)) (n:=H'.A+1) Tryz.underlying72 Tryz.fK Tryz.fy rfl (by rw[Tryz.gI,bG];omega) h5 ov.A rfl;simp only[aa]at hA;have ov2:Zs H H2:=nf ov h5 hn2 hpr;have fin:∃(i' c'' X' Y':Nat) (done':List Int),Zo.lit (.int .i64 ((i:Int)+1))=aa i'/\Zo.lit (.int .i64 (c':Int))=aa c''/\c''<=1/\i'<=p.length/\Zs H H2/\aJ H.A H2 3 v' (ints done')/\done'.length=i'/\Dg done'/\p.drop i'=aD X'/\q.drop i'=aD Y'/\val done'+10000 ^ i'*X'=(x-y)+10000 ^ i'*(Y'+c''):=by
  refine⟨i+1,c',X / 10000,Y / 10000,done++[(d:Int)],by simp[aa],rfl,hc',V,ov2,by simpa[ints,aa] using hO,by simp[hl],fun z hz=>?_,a3,b3,?_⟩
  ·rcases Vp.1 hz with hz|hz
   ·exact hdg z hz
   ·obtain rfl:=List.mem_singleton.1 hz;omega
  ·rw[ry,hl,Wq];have e:d+10000*(X / 10000)+(Y+c)=X+10000*(Y / 10000+c'):=V;have e2:=congrArg (10000 ^ i*·) e;simp only[W2,val,Int.toNat_natCast,Nat.mul_zero,Nat.add_zero,WX]at e2 he ⊢;generalize 10000 ^ i*d=P1 at *
   generalize 10000 ^ i*(10000*(X / 10000))=P2 at *
   generalize 10000 ^ i*Y=P3 at *
   generalize 10000 ^ i*c=P4 at *
   generalize 10000 ^ i*X=P5 at *
   generalize 10000 ^ i*(10000*(Y / 10000))=P6 at *
   generalize 10000 ^ i*(10000*c')=P7 at *
   omega
 have w4:=UU (((X % 10000:Nat):Int)-(c:Int)) V;have w5:=UU (((X % 10000:Nat):Int)-(c:Int)-((Y % 10000:Nat):Int)) V;by_cases hy0:Y=0
 ·have n2:¬(i:Int)<q.length:=by have:=fun h=>b1.1 h;omega
  by_cases hneg:((X % 10000:Nat):Int)-(c:Int)<0
  ·obtain rfl:c'=1:=V;have ed:((X % 10000:Nat):Int)-(c:Int)+10000=(d:Int):=V;have w6:=UU (d:Int) V;simp only[go_sem,h7,h6,hb,n2,g1,pn,w4,hneg,ed,w6,w3,hA];exact⟨ov2.A,fin,V⟩
  ·obtain rfl:c'=0:=V;have ed:((X % 10000:Nat):Int)-(c:Int)=(d:Int):=V;rw[ed]at hneg w4;simp only[go_sem,h7,h6,hb,n2,g1,pn,ed,w4,hneg,w3,hA];exact⟨ov2.A,fin,V⟩
 ·have n2:(i:Int)<q.length:=by have:=b1.2 hy0;omega
  have g2:=b2 hy0;have qn:¬q=[]:=by rintro rfl;simp at n2;omega
  by_cases hneg:((X % 10000:Nat):Int)-(c:Int)-((Y % 10000:Nat):Int)<0
  ·obtain rfl:c'=1:=V;have ed:((X % 10000:Nat):Int)-(c:Int)-((Y % 10000:Nat):Int)+10000=(d:Int):=V;have w6:=UU (d:Int) V;simp only[go_sem,h7,h6,hb,n2,g1,g2,pn,qn,w4,w5,hneg,ed,w6,w3,hA];exact⟨ov2.A,fin,V⟩
  ·obtain rfl:c'=0:=V;have ed:((X % 10000:Nat):Int)-(c:Int)-((Y % 10000:Nat):Int)=(d:Int):=V;rw[ed]at hneg w5;simp only[go_sem,h7,h6,hb,n2,g1,g2,pn,qn,w4,ed,w5,hneg,w3,hA];exact⟨ov2.A,fin,V⟩
end Go.Proofs.R01
namespace Go.Proofs.R01
open Go.Hx Tryz
variable {l:List Int}
def iQ {k:Nat}(v:Int)(h:k<l.length):setAt (ints l) k [.lit (.int .i64 v)]=ints (l.set k v):=by
 unfold setAt ints;rw[XM,Yx,UX (by simpa using h)];simp[aa]
theorem zQ:∀ {l:List Int} {j:Nat} {a:Int} (v:Int),l[j]?=some a->val (l.set j v)+10000 ^ j*a.toNat=val l+10000 ^ j*v.toNat
 |b :: l,0,a,v,h=>by
  simp only[List.getElem?_cons_zero,Option.some.injEq]at h;subst h;simp only[List.set_cons_zero,val,Y1,Xe];omega
 |b :: l,j+1,a,v,h=>by
  simp only[List.getElem?_cons_succ]at h;have ih:=zQ (l:=l) v h;simp only[List.set_cons_succ,val,Wq];have e1:10000 ^ j*10000*a.toNat=10000*(10000 ^ j*a.toNat):=by ac_rfl
  have e2:10000 ^ j*10000*v.toNat=10000*(10000 ^ j*v.toNat):=by ac_rfl
  rw[e1,e2];omega
def EB {i:Nat}{a:Int}(h:l[i]?=some a):val (l.take (i+1))=val (l.take i)+10000 ^ i*a.toNat:=by
 have hi:=(Vs.1 h).1;rw[Ez h,ry,Vd,Xq V];simp[val]
def EC (p q:List Int)(hp:Dg p)(hq:∀c,c∈q->0<=c/\c<=10000)(hqv:val q<=10000 ^ q.length)(lp:p.length<=200)(lq:q.length<=200)(H:Zn)(K:Zt->Zn->Prop)(hK:K (.ret (af (aD (val p*val q)))) H):ae prog G0 62 [af p,af q] H K:=by
 refine ae.Z ⟨_,func62,rfl,rfl⟩ fun hcl=>?_;have w0:=UU ((p.length:Int)+(q.length:Int)) V;refine ae.st (n:=65) (rs:=[.tmp 4]) func62 ?_;simp only[go_sem,w0];obtain⟨L,hL⟩:∃L,L=p.length+q.length:=⟨_,rfl⟩
 have eL:((p.length:Int)+(q.length:Int)).toNat=L:=V
 have eL2:(p.length:Int)+(q.length:Int)=(L:Int):=V
 rw[eL,eL2];have eR:List.replicate L (Zo.lit (.int .i64 0))=ints (List.replicate L 0):=by simp[ints,aa]
 rw[eR];refine⟨⟨V,V,V⟩,?_⟩;have dr:Dg (List.replicate L 0):=fun c hc=>by obtain⟨_,rfl⟩:=List.mem_replicate.1 hc;omega
 refine W.aS 9223372036854743488 (by rfl) (fun ρ H'=>∃(i:Nat) (o:List Int),ρ 6=aa i/\i<=p.length/\H'=ext H [.J 0 3 (ints o)]/\Dg o/\o.length=L/\val o=val (p.take i)*val q) (fun ρ H=>p.length-(iv (ρ 6)).toNat) ?_ ?_
 ·simp only[go_sem];exact⟨0,_,rfl,V,rfl,dr,Zj,by simp[RF,val]⟩
 rintro ρ H' ⟨i,o,h6,hi,rfl,ho,hol,hv⟩;refine W.vs ?_;by_cases hb:(i:Int)<p.length;rotate_left
 ·simp only[go_sem,h6,hb];have hO:aJ H.A (ext H [.J 0 3 (ints o)]) 3 (.U H.A 0 0 L 1) (ints o):=.inr ⟨H.A,0,Zm,by simp[aV],by rw[bG,hol],cM _ _ _⟩;refine ao.lY H.A (args':=[af o]) aF rfl (fun j hj _=>match j,hj with|0,_=>hO.iz fun i hi=>hi) (tB o ho V _ _ ⟨trivial,?_⟩);rw[hv,UY V];have ov3:Zs H ((ext H [.J 0 3 (ints o)]).cut H.A):=(Zs.ext _ _).wW Zm;simp only[go_sem];exact aj.bH aF hcl ov3 (.dW _) hK
 obtain⟨a,ha⟩:∃a,p[i]?=some a:=⟨_,UV V⟩
 have ha9:=hp a (an ha);obtain⟨A,rfl⟩:=U2 ha9.1;have pn:¬p=[]:=by rintro rfl;simp at ha
 have vt:=EB ha;rw[Int.toNat_natCast]at vt;have w1:=UU ((i:Int)+1) V;simp only[go_sem,h6,hb];refine W.aS 9223372036852679040 (by rfl) (fun ρ' H'=>∃(k c:Nat) (o2:List Int),ρ' 8=aa k/\ρ' 7=aa c/\c<=10000/\k<=L/\H'=ext H [.J 0 3 (ints o2)]/\Dg o2/\o2.length=L/\val o2+10000 ^ (i+k)*c=val (p.take i)*val q+10000 ^ i*(A*val (q.take k))) (fun ρ' H=>L-(iv (ρ' 8)).toNat) ?_ ?_
 ·simp only[go_sem];exact⟨0,0,o,rfl,rfl,V,V,rfl,ho,hol,by simp[val,hv]⟩
 rintro ρ' H' ⟨k,c,o2,h8,h7,hc,hk,rfl,ho2,hol2,hv2⟩;refine W.vs ?_;by_cases hend:¬k<q.length/\c=0
 ·obtain⟨hk2,rfl⟩:=hend;have n1:¬(k:Int)<q.length:=V
  have n2:¬(0:Int)<((0:Nat):Int):=V
  simp only[go_sem,h8,h7,n1,h6,w1];refine⟨⟨i+1,o2,Zj,V,rfl,ho2,hol2,?_⟩,V⟩;rw[UY (l:=q) (i:=k) V]at hv2;rw[vt,VD];simp only[Nat.mul_zero,Nat.add_zero]at hv2;rw[hv2,WX]
 have hik:i+k<L:=by
  by_cases hkq:k<q.length
  ·omega
  ·have hc1:1<=c:=V;rw[UY (l:=q) (i:=k) V]at hv2;have e:val (p.take i)*val q+10000 ^ i*(A*val q)=val (p.take (i+1))*val q:=(by rw[vt,VD,WX]);rw[e]at hv2;have b1:val (p.take (i+1))<10000 ^ (i+1):=by
    have:=pM (l:=p.take (i+1)) fun c hc=>hp c (Vk hc)
    rwa [Vd,Xq V]at this
   have b2:val (p.take (i+1))*val q<10000 ^ (i+1)*10000 ^ q.length:=by
    have p0:0<10000 ^ q.length:=Zb (Zk)
    calc val (p.take (i+1))*val q<=val (p.take (i+1))*10000 ^ q.length:=V2 _ hqv
     _<10000 ^ (i+1)*10000 ^ q.length:=Nat.mul_lt_mul_of_pos_right b1 p0
   rw[<- Zc]at b2;have b3:10000 ^ (i+k)*1<=10000 ^ (i+k)*c:=V2 _ hc1;have b4:10000 ^ (i+k)<10000 ^ (i+1+q.length):=V;have:=(Nat.pow_lt_pow_iff_right (by decide:1<10000)).1 b4;omega
 obtain⟨b,hbk⟩:∃b,o2[i+k]?=some b:=⟨_,UV V⟩
 have hb9:=ho2 b (an hbk);obtain⟨B,rfl⟩:=U2 hb9.1;have o2n:¬o2=[]:=by rintro rfl;simp at hbk
 have w2:=UU ((i:Int)+(k:Int)) V;have w3:=UU ((k:Int)+1) V;have eik:(i:Int)+(k:Int)=((i+k:Nat):Int):=V
 rw[eik]at w2;have bik:((i+k:Nat):Int)<(L:Int):=V
 have w4:=UU ((c:Int)+(B:Int)) V;by_cases hkq:k<q.length
 ·obtain⟨d,hdk⟩:∃d,q[k]?=some d:=⟨_,UV V⟩
  have hd9:=hq d (an hdk);obtain⟨D,rfl⟩:=U2 hd9.1;have qn:¬q=[]:=by rintro rfl;simp at hdk
  have n1:(k:Int)<q.length:=V
  have mAD:A*D<=9999*10000:=Xi V V;have cAD:(A:Int)*(D:Int)=((A*D:Nat):Int):=(Wj _ _).symm;obtain⟨t,ht⟩:∃t,t=c+B+A*D:=⟨_,rfl⟩
  have et:(c:Int)+(B:Int)+((A*D:Nat):Int)=(t:Int):=V
  have w5:=UU ((A*D:Nat):Int) V;have w6:=UU (t:Int) V;have tm:((t:Int)).tmod 10000=((t % 10000:Nat):Int):=by rw[VK V];rfl
  have td:((t:Int)).tdiv 10000=((t / 10000:Nat):Int):=by rw[VO V];rfl
  have w7:=UU ((t % 10000:Nat):Int) V;have w8:=UU ((t / 10000:Nat):Int) V;have hs:=zQ ((t % 10000:Nat):Int) hbk;rw[Int.toNat_natCast,Int.toNat_natCast]at hs;have vq:=EB hdk;rw[Int.toNat_natCast]at vq;have fin:∃(k' c':Nat) (o3:List Int),Zo.lit (.int .i64 ((k:Int)+1))=aa k'/\Zo.lit (.int .i64 ((t / 10000:Nat):Int))=aa c'/\c'<=10000/\k'<=L/\ext H [.J 0 3 (ints (o2.set (i+k) ((t % 10000:Nat):Int)))]=ext H [.J 0 3 (ints o3)]/\Dg o3/\o3.length=L/\val o3+10000 ^ (i+k')*c'=val (p.take i)*val q+10000 ^ i*(A*val (q.take k')):=by
   refine⟨k+1,t / 10000,_,by simp[aa],rfl,V,V,rfl,fun z hz=>?_,by simp[hol2],?_⟩
   ·rcases VS hz with h|h
    ·exact ho2 z h
    ·omega
   ·rw[vq,<- WZ,Wq];have e1:t=t % 10000+10000*(t / 10000):=V;have e2:=congrArg (10000 ^ (i+k)*·) (show c+B+A*D=t % 10000+10000*(t / 10000) by omega);have e3:10000 ^ i*(A*(val (q.take k)+10000 ^ k*D))=10000 ^ i*(A*val (q.take k))+10000 ^ (i+k)*(A*D):=by
     rw[W2,W2,Zc];congr 1
     ac_rfl
    rw[e3];simp only[W2,WX]at e2 hv2 hs ⊢;omega
  simp only[go_sem,h8,h7,n1,h6,w2,w4,eik,bik,hbk];refine W.dr 10 [0,0,0,6,14,0,0,96,224,510] mixed ?_;simp only[go_sem,h8,h7,n1,h6,w2,eik,bik,ha,hdk,pn,qn,hb,cAD,w5,et,w6];rw[w3,td,w8,tm,iQ _ V];exact⟨V,fin,V⟩
 ·have n1:¬(k:Int)<q.length:=V
  have n2:(0:Int)<(c:Int):=V
  obtain⟨t,ht⟩:∃t,t=c+B:=⟨_,rfl⟩
  have et:(c:Int)+(B:Int)=(t:Int):=V
  have w6:=UU (t:Int) V;have tm:((t:Int)).tmod 10000=((t % 10000:Nat):Int):=by rw[VK V];rfl
  have td:((t:Int)).tdiv 10000=((t / 10000:Nat):Int):=by rw[VO V];rfl
  have w7:=UU ((t % 10000:Nat):Int) V;have w8:=UU ((t / 10000:Nat):Int) V;have hs:=zQ ((t % 10000:Nat):Int) hbk;rw[Int.toNat_natCast,Int.toNat_natCast]at hs;have fin:∃(k' c':Nat) (o3:List Int),Zo.lit (.int .i64 ((k:Int)+1))=aa k'/\Zo.lit (.int .i64 ((t / 10000:Nat):Int))=aa c'/\c'<=10000/\k'<=L/\ext H [.J 0 3 (ints (o2.set (i+k) ((t % 10000:Nat):Int)))]=ext H [.J 0 3 (ints o3)]/\Dg o3/\o3.length=L/\val o3+10000 ^ (i+k')*c'=val (p.take i)*val q+10000 ^ i*(A*val (q.take k')):=by
   refine⟨k+1,t / 10000,_,by simp[aa],rfl,V,V,rfl,fun z hz=>?_,by simp[hol2],?_⟩
   ·rcases VS hz with h|h
    ·exact ho2 z h
    ·omega
   ·rw[UY (l:=q) (i:=k) V]at hv2;rw[UY (l:=q) (i:=k+1) V,<- WZ,Wq];have e2:=congrArg (10000 ^ (i+k)*·) (show c+B=t % 10000+10000*(t / 10000) by omega);simp only[W2,WX]at e2 hv2 hs ⊢;omega
  simp only[go_sem,h8,h7,n1,n2,h6,w2,eik,bik,hbk,et,w6,hol2];rw[w3,td,w8,tm,iQ _ V];exact⟨V,fin,V⟩
end Go.Proofs.R01
namespace Go.Proofs.R01
open Go.Hx Tryz
variable {N k n y:Nat}
def zR (x y:Nat)(hx:(aD x).length<=200)(hy:(aD y).length<=200)(H:Zn)(K:Zt->Zn->Prop)(hK:K (.ret (af (aD (x*y)))) H):ae prog G0 62 [af (aD x),af (aD y)] H K :=
 EC (aD x) (aD y) (mZ x) (fun c hc=>by have:=mZ y c hc;omega) (XK (pM (mZ y))) hx hy H K (by rw[lD,lD];exact hK)
def RH (x d:Nat)(hd:d<=10000)(hx:(aD x).length<=200)(H:Zn)(K:Zt->Zn->Prop)(hK:K (.ret (af (aD (x*d)))) H):ae prog G0 62 [af (aD x),af [(d:Int)]] H K:=by
 have e:val [(d:Int)]=d:=by simp[val]
 refine EC (aD x) [(d:Int)] (mZ x) (fun c hc=>?_) (by rw[e];simpa using hd) hx Zj H K (by rw[lD,e];exact hK);obtain rfl:=List.mem_singleton.1 hc;omega
theorem tC (n:Nat):∀k:Nat,(aD n).drop k=aD (n / 10000 ^ k)
 |0=>Zj
 |k+1=>by
  have h:=(rB (tC n k)).2.2;rw[h,Wq,Ye]
def zT (h:k<(aD n).length):(aD n)[k]?=some ((n / 10000 ^ k % 10000:Nat):Int):=(rB (tC n k)).2.1 ((rB (tC n k)).1.1 h)
def ED (h:¬k<(aD n).length):n / 10000 ^ k=0:=by
 rcases V6 (n / 10000 ^ k) with h0|h0
 ·exact h0
 ·exact absurd ((rB (tC n k)).1.2 V) h
def RI {P:Nat}(hP:0<P)(ht:0<y / P):N / y<=N / P / (y / P):=by
 rw[Xr ht,Xr hP]
 calc N / y*(y / P)*P=N / y*(y / P*P):=WX ..
  _<=N / y*y:=V2 _ (XV _ _)
  _<=N:=XV _ _
def RJ {P:Nat}(hP:0<P)(hy:0<y):N / P / (y / P+1)<=N / y:=by
 rw[Xr hy];have h1:y<=(y / P+1)*P:=by
  have:=Zd y hP;rw[Wr]at this;omega
 calc N / P / (y / P+1)*y<=N / P / (y / P+1)*((y / P+1)*P):=V2 _ h1
  _=N / P / (y / P+1)*(y / P+1)*P:=(WX ..).symm
  _<=N / P*P:=Vv _ (XV _ _)
  _<=N:=XV _ _
def RK (hN:N<10000*y)(hy:10000 ^ n<=y):N / 10000 ^ (n-1) / (y / 10000 ^ (n-1))<=10000:=by
 have hP:0<10000 ^ (n-1):=Zb Zk;rcases V6 n with h0|h0
 ·subst h0;have hy0:0<y:=by simp at hy;omega
  simp only[Nat.zero_sub,Y1,Nat.div_one];exact XK (WL (by rw[Wr];exact hN))
 ·have ht:10000<=y / 10000 ^ (n-1):=by
   rw[Xr hP];have:10000*10000 ^ (n-1)=10000 ^ n:=(by rw[Wr,<- Wq];congr 1;omega);omega
  generalize 10000 ^ (n-1)=P at *
  refine XG (WL ?_);refine WL ?_;have h1:=Zd y hP;generalize y / P=T at *
  have h2:P*(T+1)*10000<=P*(T*10001):=by
   rw[WX];exact V2 _ (V)
  have h3:y<P*(T+1):=h1;generalize P*(T+1)=Z at *
  generalize hW:P*(T*10001)=W at *
  have h4:N<W:=V
  first|exact h4|(rw[<- hW]at h4;simpa[Wr,Yz,WX] using h4)
def RL {X a Q R:Nat}(hX:X=y*Q+R)(hR:R<y):(a+10000*X) / y=10000*Q+(a+10000*R) / y/\(a+10000*X) % y=(a+10000*R) % y:=by
 have e:a+10000*X=(a+10000*R)+y*(10000*Q):=by
  rw[hX,W2];have:10000*(y*Q)=y*(10000*Q):=by ac_rfl
  omega
 rw[e,Nat.add_mul_div_left _ _ V,Nat.add_mul_mod_self_left];exact⟨Nat.add_comm _ _,rfl⟩
end Go.Proofs.R01
namespace Go.Proofs.R01
open Go.Hx Tryz
variable {a b:Int}
def RM (h:a<=b):cu a b<=0:=by
 unfold cu;split
 ·omega
 ·split<;>omega
def RN (h:b<a):¬cu a b<=0:=by
 unfold cu;split
 ·omega
 ·split<;>omega
def RO (x y:Nat)(hy:y≠0)(hx:(aD x).length<=100)(hyl:(aD y).length<=100)(H:Zn)(K:Zt->Zn->Prop)(hK:K (.ret (.nf [af (aD (x / y)),af (aD (x % y))])) H):ae prog G0 102 [af (aD x),af (aD y)] H K:=by
 refine ae.KI ⟨_,func102,rfl,rfl⟩ fun hcl hbel=>?_;obtain⟨p,hp⟩:∃p,p=aD x:=⟨_,rfl⟩
 obtain⟨q,hq⟩:∃q,q=aD y:=⟨_,rfl⟩
 have hqn:q.length≠0:=by intro h;exact hy (zL.1 (by rw[<- hq];exact U5 h))
 obtain⟨n,hn⟩:∃n,q.length=n+1:=⟨q.length-1,V⟩
 have ylb:=Ey y hy;have yub:=zM (n:=y) (k:=n+1) (by rw[<- hq,hn];exact Nat.le_refl _);rw[<- hq,hn,Ws]at ylb;have hx1:=hx;have hy1:=hyl;rw[<- hp]at hx;rw[<- hq]at hyl;have w1:=UU ((q.length:Int)-1) V;have en:(q.length:Int)-1=(n:Int):=V
 rw[en]at w1;rw[<- hp,<- hq]at hbel ⊢;have rep0:∀v:Zo,List.replicate 0 v=[]:=fun _=>rfl;refine ae.st (n:=124) (rs:=[.tmp 4,.tmp 5]) func102 ?_;by_cases hs:(p.length:Int)<=(n:Int)
 ·have hlt:x<y:=rz (by rw[<- hp,<- hq];omega);rw[WK hlt,Xg hlt,iP,<- hp]at hK;obtain⟨v',H3,hA,hO,hn3,hpr⟩:=uS (P:=prog) (H:=ext H [.J 0 3 []]) (t:=72) (lo:=H.A) (n:=H.A+1) (v:=.U H.A 0 0 0 1) (cs:=[]) (src:=ints p) Tryz.underlying72 Tryz.fK Tryz.fy (kW p) (by rw[Tryz.gI,bG];simp;omega) (.inr ⟨H.A,0,Zm,by simp[aV],rfl,cM _ _ _⟩) (by simp[aV]) (by simp[aV]);rw[bG]at hA;have ov3:Zs H H3:=⟨by simp only[aV]at hn3;omega,fun id hid=>by
   rw[hpr id (by simp only[aV];omega) fun g n he=>by have:=Zo.U.inj he;omega,dz hid]⟩
  simp only[go_sem,en,w1,hs,rep0,hA];refine aj.bH (v':=.nf [af [],af p]) aF hcl ov3 (.nf rfl fun i hi _=>?_) hK
  match i,hi with
  |0,_=>exact .nil
  |1,_=>exact hO.iz fun i hi=>hi
 ·have w2:=UU ((p.length:Int)-(n:Int)) V;obtain⟨m,hm⟩:∃m,p.length=n+m/\1<=m:=⟨p.length-n,V,V⟩
  have em:(p.length:Int)-(n:Int)=(m:Int):=V
  rw[em]at w2;have w3:=UU ((m:Int)-1) V;have esub:p.length-m=n:=V
  have ede:List.take n (List.drop m (ints p))=ints (p.drop m):=by rw[AC];exact UY (by rw[bG,VM];omega)
  have mle:(m:Int)<=(p.length:Int):=V
  have dl:(p.drop m).length=n:=by simp;omega
  have eR:List.replicate m (Zo.lit (.int .i64 0))=ints (List.replicate m 0):=by simp[ints,aa]
  obtain⟨v',H3,hA,hO,hn3,hpr⟩:=uS (P:=prog) (H:=ext H [.J 0 3 (ints (List.replicate m 0)),.J 0 3 []]) (t:=72) (lo:=H.A+1) (n:=H.A+2) (v:=.U (H.A+1) 0 0 0 1) (cs:=[]) (src:=ints (p.drop m)) Tryz.underlying72 Tryz.fK Tryz.fy (kW _) (by rw[Tryz.gI,bG];simp;omega) (.inr ⟨H.A+1,0,Zm,by simp[aV],rfl,bO H _ 1 Zj⟩) (by show H.A+1<=H.A+2;omega) rfl;rw[bG,dl]at hA;simp only[aV,List.length_cons,List.length_nil]at hn3 hpr;obtain⟨Hq,hHq⟩:∃Hq,Hq=ext H [.J 0 3 (ints (List.replicate m 0))]:=⟨_,rfl⟩
  have nq:Hq.A=H.A+1:=hHq▸rfl
  have clq:Z6 Hq:=by
   rw[hHq];refine RT hcl fun b hb=>?_;obtain rfl:=List.mem_singleton.1 hb;exact RU fun c hc=>by obtain⟨x,_,rfl⟩:=Vb.1 hc;exact⟨_,rfl⟩
  have gq:Hq.get H.A=some (.J 0 3 (ints (List.replicate m 0))):=by rw[hHq];exact cM _ _ _
  have ovq:Zs H Hq:=by rw[hHq];exact Zs.ext _ _
  have ov3:Zs Hq H3:=⟨V,fun id hid=>by
   rw[hpr id V fun g n he=>by have:=Zo.U.inj he;omega];by_cases h:id=H.A
   ·subst h;rw[gq,cM]
   ·rw[c9 _ _ _ V,ovq.nc _ V]⟩
  have n3:=ov3.A;have hvF:Fz (fun id=>Hq.A<=id) H3 H3.A v' (af (p.drop m)):=hO.iz fun i hi=>V
  have hbq:∀v,v∈[af p,af q]->Below Hq.A v:=fun v hv=>(hbel v hv).mono V;have h37:Fz (fun id=>Hq.A<=id) H3 H3.A (.Q n (ints (p.drop m))) (.Q n (ints (p.drop m))):=by rw[<- dl];exact .dW _
  have gq3:=(ov3.nc H.A V).trans gq;have lq3:=ag gq3;simp only[go_sem,en,w1,hs,em,w2,rep0,mle,esub,ede,eR,hA,w3,lq3];refine⟨⟨V,V⟩,?_⟩;apply W.Mg (H:=Hq) aF clq ov3
  ·repeat first|exact Fz.Mi hbq V|(apply Fz.Mh;· first|exact .lit _|assumption|exact .dW _|exact .O V V|exact .U V V|exact .deadOwn V (by show Hq.A<=_;omega))
  ·trivial
  obtain⟨Hg,hHg⟩:∃Hg,Hg=ju Hq (H3.A-Hq.A):=⟨_,rfl⟩
  rw[<- hHg];have hog:Zs Hq Hg:=by rw[hHg];exact .ju _ _
  have ng:=hog.A;have hgg:=(hog.nc H.A V).trans gq;have pdm:p.drop m=aD (x / 10000 ^ m):=by rw[hp];exact tC x m
  have xlt:x / 10000 ^ m<y:=rz (by rw[<- pdm,dl,<- hq];omega);refine W.env fun E hE=>?_;have e0:E 0=af p:=by rw[hE];rfl
  have e1:E 1=af q:=by rw[hE];rfl
  have e6:E 6=aa n:=by rw[hE];rfl
  have e7:E 7=.U H.A 0 0 m 1:=by rw[hE];rfl
  have e8:E 8=af (p.drop m):=by rw[hE];rfl
  have e9:E 9=aa ((m:Int)-1):=by rw[hE];rfl
  clear hE;refine W.aS 2658455991569831745807609722514243328 (by rfl) (fun ρ H'=>∃(j:Nat) (qs:List Int),ρ 9=aa ((j:Int)-1)/\j<=m/\Zs H H'/\Hg.A<=H'.A/\H'.get H.A=some (.J 0 3 (ints qs))/\qs.length=m/\Dg qs/\val (qs.drop j)=x / 10000 ^ j / y/\ρ 8=af (aD (x / 10000 ^ j % y))) (fun ρ H=>(iv (ρ 9)+1).toNat) ?_ ?_
  ·simp only[go_sem,e9,e8];refine⟨m,List.replicate m 0,Zj,V,ovq.trans hog,hgg,Zj,fun c hc=>by obtain⟨_,rfl⟩:=List.mem_replicate.1 hc;omega,?_,?_⟩
   ·rw[WK xlt,Y7.2 Zj];rfl
   ·rw[Xg xlt,<- pdm]
  rintro ρ H' ⟨j,qs,h9,hj,ov,hnx,hg,hql,hqd,hv,h8⟩;refine W.vs ?_;have lq:=ag hg;by_cases hz:j=0
  ·subst hz;have z1:¬(0:Int)<=((0:Nat):Int)-1:=V;simp only[Y1,Nat.div_one,List.drop_zero]at hv h8;simp only[go_sem,h9,e7];have hO2:aJ H.A H' 3 (.U H.A 0 0 m 1) (ints qs):=.inr ⟨H.A,0,Zm,V,by rw[bG,hql],hg⟩;refine ao.lY H.A (args':=[af qs]) aF rfl (fun j hj _=>match j,hj with|0,_=>hO2.iz fun i hi=>hi) (tB qs hqd V _ _ ⟨trivial,?_⟩);rw[hv];simp only[go_sem,h8];have ovc:Zs H (H'.cut H.A):=ov.wW Zm;refine aj.bH (v':=.nf [af (aD (x / y)),af (aD (x % y))]) aF hcl ovc (.nf rfl fun i hi _=>?_) hK
   match i,hi with
   |0,_=>exact .dW _
   |1,_=>exact .dW _
  obtain⟨i,rfl⟩:∃i,j=i+1:=⟨j-1,V⟩
  have ei:((i+1:Nat):Int)-1=(i:Int):=V
  rw[ei]at h9;have z1:(0:Int)<=(i:Int):=V
  obtain⟨R,hR⟩:∃R,R=x / 10000 ^ (i+1) % y:=⟨_,rfl⟩
  rw[<- hR]at h8;have hRy:R<y:=by rw[hR];exact XB _ (V)
  have hil:i<p.length:=V
  obtain⟨a,ha⟩:∃a,a=x / 10000 ^ i % 10000:=⟨_,rfl⟩
  have hpi:p[i]?=some ((a:Nat):Int):=by rw[ha,hp];exact zT (by rw[<- hp];exact hil)
  have pn:¬p=[]:=by rintro rfl;simp at hil
  have bil:(i:Int)<p.length:=V
  obtain⟨N,hN⟩:∃N,N=a+10000*R:=⟨_,rfl⟩
  have yup:y<10000 ^ (n+1):=yub;have rlen:(aD R).length<=n+1:=pN V;have hNy:N<10000*y:=V
  have hN2:N<10000 ^ (n+2):=by
   have:10000 ^ (n+2)=10000*10000 ^ (n+1):=(by rw[Wq,Wr]);omega
  have nlen:(aD N).length<=n+2:=pN hN2;obtain⟨v',H3,hA,hO,hn3,hpr⟩:=uS (P:=prog) (H:=ext H' [.J 0 3 [.lit (.int .i64 (a:Int))]]) (t:=72) (lo:=H'.A) (n:=H'.A+1) (v:=.U H'.A 0 0 1 1) (cs:=ints [(a:Int)]) (src:=ints (aD R)) Tryz.underlying72 Tryz.fK Tryz.fy (kW _) (by rw[Tryz.gI,bG,bG,VX];omega) (.inr ⟨H'.A,0,Zm,by simp[aV],rfl,cM _ _ _⟩) (by simp[aV]) (by simp[aV]);rw[bG]at hA;have ov3:Zs H' H3:=⟨by simp only[aV]at hn3;omega,fun id hid=>by
   rw[hpr id (by simp only[aV];omega) fun g n he=>by have:=Zo.U.inj he;omega,dz hid]⟩
  have hcd:Dg ((a:Int) :: aD R):=fun c hc=>by
   rcases List.mem_cons.1 hc with rfl|hc
   ·omega
   ·exact mZ R c hc
  have hcv:val ((a:Int) :: aD R)=N:=by rw[val,lD,hN];simp
  simp only[go_sem,h9,z1,h8,e0,hpi,pn,bil,hA];refine ao.lY H'.A (args':=[af ((a:Int) :: aD R)]) aF rfl (fun j hj _=>match j,hj with|0,_=>hO.iz fun i hi=>hi) (tB _ hcd (by rw[List.length_cons];omega) _ _ ⟨trivial,?_⟩);rw[hcv];have ovc:Zs H' (H3.cut H'.A):=ov3.cut;obtain⟨Hc,hHc⟩:∃Hc,Hc=H3.cut H'.A:=⟨_,rfl⟩
  rw[<- hHc]at ovc ⊢;clear hHc;have w4:=UU ((n:Int)+1) V;simp only[go_sem,e6,w4];have gqc:=(ovc.nc H.A V).trans hg;have nc:=ovc.A;refine W.env fun E2 hE2=>?_;have f0:E2 0=af p:=by rw[hE2];exact e0
  have f1:E2 1=af q:=by rw[hE2];exact e1
  have f6:E2 6=aa n:=by rw[hE2];exact e6
  have f7:E2 7=.U H.A 0 0 m 1:=by rw[hE2];exact e7
  have f8:E2 8=af (aD N):=by rw[hE2];rfl
  have f9:E2 9=aa (i:Int):=by rw[hE2];exact h9
  have f10:E2 10=aa 0:=by rw[hE2];rfl
  have f11:E2 11=aa 0:=by rw[hE2];rfl
  have f12:E2 12=aa ((n:Int)+1):=by rw[hE2];rfl
  clear hE2;have hqy:q=aD y:=hq;have emax:(if (n:Int)-1 > 0 then (n:Int)-1 else 0)=((n-1:Nat):Int):=by split<;>omega
  have w5:=UU ((n:Int)-1) V;have yk2:y / 10000 ^ (n+2)=0:=WK (by rw[Wq];omega);have Nk2:N / 10000 ^ (n+2)=0:=WK hN2;have cube:∀z k:Nat,z<10000 ^ (n+2)->n-1<=k->z / 10000 ^ k<1000000000000:=fun z k hz hk=>by
   refine WL (U4 hz ?_);rw[show (1000000000000:Nat)=10000 ^ 3 by decide,<- Zc];exact U7 Zk (V)
  have hy2:y<10000 ^ (n+2):=by rw[Wq];omega
  refine W.aS 38685626155610539552676864 (by rfl) (fun ρ' H2=>∃k F T:Nat,ρ' 12=aa ((k:Int)-1)/\n-1<=k/\k<=n+2/\H2=Hc/\ρ' 11=aa F/\ρ' 10=aa T/\F=N / 10000 ^ k/\T=y / 10000 ^ k) (fun ρ' H=>(iv (ρ' 12)+1).toNat) ?_ ?_
  ·simp only[go_sem,f12,f11,f10];exact⟨n+2,0,0,by simp;omega,V,V,rfl,rfl,Nk2.symm,yk2.symm⟩
  rintro ρ' H2 ⟨k,F,T,g12,hk1,hk2,rfl,g11,g10,hF,hT⟩;refine W.vs ?_;by_cases hke:k=n-1
  ·have z2:¬((n-1:Nat):Int)<=((n-1:Nat):Int)-1:=V;rw[hke]at g12;simp only[go_sem,g12,f6,w5,emax,z2];rw[hke]at hF hT;have hP:0<10000 ^ (n-1):=Zb Zk;have hT0:0<T:=by
    rw[hT];refine Nat.div_pos ?_ hP;exact VC (U7 Zk V) ylb
   have cF:=cube N (n-1) hN2 V;have cT:=cube y (n-1) hy2 V;have qhi:N / y<=F / T:=(by rw[hF,hT];exact RI hP (by rw[<- hT];exact hT0));have qlo:F / (T+1)<=N / y:=(by rw[hF,hT];exact RJ hP V);have qcap:F / T<=10000:=(by rw[hF,hT];exact RK hNy ylb);rw[<- hF]at cF;rw[<- hT]at cT;have w6:=UU ((T:Int)+1) V;obtain⟨lo,hlo⟩:∃lo,lo=F / (T+1):=⟨_,rfl⟩
   obtain⟨hi,hhi⟩:∃hi,hi=F / T:=⟨_,rfl⟩
   have t1:((F:Int)).tdiv ((T:Int)+1)=(lo:Int):=(by rw[VO V,hlo];rfl);have t2:((F:Int)).tdiv (T:Int)=(hi:Int):=(by rw[VO V,hhi];rfl);rw[<- hlo]at qlo;rw[<- hhi]at qhi qcap;have w7:=UU (lo:Int) V;have w8:=UU (hi:Int) V;have n1:¬(T:Int)+1=0:=V;have n2:¬(T:Int)=0:=V;refine W.env fun E3 hE3=>?_;have k0:E3 0=af p:=(by rw[hE3];exact f0);have k1:E3 1=af q:=(by rw[hE3];exact f1);have k6:E3 6=aa n:=(by rw[hE3];exact f6);have k7:E3 7=.U H.A 0 0 m 1:=(by rw[hE3];exact f7);have k8:E3 8=af (aD N):=(by rw[hE3];exact f8);have k9:E3 9=aa (i:Int):=(by rw[hE3];exact f9);have k10:E3 10=aa T:=(by rw[hE3];exact g10);have k11:E3 11=aa F:=(by rw[hE3];exact g11);clear hE3;refine W.dr 8 [0,0,2,7,0,0,48,15] mixed ?_;simp only[go_sem,k11,k10,w6,t1,t2,w7,w8,n1,n2];have gq2:H2.get H.A=some (.J 0 3 (ints qs)):=gqc;obtain⟨Q,hQ⟩:∃Q,Q=N / y:=⟨_,rfl⟩
   rw[<- hQ]at qlo qhi;have hyl2:(aD y).length<=100:=hy1;refine W.env fun E4 hE4=>?_;have l1:E4 1=af q:=(by rw[hE4];exact k1);have l7:E4 7=.U H.A 0 0 m 1:=(by rw[hE4];exact k7);have l8:E4 8=af (aD N):=(by rw[hE4];exact k8);have l9:E4 9=aa (i:Int):=(by rw[hE4];exact k9);have l13:E4 13=aa (lo:Int):=(by rw[hE4];rfl);have l14:E4 14=aa (hi:Int):=(by rw[hE4];rfl);clear hE4;have Nl:((aD N).length:Int)<2 ^ 40:=V;refine W.aS 1298069262873549765611524485865472 (by rfl) (fun ρ2 H3=>∃L U:Nat,ρ2 13=aa L/\ρ2 14=aa U/\L<=Q/\Q<=U/\U<=10000/\Zs H2 H3) (fun ρ2 H=>(iv (ρ2 14)-iv (ρ2 13)).toNat) ?_ ?_
   ·simp only[go_sem,l13,l14];exact⟨lo,hi,rfl,rfl,qlo,qhi,qcap,.refl _⟩
   rintro ρ2 H4 ⟨L,U,m13,m14,hL,hU,hU2,ov4⟩;refine W.vs ?_;have n4:=ov4.A;by_cases hLU:(L:Int)<(U:Int)
   ·obtain⟨M,hM⟩:∃M,M=(L+U+1) / 2:=⟨_,rfl⟩
    have eLU:(L:Int)+(U:Int)=((L+U:Nat):Int):=V;have eLU1:((L+U:Nat):Int)+1=((L+U+1:Nat):Int):=V;have v1:=UU ((L+U:Nat):Int) V;have v2:=UU ((L+U+1:Nat):Int) V;have v3:(((L+U+1:Nat):Int)).tdiv 2=(M:Int):=(by rw[VO V,hM];rfl);have v4:=UU (M:Int) V;have v5:=UU ((M:Int)-1) V;simp only[go_sem,m13,m14,hLU,eLU,eLU1,v1,v2,v3,v4,l1];have hO4:aJ H4.A (ext H4 [.J 0 3 [.lit (.int .i64 (M:Int))]]) 3 (.U H4.A 0 0 1 1) (ints [(M:Int)]):=.inr ⟨H4.A,0,Zm,by simp[aV],rfl,cM _ _ _⟩;rw[hqy];refine ao.lY H4.A (args':=[af (aD y),af [(M:Int)]]) aF rfl (fun j hj _=>match j,hj with|0,_=>.dW _|1,_=>hO4.iz fun i hi=>hi) (RH y M V V _ _ ⟨trivial,?_⟩);have ylen:(aD (y*M)).length<=n+2:=pN (by
     have h1:y*M<=y*10000:=V2 _ V;rw[Wq];omega)
    have ov5:Zs H2 ((ext H4 [.J 0 3 [.lit (.int .i64 (M:Int))]]).cut H4.A):=ov4.trans ((Zs.ext _ _).cut);simp only[go_sem,l8];refine ao.Z (v9 (y*M) N V _ _ ⟨trivial,?_⟩);by_cases hc:y*M<=N
    ·have hc1:cu ((y*M:Nat):Int) (N:Int)<=0:=RM V;have hMQ:M<=Q:=(by rw[hQ,Xr V,Wr];exact hc);simp only[go_sem,hc1];exact⟨ov5.A,⟨M,U,rfl,m14,hMQ,hU,hU2,ov5⟩,by rw[m14];simp only[aa,iv];omega⟩
    ·have hc1:¬cu ((y*M:Nat):Int) (N:Int)<=0:=RN V;have hMQ:Q<M:=(by rw[hQ,Nat.div_lt_iff_lt_mul V,Wr];omega);simp only[go_sem,hc1,v5];exact⟨ov5.A,⟨L,M-1,m13,by simp;omega,hL,V,V,ov5⟩,by rw[m13];simp only[aa,iv];omega⟩
   ·have LQ:L=Q:=V;subst LQ;have g4:=(ov4.nc H.A V).trans gq2;have lq4:=ag g4;have him:i<m:=V;have zi:(i:Int)<(m:Int):=V;have Q9:L<10000:=(by rw[hQ];exact WL V);simp only[go_sem,m13,m14,hLU,l7,l9,zi,lq4];rw[iQ _ V];obtain⟨H5,hH5⟩:∃H5,H5=H4.upd H.A (.J 0 3 (ints (qs.set i (L:Int)))):=⟨_,rfl⟩
    rw[<- hH5];have g5:H5.get H.A=some (.J 0 3 (ints (qs.set i (L:Int)))):=(by rw[hH5,ah,UX rfl]);have n5:H5.A=H4.A:=(by rw[hH5];rfl);have ov5:Zs H H5:=⟨by have:=ov.A;omega,fun id hid=>by
     rw[hH5,ah,UW V,ov4.nc _ V,ovc.nc _ V,ov.nc _ hid]⟩
    clear hH5;refine⟨V,?_⟩;have dgL:Dg [(L:Int)]:=fun c hc=>by obtain rfl:=List.mem_singleton.1 hc;omega
    have vL:val [(L:Int)]=L:=(by simp[val]);have hO5:aJ H5.A (ext H5 [.J 0 3 [.lit (.int .i64 (L:Int))]]) 3 (.U H5.A 0 0 1 1) (ints [(L:Int)]):=.inr ⟨H5.A,0,Zm,by simp[aV],rfl,cM _ _ _⟩;refine ao.lY H5.A (args':=[af [(L:Int)]]) aF rfl (fun j hj _=>match j,hj with|0,_=>hO5.iz fun i hi=>hi) (tB _ dgL Zj _ _ ⟨trivial,?_⟩);rw[vL];have ov6:Zs H5 ((ext H5 [.J 0 3 [.lit (.int .i64 (L:Int))]]).cut H5.A):=(Zs.ext _ _).cut;obtain⟨H6,hH6⟩:∃H6,H6=(ext H5 [.J 0 3 [.lit (.int .i64 (L:Int))]]).cut H5.A:=⟨_,rfl⟩
    rw[<- hH6]at ov6 ⊢;clear hH6;have n6:=ov6.A;have lenL:(aD L).length<=1:=pN V;have hmul:y*L<=N:=(by rw[hQ];exact Nat.mul_div_le N y);simp only[go_sem,l1,l8];rw[hqy];refine ao.Z (zR y L V V _ _ ⟨trivial,?_⟩);simp only[go_sem];refine ao.Z (RG N (y*L) hmul V _ _ ⟨trivial,?_⟩);have wi:=UU ((i:Int)-1) V;simp only[go_sem,l9,wi];have eX:=W7 (x / 10000 ^ (i+1)) y;have eS:x / 10000 ^ i=a+10000*(x / 10000 ^ (i+1)):=by
     rw[Wq,<- Ye,ha];omega
    have qs2:=RL (X:=x / 10000 ^ (i+1)) (a:=a) (y:=y) (Q:=x / 10000 ^ (i+1) / y) (R:=R) (by rw[hR];exact eX.symm) hRy;rw[<- eS,<- hN]at qs2;have eRN:N-y*L=x / 10000 ^ i % y:=(by rw[qs2.2,hQ];have:=W7 N y;omega);rw[eRN];refine⟨V,⟨i,qs.set i (L:Int),rfl,V,ov5.trans ov6,V,(ov6.nc _ V).trans g5,by simp[hql],fun c hc=>?_,?_,rfl⟩,V⟩
    ·rcases VS hc with h|h
     ·exact hqd c h
     ·omega
    ·rw[VT (by simp;omega),val,List.getElem_set_self,Int.toNat_natCast,Zg V,hv,qs2.1,hQ];omega
  obtain⟨j,rfl⟩:∃j,k=j+1:=⟨k-1,V⟩
  have ej:((j+1:Nat):Int)-1=(j:Int):=V
  rw[ej]at g12;have z2:((n-1:Nat):Int)<=(j:Int):=V
  have cF:=cube N j hN2 V;have cT:=cube y j hy2 V;rw[Wq,<- Ye]at hF hT;have nF:N / 10000 ^ j=0\/j<(aD N).length:=by
   by_cases h:j<(aD N).length
   ·exact .inr h
   ·exact .inl (ED h)
  have nT:y / 10000 ^ j=0\/j<=n:=by
   by_cases h:j<=n
   ·exact .inr h
   ·exact .inl (ED (by rw[<- hqy,hn];omega))
  have dF:j<(aD N).length->(aD N)[j]?=some ((N / 10000 ^ j % 10000:Nat):Int):=fun h=>zT h;have dT:j<=n->q[j]?=some ((y / 10000 ^ j % 10000:Nat):Int):=fun h=>by rw[hqy];exact zT (by rw[<- hqy,hn];omega)
  obtain⟨F',hF'⟩:∃F',F'=N / 10000 ^ j:=⟨_,rfl⟩
  obtain⟨T',hT'⟩:∃T',T'=y / 10000 ^ j:=⟨_,rfl⟩
  rw[<- hF']at cF hF nF dF;rw[<- hT']at cT hT nT dT;obtain⟨cf,hcf⟩:∃cf,cf=F' % 10000:=⟨_,rfl⟩
  obtain⟨ct,hct⟩:∃ct,ct=T' % 10000:=⟨_,rfl⟩
  rw[<- hcf]at dF;rw[<- hct]at dT;have w6:=UU ((F:Int)*10000) V;have w7:=UU ((F:Int)*10000+(cf:Int)) V;have w8:=UU ((T:Int)*10000) V;have w9:=UU ((T:Int)*10000+(ct:Int)) V;have wj:=UU ((j:Int)-1) V;by_cases hjl:j<(aD N).length
  ·have dF1:=dF hjl;have Nn:¬aD N=[]:=(by intro h;rw[h]at hjl;simp at hjl);have z3:(j:Int)<(aD N).length:=V;by_cases hjn:j<=n
   ·have dT1:=dT hjn;have qn:¬q=[]:=(by intro h;rw[h]at hn;simp at hn);have z4:(j:Int)<=(n:Int):=V;have z5:(j:Int)<q.length:=V;simp only[go_sem,g12,f6,w5,emax,z2,g11,w6,f8,z3,Nn,dF1,w7,z4,z5,f1,dT1,qn,g10,w8,w9,wj];exact⟨⟨j,F',T',rfl,V,V,by simp;omega,by simp;omega,hF',hT'⟩,V⟩
   ·have z4:¬(j:Int)<=(n:Int):=V;simp only[go_sem,g12,f6,w5,emax,z2,g11,w6,f8,z3,Nn,dF1,w7,z4,wj];exact⟨⟨j,F',T',rfl,V,V,by simp;omega,by rw[g10,aa];simp;omega,hF',hT'⟩,V⟩
  ·have z3:¬(j:Int)<(aD N).length:=V;by_cases hjn:j<=n
   ·have dT1:=dT hjn;have qn:¬q=[]:=(by intro h;rw[h]at hn;simp at hn);have z4:(j:Int)<=(n:Int):=V;have z5:(j:Int)<q.length:=V;simp only[go_sem,g12,f6,w5,emax,z2,g11,w6,f8,z3,z4,z5,f1,dT1,qn,g10,w8,w9,wj];exact⟨⟨j,F',T',rfl,V,V,by simp;omega,by simp;omega,hF',hT'⟩,V⟩
   ·have z4:¬(j:Int)<=(n:Int):=V;simp only[go_sem,g12,f6,w5,emax,z2,g11,w6,f8,z3,z4,wj];exact⟨⟨j,F',T',rfl,V,V,by simp;omega,by rw[g10,aa];simp;omega,hF',hT'⟩,V⟩
end Go.Proofs.R01
namespace Go.Proofs.R01
open Go.Hx Tryz
def vn:Zo->Nat
 |.Q _ l=>val (l.map iv)
 |_=>0
def EG (n:Nat):vn (af (aD n))=n:=by
 have:(ints (aD n)).map iv=aD n:=by simp[ints,aa,iv,Function.comp_def]
 show val ((ints (aD n)).map iv)=n;rw[this,lD]
def RP (x y:Nat)(hx:(aD x).length<=100)(hy:(aD y).length<=100)(H:Zn)(K:Zt->Zn->Prop)(hK:K (.ret (af (aD (Nat.gcd x y)))) H):ae prog G0 60 [af (aD x),af (aD y)] H K:=by
 refine ae.Z ⟨_,func60,rfl,rfl⟩ fun hcl=>?_;refine ae.st (n:=19) (rs:=[.tmp 4]) func60 ?_;simp only[go_sem];refine W.aS 262115 (by rfl) (fun ρ H'=>∃X Y:Nat,ρ 0=af (aD X)/\ρ 1=af (aD Y)/\(aD X).length<=100/\(aD Y).length<=100/\H'=H/\Nat.gcd X Y=Nat.gcd x y) (fun ρ H=>vn (ρ 1)) ?_ ?_
 ·simp only[go_sem];exact⟨x,y,rfl,rfl,hx,hy,rfl⟩
 rintro ρ H' ⟨X,Y,h0,h1,hX,hY,rfl,hg⟩;refine W.vs ?_;by_cases hz:Y=0
 ·subst hz;have z1:¬(0:Int)<(aD 0).length:=by rw[iP];simp
  rw[Nat.gcd_zero_right]at hg;simp only[go_sem,h0,h1,z1];rw[<- hg]at hK;exact aj.bH aF hcl (.refl _) (.dW _) hK
 have z1:(0:Int)<(aD Y).length:=by
  have:(aD Y).length≠0:=fun h=>hz (zL.1 (U5 h));omega
 simp only[go_sem,h0,h1,z1];refine ao.Z (RO X Y hz hX hY _ _ ⟨trivial,?_⟩);have hlt:X % Y<Y:=XB _ V;have hl:(aD (X % Y)).length<=100:=by
  rcases Vj (aD Y).length (aD (X % Y)).length with h|h
  ·exact absurd (rz h) (V)
  ·omega
 simp only[go_sem,h1];refine⟨⟨Y,X % Y,rfl,rfl,hY,hl,?_⟩,?_⟩
 ·rw[<- hg,XC Y,<- YI,XC]
 ·have e1:=EG (X % Y);have e2:=EG Y;rw[show Zo.Q (aD (X % Y)).length (ints (aD (X % Y)))=af (aD (X % Y)) from rfl,show Zo.Q (aD Y).length (ints (aD Y))=af (aD Y) from rfl,e1,e2];exact hlt
def RQ {a b:Nat}(h:a<=b):(aD a).length<=(aD b).length:=by
 rcases Vj (aD b).length (aD a).length with h1|h1
 ·exact absurd (rz h1) (V)
 ·exact h1
end Go.Proofs.R01
namespace Go.Proofs.R01
open Go.Hx Tryz
variable {n:Int}
abbrev iE (n:Int):Prop:=-9223372036854775808<=n/\n<=9223372036854775807
def oC (h:iE n):(aD n.natAbs).length<=5:=pN (by
 have:(10000:Nat) ^ 5=100000000000000000000:=Zk
 have:=h.1;have:=h.2;omega)
def EI {m:Int}(h:iE n)(h':iE m):(aD (n.natAbs*m.natAbs)).length<=10:=pN (by
 have e:(10000:Nat) ^ 10=10000 ^ 5*10000 ^ 5:=Zk
 rw[e];have:=zM (oC h);have:=zM (oC h');exact Nat.mul_lt_mul_of_lt_of_lt ‹_› ‹_›)
end Go.Proofs.R01
namespace Go.Proofs
open Go.Hx Tryz
def cH (l:List Int):List Zo:=l.map fun n=>.lit (.int .u8 n)
def uT {l:List Int}{k:Nat}{a:Int}(h:l[k]?=some a):(cH l)[k]?=some (.lit (.int .u8 a)):=by unfold cH;rw[List.getElem?_map,h];rfl
end Go.Proofs
namespace Go.Hx
variable {P:Program} {H H':Zn}
def rp {t e:TypeId}{lo n m:Nat}{v x:Zo}{cs src:List Zo}{z:List Zo}(ht:P.underlying t=some (.slice e))(hz:P.cellsOf e=1)(hzero:bS P e=some z)(hsrc:dc H 1 x=some (m,src))(hm:src.length=m)(hx:src.all Zo.one=true)
  (hb:(cs.length+m)*P.bytesOf e<=2 ^ 46/\cs.length+m<=2 ^ 46) (ho:aJ lo H e v cs) (hlo:lo<=H.A) (hn:n=H.A):
  ∃v' H',bU P H n t t v x=some (v',H')/\aJ lo H' e v' (cs++src)/\H.A<=H'.A/\(∀k,k<H.A->(∀g n,v≠.U k g 0 n 1)->H'.get k=H.get k):=by
 subst hm;obtain⟨v',H',hA,h2⟩:=uS (H:=H) (n:=n) ht hz hzero hx hb ho hlo hn;refine⟨v',H',?_,h2⟩;rw[<- hA];have e2:dc H 1 (.Q src.length src)=some (src.length,src):=by unfold dc;simp
 unfold bU;rw[ht];simp only[hz,hsrc,e2]
end Go.Hx
namespace Go.Proofs
open Go.Hx Tryz
variable {b g:Int}{l:List Int}{i n nx:Nat}{S:Nat->Prop}{H:Zn}
def U8 (n:Int):Prop:=0<=n/\n<256
def QR (n:Nat)(hn:n<=5)(ord:List Int)(H:Zn)(K:Zt->Zn->Prop)(hK:K (.ret (af (List.replicate n 1))) H):
  ae prog G0 120 [.agg [.Q n (cH (List.replicate n 0)),(.lit (.int .u16 0)),.Q ord.length (cH ord)]] H K:=by
 refine ae.Z ⟨_,func120,rfl,rfl⟩ fun hcl=>?_;refine ae.st (n:=28) (rs:=[.tmp 2]) func120 ?_;simp only[go_sem];obtain⟨H1,hH1⟩:∃H1,H1=ext H [.J 0 145 [.Q n (cH (List.replicate n 0)),.lit (.int .u16 0),.Q ord.length (cH ord)]]:=⟨_,rfl⟩
 have l1:=ag (show H1.get H.A=some (.J 0 145 [.Q n (cH (List.replicate n 0)),.lit (.int .u16 0),.Q ord.length (cH ord)]) by rw[hH1];exact cM ..);have n1:H1.A=H.A+1:=hH1▸rfl
 have o1:Zs H H1:=hH1▸.ext _ _
 rw[<- hH1];refine W.aS 134217720 (by rfl) (fun ρ H'=>∃k:Nat,ρ 4=aa k/\k<=n/\Zs H1 H'/\aJ H1.A H' 3 (ρ 3) (ints (List.replicate k 1))) (fun ρ H=>n-(iv (ρ 4)).toNat) ?_ ?_
 ·simp only[go_sem];exact⟨0,rfl,V,.refl _,.nil⟩
 rintro ρ H' ⟨k,h4,hk,ov,h3⟩;refine W.en (fun E=>E 1=.O H.A 0 0 /\ E 3=ρ 3 /\ E 4=aa k) (by simp only[go_sem,h4]) fun E ⟨e1,e3,e4⟩=>?_
 refine W.vs ?_;have l2:=(ov.na (g:=0) (by omega:H.A<H1.A)).trans l1;by_cases hb:(k:Int)<n
 ·have h5:(k:Int)<5:=V
  have hg:(cH (List.replicate n 0))[k]?=some (.lit (.int .u8 0)):=uT (by rw[Wn,UX V]);have hne:=bf hg;obtain⟨v',H2,hA,ov2,hO,hn2,_⟩:=lO 1 ov h3 (by simp;omega);have w1:=UU ((k:Int)+1) V;have hk0:(k:Int) >= 0:=V
  have w5:IntKind.i64.wrap (1+IntKind.i64.wrap (Int.tmod 0 4))=1:=Zk
  simp only[go_sem,e1,e3,e4,l2,hb,h5,hk0,hg,hne,w1,w5,hA];refine⟨by have:=ov2.A;omega,⟨k+1,rfl,V,ov2,?_⟩,by rw[h4];simp only[aa,bh];omega⟩;rw[List.replicate_succ'];exact hO
 ·simp only[go_sem,e1,e3,e4,l2,hb];obtain rfl:k=n:=V
  exact aj.bH aF hcl (o1.trans ov) (h3.iz fun i hi=>V) hK
structure Z2 (n:Nat)(p:List Int):Prop where
 len:p.length=n
 nd:p.Nodup
 nq:∀x∈p,0<=x/\x<n
def QS {p:List Int}(h:Z2 n p)(at':Nat)(ha:at'<=n):Z2 (n+1) (p.take at'++(n:Int) :: p.drop at'):=by
 have hperm:(p.take at'++(n:Int) :: p.drop at').Perm ((n:Int) :: p):=by
  have:=List.perm_middle (a:=(n:Int)) (l₁:=p.take at') (l₂:=p.drop at')
  rwa [VL]at this
 refine⟨by rw[hperm.length_eq];simp[h.len],(hperm.nodup_iff).2 (Xs.2 ⟨fun hm=>?_,h.nd⟩),fun x hx=>?_⟩
 ·have:=h.nq _ hm;omega
 ·rcases List.mem_cons.1 (hperm.mem_iff.1 hx) with rfl|h2
  ·omega
  ·have:=h.nq x h2;omega
def mU (ord:List Int)(k:Nat):Nat:=if k<ord.length then (ord.getD k 0 % ((k:Int)+1)).toNat else 0
def gP (ord:List Int):Nat->List Int
 |0=>[]
 |k+1=>(gP ord k).take (mU ord k)++(k:Int) :: (gP ord k).drop (mU ord k)
def QT (ord:List Int)(k:Nat):mU ord k<=k:=by
 unfold mU;split
 ·have:=Xp (ord.getD k 0) (show 0<(k:Int)+1 by omega);omega
 ·omega
theorem zA (ord:List Int):∀n:Nat,Z2 n (gP ord n)
 |0=>⟨rfl,by simp[gP],by simp[gP]⟩
 |n+1=>QS (zA ord n) _ (QT ord n)
def QU (n:Nat)(hn:n<=5)(ord:List Int)(hol:(ord.length:Int)<2 ^ 63)(ho8:∀x∈ord,U8 x)(H:Zn)(K:Zt->Zn->Prop)(hK:∀v H',Zs H H'->aJ H.A H' 3 v (ints (gP ord n))->K (.ret v) H'):
  ae prog G0 74 [.agg [.Q n (cH (List.replicate n 0)),.lit (.int .u16 0),.Q ord.length (cH ord)]] H K:=by
 refine ae.Z ⟨_,func74,rfl,rfl⟩ fun hcl=>?_;refine ae.st (n:=42) (rs:=[.tmp 2]) func74 ?_;simp only[go_sem];obtain⟨H1,hH1⟩:∃H1,H1=ext H [.J 0 145 [.Q n (cH (List.replicate n 0)),.lit (.int .u16 0),.Q ord.length (cH ord)]]:=⟨_,rfl⟩
 have l1:=ag (show H1.get H.A=some (.J 0 145 [.Q n (cH (List.replicate n 0)),.lit (.int .u16 0),.Q ord.length (cH ord)]) by rw[hH1];exact cM ..);have n1:H1.A=H.A+1:=hH1▸rfl
 have o1:Zs H H1:=hH1▸.ext _ _
 rw[<- hH1];refine W.aS 2199023255544 (by rfl) (fun ρ H'=>∃(k:Nat) (p:List Int),ρ 4=aa k/\k<=n/\p=gP ord k/\Zs H1 H'/\aJ H1.A H' 3 (ρ 3) (ints p)) (fun ρ H=>n-(iv (ρ 4)).toNat) ?_ ?_
 ·simp only[go_sem];exact⟨0,[],rfl,V,rfl,.refl _,.nil⟩
 rintro ρ H' ⟨k,p,h4,hk,hpe,ov,h3⟩;have hp:Z2 k p:=by rw[hpe];exact zA ord k
 refine W.en (fun E=>E 1=.O H.A 0 0 /\ E 3=ρ 3 /\ E 4=aa k) (by simp only[go_sem,h4]) fun E ⟨e1,e3,e4⟩=>?_
 refine W.vs ?_;have l2:=(ov.na (g:=0) (by omega:H.A<H1.A)).trans l1;simp only[go_sem,e1,l2];refine ao.Z (QR n hn ord _ _ ⟨trivial,?_⟩);by_cases hb:(k:Int)<n;rotate_left
 ·simp only[go_sem,Wi,e3,e4,hb];obtain rfl:k=n:=V
  exact aj.mk (o1.trans ov).A (hK _ _ (o1.trans ov) (by rw[<- hpe];exact h3.ng V Zm fun _ _ _ _ _ _=>rfl))
  -- the place
 rcases h3 with ⟨h3n,hpn⟩|⟨oi,og,hoi1,hoi2,h3o,hog⟩
 ·have p0:p=[]:=by cases p with
   |nil=>rfl
   |cons a l=>simp[ints]at hpn
  have pl:=hp.len;rw[p0]at pl;obtain rfl:k=0:=by simpa using pl.symm
  rw[h3n]at e3;have e4':E 4=aa 0:=e4;have hb':(0:Int)<n:=hb;by_cases ho:(0:Int)<ord.length
  ·obtain⟨b,hbg⟩:=aw (l:=ord) (i:=0) V;have b8:=ho8 b (an hbg);have hbg':=uT hbg;have hbne:=bf hbg';have w2:IntKind.i64.wrap b=b:=UU b (by have:=b8.1;have:=b8.2;omega);have w1:IntKind.i64.wrap 1=1:=Zk;have m1:b.tmod 1=0:=Zj;obtain⟨v2,Hb,hA2,ovB,hO2,hn2,hp2⟩:=lO (H:=H') (H':=H') (l:=[]) (v:=.lit (.slice none 0 0)) (0:Int) (.refl _) aJ.nil Zj;obtain⟨v3,Hc,hA3,hO3,hn3,hp3⟩:=rp (P:=prog) (H:=Hb) (t:=72) (n:=Hb.A) (m:=0) (v:=v2) (x:=.lit (.slice none 0 0)) (src:=[]) Tryz.underlying72 Tryz.fK Tryz.fy rfl rfl rfl (by rw[Tryz.gI];exact⟨Zk,Zk⟩) hO2 ovB.A rfl;have ovC:Zs H' Hc:=nf ovB hO2 hn3 hp3;have hA1:bU prog H' H'.A 72 72 (.lit (.slice none 0 0)) (.lit (.slice none 0 0))=some (.lit (.slice none 0 0),H'):=by
    unfold bU;rw[Tryz.underlying72];simp only[Tryz.fy,Tryz.fK,Option.bind_some,yt,if_true]
   have hO3':aJ H1.A Hc 3 v3 (ints [0]):=by
    rw[List.append_nil]at hO3;exact hO3.ng ov.A Zm fun _ _ _ _ _ _=>rfl
   simp only[go_sem,Wi,e1,e3,e4',l2,hb',ho,hbg',hbne,w1,w2,m1,hA1,hA2,hA3];refine⟨by have:=ovC.A;have:=ov.A;omega,⟨1,[0],rfl,V,by simp[gP],ov.trans ovC,hO3'⟩,by rw[h4];simp only[aa,bh];omega⟩
  ·have w1:IntKind.i64.wrap 1=1:=Zk;obtain⟨v2,Hb,hA2,ovB,hO2,hn2,hp2⟩:=lO (H:=H') (H':=H') (l:=[]) (v:=.lit (.slice none 0 0)) (0:Int) (.refl _) aJ.nil Zj;obtain⟨v3,Hc,hA3,hO3,hn3,hp3⟩:=rp (P:=prog) (H:=Hb) (t:=72) (n:=Hb.A) (m:=0) (v:=v2) (x:=.lit (.slice none 0 0)) (src:=[]) Tryz.underlying72 Tryz.fK Tryz.fy rfl rfl rfl (by rw[Tryz.gI];exact⟨Zk,Zk⟩) hO2 ovB.A rfl;have ovC:Zs H' Hc:=nf ovB hO2 hn3 hp3;have hA1:bU prog H' H'.A 72 72 (.lit (.slice none 0 0)) (.lit (.slice none 0 0))=some (.lit (.slice none 0 0),H'):=by
    unfold bU;rw[Tryz.underlying72];simp only[Tryz.fy,Tryz.fK,Option.bind_some,yt,if_true]
   have hO3':aJ H1.A Hc 3 v3 (ints [0]):=by
    rw[List.append_nil]at hO3;exact hO3.ng ov.A Zm fun _ _ _ _ _ _=>rfl
   simp only[go_sem,Wi,e1,e3,e4',l2,hb',ho,w1,hA1,hA2,hA3];refine⟨by have:=ovC.A;have:=ov.A;omega,⟨1,[0],rfl,V,by simp[gP],ov.trans ovC,hO3'⟩,by rw[h4];simp only[aa,bh];omega⟩
 rw[h3o]at e3;have lo:=ag hog;by_cases ho:(k:Int)<ord.length
 ·obtain⟨b,hbg⟩:=aw (l:=ord) (i:=k) V;have b8:=ho8 b (an hbg);have hbg':=uT hbg;have hbne:=bf hbg';have w0:=UU ((k:Int)+1) V;have w1:=w0;have w2:IntKind.i64.wrap b=b:=UU b (by have:=b8.1;have:=b8.2;omega);have m1:b.tmod ((k:Int)+1)=b % ((k:Int)+1):=VK b8.1;have m2:=XY b (show (k:Int)+1≠0 by omega);have m3:=Xp b (show 0<(k:Int)+1 by omega);have hz:¬(k:Int)+1=0:=V
  obtain⟨a,hat⟩:=U2 m2;have ha:a<=k:=V
  have hac:(0:Int)<=(a:Int):=V
  have hap:(a:Int)<=(p.length:Int):=by rw[hp.len];omega
  have hak:(0:Int)<=(a:Int)/\(a:Int)<=(p.length:Int):=⟨hac,hap⟩
  have pl:p.length=k:=hp.len;obtain⟨v1,Ha,hA1,hO1,hn1,hp1⟩:=rp (P:=prog) (H:=H') (t:=72) (n:=H'.A) (m:=a) (v:=.lit (.slice none 0 0)) (x:=.U oi og 0 a 1) (src:=(ints p).take a) Tryz.underlying72 Tryz.fK Tryz.fy
   (by rw[sP,UX rfl,lo];simp) (by simp[bG]<;>omega) (Vo.2 fun c hc=>by
    obtain⟨z,_,rfl⟩:=Vb.1 (Vk hc);rfl) (by rw[Tryz.gI];simp<;>omega) aJ.nil Zm rfl
  have ovA:Zs H' Ha:=⟨hn1,fun id hi=>hp1 id hi fun g n h=>by cases h⟩
  rw[List.nil_append,AB]at hO1;obtain⟨v2,Hb,hA2,ovB,hO2,hn2,hp2⟩:=lO (k:Int) ovA hO1 (by simp<;>omega);have hcl2:(ints (p.take a++[(k:Int)])).length<=k+1:=by rw[bG,List.length_append,Vd];simp<;>omega
  have hlb:Hb.na oi og=some (3,ints p):=(ovB.na hoi2).trans lo;obtain⟨v3,Hc,hA3,hO3,hn3,hp3⟩:=rp (P:=prog) (H:=Hb) (t:=72) (n:=Hb.A) (m:=p.length-a) (v:=v2) (x:=.U oi og a (p.length-a) 1) (src:=(ints p).drop a) Tryz.underlying72 Tryz.fK Tryz.fy
   (by rw[sP,UX rfl,hlb];simp[UY,bG]) (by simp[bG]) (Vo.2 fun c hc=>by
    obtain⟨z,_,rfl⟩:=Vb.1 (W4 hc);rfl) (by rw[Tryz.gI];omega) hO2 ovB.A rfl
  have ovC:Zs H' Hc:=nf ovB hO2 hn3 hp3;have hla:Ha.na oi og=some (3,ints p):=(ovA.na hoi2).trans lo;rw[AC]at hO3;have hO3':aJ H1.A Hc 3 v3 (ints (p.take a++(k:Int) :: p.drop a)):=by
   have:ints (p.take a++[(k:Int)])++ints (p.drop a)=ints (p.take a++(k:Int) :: p.drop a):=(by simp[ints]);rw[this]at hO3;exact hO3.ng ov.A Zm fun _ _ _ _ _ _=>rfl
  simp only[go_sem,Wi,e1,e3,e4,l2,hb,ho,hbg',hbne,w0,w2,m1,hz,hat,hac,hap,Int.toNat_natCast,lo,hlb,hA1,hA2,hA3];refine⟨by have:=ovC.A;omega,⟨k+1,_,rfl,V,by rw[gP,<- hpe,show mU ord k=a by unfold mU;rw[UX V,bK hbg,hat];rfl],ov.trans ovC,hO3'⟩,by rw[h4];simp only[aa,bh];omega⟩
 ·have w0:=UU ((k:Int)+1) V;have pl:p.length=k:=hp.len;obtain⟨v1,Ha,hA1,hO1,hn1,hp1⟩:=rp (P:=prog) (H:=H') (t:=72) (n:=H'.A) (m:=0) (v:=.lit (.slice none 0 0)) (x:=.U oi og 0 0 1) (src:=(ints p).take 0) Tryz.underlying72 Tryz.fK Tryz.fy
   (by rw[sP,UX rfl,lo];simp) (by simp[bG]<;>omega) (Vo.2 fun c hc=>by
    obtain⟨z,_,rfl⟩:=Vb.1 (Vk hc);rfl) (by rw[Tryz.gI];simp<;>omega) aJ.nil Zm rfl
  have ovA:Zs H' Ha:=⟨hn1,fun id hi=>hp1 id hi fun g n h=>by cases h⟩
  rw[List.nil_append,AB]at hO1;obtain⟨v2,Hb,hA2,ovB,hO2,hn2,hp2⟩:=lO (k:Int) ovA hO1 (by simp<;>omega);have hcl2:(ints (p.take 0++[(k:Int)])).length<=k+1:=by rw[bG,List.length_append,Vd];simp<;>omega
  have hlb:Hb.na oi og=some (3,ints p):=(ovB.na hoi2).trans lo;obtain⟨v3,Hc,hA3,hO3,hn3,hp3⟩:=rp (P:=prog) (H:=Hb) (t:=72) (n:=Hb.A) (m:=p.length) (v:=v2) (x:=.U oi og 0 (p.length) 1) (src:=(ints p).drop 0) Tryz.underlying72 Tryz.fK Tryz.fy
   (by rw[sP,UX rfl,hlb];simp[UY,bG]) (by simp[bG]) (Vo.2 fun c hc=>by
    obtain⟨z,_,rfl⟩:=Vb.1 (W4 hc);rfl) (by rw[Tryz.gI];omega) hO2 ovB.A rfl
  have ovC:Zs H' Hc:=nf ovB hO2 hn3 hp3;have hla:Ha.na oi og=some (3,ints p):=(ovA.na hoi2).trans lo;rw[AC]at hO3;have hO3':aJ H1.A Hc 3 v3 (ints (p.take 0++(k:Int) :: p.drop 0)):=by
   have:ints (p.take 0++[(k:Int)])++ints (p.drop 0)=ints (p.take 0++(k:Int) :: p.drop 0):=(by simp[ints]);rw[this]at hO3;exact hO3.ng ov.A Zm fun _ _ _ _ _ _=>rfl
  simp only[go_sem,Wi,e1,e3,e4,l2,hb,ho,w0,lo,hlb,hA1,hA2,hA3];refine⟨by have:=ovC.A;omega,⟨k+1,_,rfl,V,by rw[gP,<- hpe,show mU ord k=0 by unfold mU;rw[UW V]],ov.trans ovC,hO3'⟩,by rw[h4];simp only[aa,bh];omega⟩
def pI (h:∀x∈l,0<=x):0<=l.sum:=by
 induction l with
 |nil=>simp
 |cons a l ih =>
  rw[Wm];have:=h a Zj;have:=ih fun x hx=>h x (by simp[hx]);omega
def D6 {a:Int}(h:l[i]?=some a):(l.set i b).sum=l.sum-a+b:=by
 induction l generalizing i with
 |nil=>simp at h
 |cons x l ih =>
  cases i with
  |zero=>simp at h;subst h;simp only[List.set_cons_zero,Wm];omega
  |succ i =>
   simp only[List.set_cons_succ,Wm];rw[ih (by simpa using h)];omega
def QV (h:∀x∈l,0<=x/\x<=b):l.sum<=b*l.length:=by
 induction l with
 |nil=>simp
 |cons a l ih =>
  rw[Wm,List.length_cons];have:=(h a Zj).2;have:=ih fun x hx=>h x (by simp[hx]);rw[show b*((l.length+1:Nat):Int)=b*l.length+b by rw[Int.natCast_add,XH];simp];omega
def wF (n:Nat)(bs:List Int)(from':Int):List Int:=(List.range n).map fun (k:Nat)=>if bs.length=0 then 0 else bs.getD ((from'+(k:Int)) % (bs.length:Int)).toNat 0 % 8
def D7 (n:Nat)(bs:List Int)(from':Int):(wF n bs from').length=n:=by simp[wF]
def D8 (bs:List Int)(from':Int){k:Nat}(h:k<n):(wF n bs from')[k]?=some (if bs.length=0 then 0 else bs.getD ((from'+(k:Int)) % (bs.length:Int)).toNat 0 % 8):=by
 unfold wF;rw[List.getElem?_map,Vz h];rfl
def QW (n:Nat)(bs:List Int)(from':Int):∀x∈wF n bs from',0<=x/\x<=7:=fun x hx=>by
 unfold wF at hx;obtain⟨k,_,rfl⟩:=Vb.1 hx;split<;>omega
def vM (g s:Int)(st:List Int × Nat)(m:Nat):List Int × Nat:=if 0<st.1.getD m 0 then (st.1.set m (g*st.1.getD m 0 / s),m) else st
def jU (g:Int)(c:List Int)(m:Nat):List Int × Nat:=(List.range m).foldl (vM g c.sum) (c,0)
def D9 (g:Int)(c:List Int)(m:Nat):jU g c (m+1)=vM g c.sum (jU g c m) m:=by unfold jU;rw[VH,V5];rfl
def oz (g:Int)(n:Nat)(bs:List Int)(from':Int):List Int:=(jU g (wF n bs from') n).1.set (jU g (wF n bs from') n).2 ((jU g (wF n bs from') n).1.getD (jU g (wF n bs from') n).2 0+(g-(jU g (wF n bs from') n).1.sum))
structure RInv (g:Int)(c:List Int)(m:Nat)(d:List Int)(last:Nat):Prop where
 dl:d.length=c.length
 d0:∀x∈d,0<=x
 dd:d.drop m=c.drop m
 dg:(d.take m).sum<=g
 ds:c.sum*(d.take m).sum<=g*(c.take m).sum
 la:last<c.length
def Ea {c:List Int}(hg:1<=g)(hc:∀x∈c,0<=x)(hl:0<c.length):∀m,m<=c.length->RInv g c m (jU g c m).1 (jU g c m).2:=by
 intro m
 induction m with
 |zero=>intro _;exact⟨rfl,hc,rfl,by simp;omega,Zj,hl⟩
 |succ m ih =>
  intro hm;obtain⟨hdl,hd0,hdd,hdg,hds,hla⟩:=ih V;rw[D9];generalize jU g c m=st at *
  obtain⟨d,last⟩:=st;simp only at hdl hd0 hdd hdg hds hla;obtain⟨x,hcx⟩:=aw (l:=c) (i:=m) V;have hx0:=hc x (an hcx);have hdx:d[m]?=some x:=by
   have h1:(d.drop m)[0]?=d[m]?:=(by rw[We];rfl);have h2:(c.drop m)[0]?=c[m]?:=(by rw[We];rfl);rw[<- h1,hdd,h2,hcx]
  have hdd':d.drop (m+1)=c.drop (m+1):=by
   have:=congrArg (List.drop 1) hdd
   rwa [Xk,Xk]at this
  have hct:(c.take (m+1)).sum=(c.take m).sum+x:=by rw[bd hcx];simp
  have hcs:(c.take (m+1)).sum+(c.drop (m+1)).sum=c.sum:=by rw[<- Yk,VL]
  have hcd0:=pI (l:=c.drop (m+1)) fun y hy=>hc y (W4 hy);have hc00:=pI (l:=c.take m) fun y hy=>hc y (Vk hy);have hd00:=pI (l:=d.take m) fun y hy=>hd0 y (Vk hy);unfold vM;rw[bK hdx];by_cases hx:0<x
  ·rw[UX hx];have gx:0<=g*x:=WG V hx0;have y0:0<=g*x / c.sum:=Int.ediv_nonneg gx V;have y2:c.sum*(g*x / c.sum)<=g*x:=Y9 V;have dt:((d.set m (g*x / c.sum)).take (m+1)).sum=(d.take m).sum+g*x / c.sum:=by
    rw[bd (Vi V),XW Zm];simp
   have hs2:c.sum*((d.take m).sum+g*x / c.sum)<=g*(c.take (m+1)).sum:=by
    rw[XH,hct,XH];omega
   have hle:(d.take m).sum+g*x / c.sum<=g:=by
    have h1:g*(c.take (m+1)).sum<=g*c.sum:=VE V V;have h2:c.sum*((d.take m).sum+g*x / c.sum)<=c.sum*g:=(by rw[Wb c.sum g];omega);exact YU h2 (V)
   refine⟨by simp[hdl],fun y hy=>?_,?_,by dsimp only;rw[dt];exact hle,by dsimp only;rw[dt];exact hs2,by dsimp only;omega⟩
   ·rcases VS hy with h|h
    ·exact hd0 y h
    ·omega
   ·rw[<- hdd',Zg V]
  ·rw[UW hx];have x0:x=0:=V;have dt:(d.take (m+1)).sum=(d.take m).sum:=(by rw[bd hdx,x0];simp);rw[x0,Xt]at hct;exact⟨hdl,hd0,hdd',by dsimp only;rw[dt];exact hdg,by dsimp only;rw[dt,hct];exact hds,hla⟩
def QX (hg:1<=g)(hn:1<=n)(bs:List Int)(from':Int):kI g n (oz g n bs from'):=by
 have hw:=D7 n bs from';have I:=Ea (g:=g) (c:=wF n bs from') hg (fun x hx=>(QW n bs from' x hx).1) V n V;unfold oz;generalize jU g (wF n bs from') n=st at *
 obtain⟨d,last⟩:=st;obtain⟨hdl,hd0,hdd,hdg,hds,hla⟩:=I;dsimp only at hdl hd0 hdd hdg hds hla ⊢;obtain⟨y,hy⟩:=aw (l:=d) (i:=last) V;have y0:=hd0 y (an hy);rw[bK hy];rw[UY V]at hdg;have hs:(d.set last (y+(g-d.sum))).sum=g:=by rw[D6 hy];omega
 have h0:∀w∈d.set last (y+(g-d.sum)),0<=w:=fun w hw=>by
  rcases VS hw with h|h
  ·exact hd0 w h
  ·omega
 exact⟨by simp[hdl,hw],fun w hw=>⟨h0 w hw,by have:=Al h0 w hw;omega⟩,hs⟩
def QY (g:Int)(n:Nat)(hg:1<=g/\g<=60)(hn:1<=n/\n<=4)(bs:List Int)(hbl:(bs.length:Int)<2 ^ 63)(hb8:∀x∈bs,U8 x)(from':Int)(hf:0<=from'/\from'<=1000000)(H:Zn)(K:Zt->Zn->Prop)(hK:∀v H',Zs H H'->aJ H.A H' 3 v (ints (oz g n bs from'))->K (.ret v) H'):
  ae prog G0 77 [aa g,aa n,.Q bs.length (cH bs),aa from'] H K:=by
 refine ae.Z ⟨_,func77,rfl,rfl⟩ fun hcl=>?_;refine ae.st (n:=84) (rs:=[.tmp 8]) func77 ?_;simp only[go_sem];refine⟨V,?_⟩;refine W.aS 35184371960832 (by rfl) (fun ρ H'=>∃(k:Nat) (c:List Int),ρ 11=aa k/\k<=n/\c.length=n/\(∀x∈c,0<=x/\x<=7)/\(∀j x,k<=j->c[j]?=some x->x=0)/\(∀j,j<k->c[j]?=(wF n bs from')[j]?)/\ρ 10=aa c.sum/\ZL H H' H.A c) (fun ρ H=>n-(iv (ρ 11)).toNat) ?_ ?_
 ·simp only[go_sem];refine⟨0,List.replicate n 0,rfl,V,Zj,fun x hx=>?_,fun j x _ hx=>?_,fun j hj=>V,Zj,?_⟩
  ·have:=Wx hx;omega
  ·exact Wx (an hx)
  ·exact .new [] _
 rintro ρ H' ⟨k,c,h11,hk,hcl',hc7,hc0,hcw,h10,ho⟩;refine W.en (fun E=>E 0=aa g /\ E 1=aa n /\ E 2=.Q bs.length (cH bs) /\ E 3=aa from' /\ E 9=.U H.A 0 0 n 1 /\ E 10=aa c.sum /\ E 11=aa k) (by simp only[go_sem,h10,h11]) fun E ⟨e0,e1,e2,e3,e9,e10,e11⟩=>?_
 refine W.vs ?_;have lN:=ho.na;have hs0:=pI fun x hx=>(hc7 x hx).1;have hs1:=QV hc7;by_cases hb:(k:Int)<n
 ·have hck:c[k]?=some 0:=by
   obtain⟨a,ha⟩:=aw (l:=c) (i:=k) V;rw[ha,hc0 k a Zm ha]
  have hcne:=bf hck;have hk0:(k:Int) >= 0:=V
  have w1:=UU ((k:Int)+1) V;by_cases hz:(0:Int)<bs.length
  ·have hzn:¬(bs.length:Int)=0:=V;have w2:=UU (from'+k) V;have m1:(from'+(k:Int)).tmod bs.length=(from'+k) % bs.length:=VK V;have m2:=XY (from'+k) hzn;have m3:=Xp (from'+k) hz;obtain⟨q,hq⟩:=U2 m2;have hq0:(q:Int) >= 0:=V;have hql:(q:Int)<bs.length:=V;obtain⟨b,hbg⟩:=aw (l:=bs) (i:=q) V;have b8:=hb8 b (an hbg);have hbg':=uT hbg;have hbne:=bf hbg';have t1:b.tmod 8=b % 8:=VK b8.1;have w3:IntKind.u8.wrap (b % 8)=b % 8:=YX _ V;have w4:IntKind.i64.wrap (b % 8)=b % 8:=UU _ V;have w5:=UU (c.sum+b % 8) V;have hsg:(setAt (ints c) k [.lit (.int .i64 (b % 8))])[k]?=some (.lit (.int .i64 (b % 8))):=by
    rw[iQ V,gX,Vi V];rfl
   simp only[go_sem,hsg,e1,e2,e3,e9,e10,e11,hb,hz,hzn,w1,w2,m1,hq,hq0,hql,hbg',hbne,t1,w4,w5,hk0,lN];refine⟨V,by have:=ho.hi;rw[aP];omega,⟨k+1,c.set k (b % 8),rfl,V,by simp[hcl'],fun x hx=>?_,fun j x hj hx=>?_,fun j hj=>?_,by rw[D6 hck,Y3],ho.store V _⟩,by rw[h11];simp only[aa,bh];omega⟩
   ·rcases VS hx with h|h
    ·exact hc7 x h
    ·omega
   ·rw[Vw V]at hx;exact hc0 j x V hx
   ·by_cases hjk:j=k
    ·subst hjk;rw[Vi V,D8 bs from' V,UW V,hq,Int.toNat_natCast,bK hbg]
    ·rw[Vw V];exact hcw j (V)
  ·have w5:=UU (c.sum+0) V;rw[Xt]at w5;simp only[go_sem,e1,e2,e9,e10,e11,hb,hz,w1,w5,Xt,hk0,hck,lN];refine⟨by have:=ho.hi;omega,⟨k+1,c,rfl,V,hcl',hc7,fun j x hj hx=>hc0 j x V hx,fun j hj=>by
    by_cases hjk:j=k
    ·subst hjk;rw[hck,D8 bs from' V,UX V]
    ·exact hcw j V,rfl,ho⟩,by rw[h11];simp only[aa,bh];omega⟩
 ·obtain rfl:k=n:=V
  simp only[go_sem,e1,e11,hb];have hcwF:c=wF k bs from':=by
   apply VG;intro j;rcases Vj j k with h|h
   ·exact hcw j h
   ·rw[U3 V,U3 (by rw[D7];exact h)]
  have hRI:=fun m (hm:m<=k)=>Ea (g:=g) (c:=c) hg.1 (fun x hx=>(hc7 x hx).1) V m V;refine W.aS 18889465861109836705792 (by rfl) (fun ρ H2=>∃(m last:Nat) (d:List Int),ρ 14=aa m/\m<=k/\jU g c m=(d,last)/\ρ 12=aa (g-(d.take m).sum)/\ρ 13=aa last/\H'.A<=H2.A/\ZL H H2 H.A d) (fun ρ H=>k-(iv (ρ 14)).toNat) ?_ ?_
  ·simp only[go_sem,e0];exact⟨0,0,c,rfl,V,rfl,Zj,rfl,ho⟩
  rintro ρ2 H2 ⟨m,last,d,h14,hm,hrf,h12,h13,hnn,hod⟩;obtain⟨hdl,hd0,hdd,hdg,hds,hlast⟩:RInv g c m d last:=by have:=hRI m hm;rw[hrf]at this;exact this
  rw[hcl']at hdl hlast;have hrs:=D9 g c m;rw[hrf]at hrs;unfold vM at hrs;dsimp only at hrs;refine W.en (fun E2=>E2 0=aa g /\ E2 1=aa k /\ E2 9=.U H.A 0 0 k 1 /\ E2 10=aa c.sum /\ E2 12=aa (g-(d.take m).sum) /\ E2 13=aa last /\ E2 14=aa m) (by simp only[go_sem,e0,e1,e9,e10,h12,h13,h14]) fun E2 ⟨f0,f1,f9,f10,f12,f13,f14⟩=>?_
  refine W.vs ?_;have lN2:=hod.na;by_cases hb2:(m:Int)<k
  ·obtain⟨x,hcx⟩:=aw (l:=c) (i:=m) V;have hx7:=hc7 x (an hcx);have hdx:d[m]?=some x:=by
    have h1:(d.drop m)[0]?=d[m]?:=(by rw[We];rfl);have h2:(c.drop m)[0]?=c[m]?:=(by rw[We];rfl);rw[<- h1,hdd,h2,hcx]
   have hdne:=bf hdx;have hm0:(m:Int) >= 0:=V;have w1:=UU ((m:Int)+1) V;have hdd':d.drop (m+1)=c.drop (m+1):=by
    have:=congrArg (List.drop 1) hdd
    rwa [Xk,Xk]at this
   have hct:(c.take (m+1)).sum=(c.take m).sum+x:=(by rw[bd hcx];simp);have hcs:(c.take (m+1)).sum+(c.drop (m+1)).sum=c.sum:=(by rw[<- Yk,VL]);have hcd0:=pI (l:=c.drop (m+1)) fun y hy=>(hc7 y (W4 hy)).1;have hc00:=pI (l:=c.take m) fun y hy=>(hc7 y (Vk hy)).1;have hd00:=pI (l:=d.take m) fun y hy=>hd0 y (Vk hy);by_cases hx:0<x
   ·have hsz:¬c.sum=0:=V;have gx:0<=g*x:=WG V hx7.1;have gx2:g*x<=60*7:=Wy hg.2 hx7.2 hx7.1 V;have w2:=UU (g*x) V;have t1:(g*x).tdiv c.sum=g*x / c.sum:=VO gx;have y0:0<=g*x / c.sum:=Int.ediv_nonneg gx hs0;have y1:g*x / c.sum<=g*x:=Int.ediv_le_self _ gx;have y2:c.sum*(g*x / c.sum)<=g*x:=Y9 V;have w3:=UU (g*x / c.sum) V;have w4:=UU (g-(d.take m).sum-g*x / c.sum) V;have hsg:(setAt (ints d) m [.lit (.int .i64 (g*x / c.sum))])[m]?=some (.lit (.int .i64 (g*x / c.sum))):=by
     rw[iQ V,gX,Vi V];rfl
    have dt:((d.set m (g*x / c.sum)).take (m+1)).sum=(d.take m).sum+g*x / c.sum:=by
     rw[bd (Vi V),XW Zm];simp
    have hs2:c.sum*((d.take m).sum+g*x / c.sum)<=g*(c.take (m+1)).sum:=by
     rw[XH,hct,XH];omega
    have hle:(d.take m).sum+g*x / c.sum<=g:=by
     have h1:g*(c.take (m+1)).sum<=g*c.sum:=VE V V;have h2:c.sum*((d.take m).sum+g*x / c.sum)<=c.sum*g:=(by rw[Wb c.sum g];omega);exact YU h2 (V)
    simp only[go_sem,hsg,f0,f1,f9,f10,f12,f13,f14,hb2,hx,hsz,w1,w2,t1,w3,w4,hm0,hdx,lN2];rw[bK hdx,UX hx]at hrs;exact⟨V,by rw[aP];exact hnn,⟨m+1,m,d.set m (g*x / c.sum),rfl,V,hrs,by rw[dt];congr 2;omega,rfl,by rw[aP];exact hnn,hod.store V _⟩,by rw[h14];simp only[aa,bh];omega⟩
   ·have x0:x=0:=V;have w4:=UU (g-(d.take m).sum) V;simp only[go_sem,f1,f9,f12,f13,f14,hb2,x0,w1,w4,hm0,hdx,Y3,lN2];have dt:(d.take (m+1)).sum=(d.take m).sum:=(by rw[bd hdx,x0];simp);rw[x0,Xt]at hct;rw[bK hdx,UW hx]at hrs;exact⟨hnn,⟨m+1,last,d,rfl,V,hrs,by rw[dt],rfl,hnn,hod⟩,by rw[h14];simp only[aa,bh];omega⟩
  ·obtain rfl:m=k:=V;obtain⟨y,hy⟩:=aw (l:=d) (i:=last) V;have hyne:=bf hy;have hl0:(last:Int) >= 0:=V;have hlk:(last:Int)<m:=V;have y0:=hd0 y (an hy);rw[UY V]at hdg hds h12 f12;have hyle:=Al hd0 y (an hy);have w1:=UU (y+(g-d.sum)) V;have hle:last+1<=d.length:=V;simp only[go_sem,f1,f9,f12,f13,f14,hb2,hl0,hlk,hy,lN2,w1];refine⟨hle,?_⟩;have hrow:oz g m bs from'=d.set last (y+(g-d.sum)):=by
    unfold oz;rw[<- hcwF,hrf];dsimp only;rw[bK hy]
   rw[hrow]at hK;have ho2:=hod.store (k:=last) V (y+(g-d.sum));refine aj.mk ho2.ov.A (hK _ _ ho2.ov (.inr ⟨_,0,ho2.lo,ho2.hi,?_,ho2.get⟩));rw[bG,Vm,hdl]
structure ZP where
 L:Int
 par:Int
 w:List Int
def ZP.cells (x:ZP):List Zo:=[.lit (.int .u8 x.L),.lit (.int .u8 x.par),.Q x.w.length (cH x.w)]
def fZ (l:List ZP):List Zo:=(l.map ZP.cells).flatten
def ZP.Ok (x:ZP):Prop:=U8 x.L/\U8 x.par/\(x.w.length:Int)<2 ^ 63/\∀b∈x.w,U8 b
def vR (g:Int)(ps:List ZP)(ord:List Int):Zo:=.agg [.lit (.int .u8 g),.Q ps.length (fZ ps),.Q ord.length (cH ord)]
def Ej {l:List ZP}{x:ZP}(h:l[i]?=some x):((fZ l).drop (i*3)).take 3=[.lit (.int .u8 x.L),.lit (.int .u8 x.par),.Q x.w.length (cH x.w)]:=oq (f:=ZP.cells) (z:=3) (fun _=>rfl) l i x h
def Ek (l:List ZP):(fZ l).length=l.length*3:=mb (f:=ZP.cells) (fun _=>rfl) l
def Zp.cY (x:Zp):List Zo:=if x.nb=[] then [aa x.L,.lit (.slice none 0 0),.lit (.slice none 0 0)] else [aa x.L,af x.F,aZ x.nb]
def bQ (l:List Zp):List Zo:=(l.map Zp.cY).flatten
def lu (x:Zp):x.cY.length=3:=by unfold Zp.cY;split<;>rfl
def El (l:List Zp):(bQ l).length=l.length*3:=mb (f:=Zp.cY) lu l
variable {x:Zp}
def Em {l:List Zp}(h:l[i]?=some x):(bQ l)[i*3]?=some (aa x.L):=by
 have:=ko (f:=Zp.cY) (z:=3) lu l i 0 x h V;rw[Nat.add_zero]at this;rw[show (bQ l)[i*3]?=_ from this];unfold Zp.cY;split<;>rfl
def Rf {l:List Zp}(h:∀x∈l,x.nb≠[]):bQ l=aH l:=by
 unfold bQ aH;congr 1;exact Vn fun x hx=>UW (h x hx)
def vS {α:Type}{f:α->List Zo}{z:Nat}(hz:∀a,(f a).length=z):∀(l:List α) (i:Nat) (a:α),i<l.length->((l.set i a).map f).flatten=((l.map f).flatten).take (i*z)++f a++((l.map f).flatten).drop (i*z+z):=by
 intro l
 induction l with
 |nil=>intro i a h;simp at h
 |cons b l ih =>
  intro i a h;cases i with
  |zero=>simp[hz]
  |succ i =>
   have hb:=hz b;simp only[List.set_cons_succ,List.map_cons,List.flatten_cons];rw[ih i a (by simpa using h),show (i+1)*z=z+i*z by rw[VD];omega,List.take_append,List.drop_append,hb];rw[UY (l:=f b) (i:=z+i*z) V,Yf (l:=f b) (i:=z+i*z+z) V,show z+i*z-z=i*z by omega,show z+i*z+z-z=i*z+z by omega];simp
def En {A B:List Zo}{a b:Zo}(h:∀j (h:j<A.length) (h':j<B.length),Fz S H nx A[j] B[j])(hab:Fz S H nx a b):∀j (h:j<(A.set i a).length) (h':j<(B.set i b).length),Fz S H nx (A.set i a)[j] (B.set i b)[j]:=by
 intro j h1 h2;rw[Yc,Yc];split
 ·exact hab
 ·exact h j (by simpa using h1) (by simpa using h2)
def zF (l:List (List Int)):Fz S H nx (aZ l) (aZ l):=.Q rfl fun i hi _=>by simp only[Ve];exact .dW _
def Rg (x:Zp):∀c∈x.cY,Fz S H nx c c:=by
 intro c hc;unfold Zp.cY at hc;split at hc
 ·simp only[List.mem_cons,List.not_mem_nil,or_false]at hc;rcases hc with rfl|rfl|rfl<;>exact .lit _
 ·simp only[List.mem_cons,List.not_mem_nil,or_false]at hc;rcases hc with rfl|rfl|rfl
  ·exact .lit _
  ·exact .dW _
  ·exact zF _
def Eo (l:List Zp):∀c∈bQ l,Fz S H nx c c:=by
 intro c hc;unfold bQ at hc;obtain⟨r,hr,hc⟩:=Xz.1 hc;obtain⟨x,_,rfl⟩:=Vb.1 hr;exact Rg x c hc
def Rh :∀(l:List Zp),(∀x∈l,x.nb=[]->x.F=[])->∀(i:Nat) (h:i<(bQ l).length) (h':i<(aH l).length),Fz S H nx (bQ l)[i] (aH l)[i]:=by
 intro l
 induction l with
 |nil=>intro _ i h;simp[bQ]at h
 |cons x l ih =>
  intro hx i h h';have e1:bQ (x :: l)=x.cY++bQ l:=by simp[bQ]
  have e2:aH (x :: l)=x.cells++aH l:=by simp[aH]
  have l1:=lu x;have l2:x.cells.length=3:=rfl;have hc:∀(i:Nat) (h:i<x.cY.length) (h':i<x.cells.length),Fz S H nx x.cY[i] x.cells[i]:=by
   intro i h h';by_cases hr:x.nb=[]
   ·have hp:=hx x Zj hr;have ez:x.cY=[aa x.L,.lit (.slice none 0 0),.lit (.slice none 0 0)]:=UX hr;have ec:x.cells=[aa x.L,af [],aZ []]:=(by unfold Zp.cells;rw[hr,hp]);simp only[ez,ec]
    match i,h' with
    |0,_=>exact .lit _
    |1,_=>exact .nil
    |2,_=>exact .nil
   ·have ez:x.cY=x.cells:=UW hr;simp only[ez]
    match i,h' with
    |0,_=>exact .lit _
    |1,_=>exact .dW _
    |2,_=>exact zF _
  simp only[e1,e2];by_cases hi:i<3
  ·rw[V0 V,V0 V];exact hc i V (V)
  ·rw[V9 V,V9 V];simp only[l1,l2];exact ih (fun y hy=>hx y (by simp[hy])) (i-3) _ _
def Ri {l:List Zp}{y:Zp}(h:l[i]?=some x)(hy:y.L=x.L):aH (l.set i y)=((aH l).set (i*3+1) (af y.F)).set (i*3+2) (aZ y.nb):=by
 have hl:=aO h;have h1:=vS (f:=Zp.cells) (z:=3) (fun _=>rfl) l i y hl;have h2:=oq (f:=Zp.cells) (z:=3) (fun _=>rfl) l i x h;unfold aH;rw[h1];have h3:(l.map Zp.cells).flatten=((l.map Zp.cells).flatten).take (i*3)++(x.cells++((l.map Zp.cells).flatten).drop (i*3+3)):=by
  rw[<- h2,<- Xk,VL,VL]
 have hlen:(((l.map Zp.cells).flatten).take (i*3)).length=i*3:=by
  rw[Vd,mb (f:=Zp.cells) (z:=3) (fun _=>rfl)];omega
 conv=>rhs;rw[h3]
 rw[Wh _ _ V,Wh _ _ V,hlen,show i*3+1-i*3=1 by omega,show i*3+2-i*3=2 by omega];unfold Zp.cells;simp[hy]
def vT {lo:Nat}{e:TypeId}{v:Zo}{cs:List Zo}(h:aJ lo H e v cs){d:Option TypeDesc}{t:TypeId}(hd:d=some (.slice t)):sM d H v=some (.lit (.int .i64 cs.length)):=by
 subst hd;rcases h with ⟨rfl,rfl⟩|⟨id,g,_,_,rfl,h4⟩
 ·rfl
 ·rw[qK,BV,ag h4];rfl
def Rj (l p:List Int)(hl:(l.length:Int)<2 ^ 40)(hp:(p.length:Int)<2 ^ 39)(hin:∀q∈p,0<=q/\q<l.length)(H:Zn)(K:Zt->Zn->Prop)(hK:∀v H',Zs H H'->aJ H.A H' 3 v (ints (aL l p))->K (.ret v) H'):ae prog G0 121 [af l,af p] H K:=by
 refine ae.Z ⟨_,func121,rfl,rfl⟩ fun hcl=>?_;refine ae.st (n:=24) (rs:=[.tmp 4]) func121 ?_;simp only[go_sem];refine W.aS 8388576 (by rfl) (fun ρ H'=>∃k:Nat,ρ 6=aa k/\k<=p.length/\Zs H H'/\aJ H.A H' 3 (ρ 5) (ints (aL l (p.take k)))) (fun ρ H=>p.length-(iv (ρ 6)).toNat) ?_ ?_
 ·simp only[go_sem];exact⟨0,rfl,V,.refl _,.nil⟩
 rintro ρ H' ⟨k,h6,hk,ov,h5⟩;refine W.vs ?_;by_cases hb:(k:Int)<p.length
 ·obtain⟨q,hq⟩:=aw (l:=p) (i:=k) V;obtain⟨j,rfl,a,ha⟩:=mQ (hin q (an hq)).1 (hin q (an hq)).2;have hne:=bf hq;have hne2:=bf ha;have hj:=aO ha;have hj':(j:Int)<l.length:=V
  obtain⟨v',H2,hA,ov2,hO,hn2,_⟩:=lO a ov h5 (by simp[aL];omega);have w1:=UU ((k:Int)+1) V;simp only[go_sem,h6,hb,hq,hne,ha,hne2,hj',w1,hA];refine⟨by have:=ov2.A;omega,⟨k+1,Zj,V,ov2,?_⟩,V⟩;rw[SR hq,Int.toNat_natCast,bK ha];exact hO
 ·simp only[go_sem,h6,hb];rw[UY V]at h5;exact aj.mk ov.A (hK _ _ ov h5)
def Rk (g:Int)(ns:List Zp)(v:Nat)(x:Zp)(hx:ns[v]?=some x)(hl:(ns.length:Int)<2 ^ 39)(hp:(x.F.length:Int)<2 ^ 39)(hin:iG x.F ns.length)(H:Zn)(K:Zt->Zn->Prop)
  (hK:∀v H',Zs H H'->aJ H.A H' 3 v (ints (aT ns x))->K (.ret v) H'):ae prog G0 76 [eQ g ns,aa v] H K:=by
 refine ae.Z ⟨_,func76,rfl,rfl⟩ fun hcl=>?_;have hne:=fM hx;have e1:=mP hx;have hv:(v:Int)<ns.length:=by have:=aO hx;omega
 refine ae.st (n:=14) (rs:=[.tmp 4]) func76 ?_;simp only[go_sem,eQ,eM];refine W.dr 8 [0,1,0,4,0,28,60,124] mixed ?_;simp only[go_sem];refine⟨af (au ns),[],bF.pure fun H2=>SU g ns hl H2 _ ⟨rfl,rfl⟩,?_⟩;simp only[go_sem,hv,hne,e1];refine ao.Z (Rj (au ns) x.F (by rw[eO];omega) hp (by rw[eO];exact hin) _ _ fun w H3 ov ho=>⟨trivial,?_⟩);simp only[go_sem];have o1:Zs H H3:=(Zs.ext _ _).trans ov;exact aj.mk o1.A (hK _ _ o1 (ho.ng (by simp[aV]) Zm fun _ _ _ _ _ _=>rfl))
def Ep {ns:List Zp}{P:List Int}(hP:Z2 ns.length P)(hall:∀v:Nat,v<ns.length->(v:Int)∈P)(hr:∀(j v:Nat) (x:Zp),P[j]?=some (v:Int)->ns[v]?=some x->∀q∈x.F,0<=q/\∃k,k<j/\P[k]?=some q):jS (az ns):=by
 intro v hv;have hl:(az ns).length=ns.length:=by simp[az]
 rw[hl]at hv;obtain⟨j,hj⟩:=U1.1 (hall v hv);have h0:∀p∈P.take j,0<=p:=fun p hp=>(hP.nq p (Vk hp)).1;have sub:∀(k u:Nat) (x:Zp),k<=j->P[k]?=some (u:Int)->ns[u]?=some x->Sub ((az ns).getD u 0) (bt (P.take j)):=fun k u x hk hu hx i hi=>by
  rw[bK (kH hx)]at hi;have hp0:∀p∈x.F,0<=p:=fun p hp=>(hr k u x hu hx p hp).1;rw[gK hp0]at hi;obtain⟨_,k',hk',hq⟩:=hr k u x hu hx _ (of_decide_eq_true hi);rw[gK h0];refine Vl ?_;exact U1.2 ⟨k',by rw[Vg V];exact hq⟩
 have hcl:me (az ns) (bt (P.take j)):=fun u hu ht=>by
  rw[hl]at hu;rw[gK h0]at ht;obtain⟨k,hk⟩:=U1.1 (of_decide_eq_true ht);have hkl:=aO hk;rw[Vd]at hkl;rw[Vg V]at hk;obtain⟨x,hx⟩:=aw hu;exact sub k u x V hk hx
 obtain⟨x,hx⟩:=aw hv;have h1:=pC hcl (az ns).length (sub j v x Zm hj hx);cases hb:(dJ (az ns) ((az ns).getD v 0)).testBit v with
 |false=>rfl
 |true =>
  exfalso;have h2:=h1 v hb;rw[gK h0]at h2;obtain⟨k,hk⟩:=U1.1 (of_decide_eq_true h2);have hkl:=aO hk;rw[Vd]at hkl;rw[Vg V]at hk;have e:P[k]?=P[j]?:=by rw[hk,hj]
  have:=(Wa (aO hk) hP.nd).1 e;omega
end Go.Proofs
