/- Own work: contracts. -/
import Derived.Test.YtebhdkihcdmmjaaGreatConB
import Derived.Test.YtebhdkihcdmmjaaGreatConA
set_option linter.all false
set_option maxHeartbeats 8000000
set_option maxRecDepth 100000
namespace Go.Proofs.R01
open Go.Hx Tryz
section
variable {P:Program} {t:TypeId} {x y:Operand} {k k':IntKind} {a b:Int}
def pureRun_bind {α β:Type}{s:Sem α}{f:α->Sem β}{a:α}(h:aP P s=some a):aP P (s >>= f)=aP P (f a):=by
 induction s with
 |pure b=>simp only[aP,Option.some.injEq]at h;subst h;rfl
 |program k ih=>exact ih P h
 |mark m k ih=>exact ih h
 |_=>simp[aP]at h
def tA {t:TypeId}{a b:Bool}(n:Nat)(ht:P.underlying t=some .bool):aP P (Op.equalIn (n+1) t (.bool a) (.bool b))=some (a == b):=by
 unfold Op.equalIn;simp[underlying,program,ht,aP,bind,Sem.bind,pure]
def mR {t:TypeId}{x y:Operand}{a b:Bool}(ht:P.underlying t=some .bool):aU P .eql t x y (.lit (.bool a)) (.lit (.bool b))=some (.lit (.bool (a == b))):=by
 have h1:(do eqGuard .eql t x y (.bool a) (.bool b);binOp .eql t (.bool a) (.bool b))=(Op.equalIn (9999+1) t (.bool a) (.bool b) >>= fun r=>pure (Value.bool r)):=rfl;show (aP P _).map _=_;rw[h1,pureRun_bind (tA 9999 ht)];rfl
def mS {t:TypeId}{x y:Operand}{a b:Bool}(ht:P.underlying t=some .bool):aU P .neq t x y (.lit (.bool a)) (.lit (.bool b))=some (.lit (.bool (!(a == b)))):=by
 have h1:(do eqGuard .neq t x y (.bool a) (.bool b);binOp .neq t (.bool a) (.bool b))=(Op.equalIn (9999+1) t (.bool a) (.bool b) >>= fun r=>pure (Value.bool (!r))):=rfl;show (aP P _).map _=_;rw[h1,pureRun_bind (tA 9999 ht)];rfl
end
section
variable {P:Program} {G:Nat->Option (List ZL)}
def Fp {n m:Nat}{v:ZL}(h:Below n v)(hm:n<=m):Below m v:=by
 induction h with
 |lit v=>exact .lit v
 |Q h ih=>exact .Q ih
 |ni h ih=>exact .ni ih
 |agg h ih=>exact .agg ih
 |nc h ih=>exact .nc ih
 |X h1 h2 ih1 ih2=>exact .X ih1 ih2
 |U h=>exact .U (V)
 |O h=>exact .O (V)
 |nk h=>exact .nk (V)
def Sh {n m:Nat}{b:ZR}(h:te n b)(hm:n<=m):te m b:=by
 cases b with
 |J g e cells=>exact fun i hi=>Fp (h i hi) hm
 |loop st pend n env ps asg body=>exact fun t ht=>Fp (h t ht) hm
 |nq=>trivial
 |mp=>exact h
def Si {H:ZK}(hc:Clo H){L:List ZR}(h:∀b,b∈L->te (H.A+L.length) b):Clo (ext H L):=by
 have key:∀id b,(ext H L).get id=some b->(id<H.A/\H.get id=some b)\/(id<H.A+L.length/\b∈L):=by
  intro id b hb;by_cases h1:id<H.A
  ·rw[c9 _ _ _ h1]at hb;exact .inl ⟨h1,hb⟩
  ·by_cases h2:id<H.A+L.length
   ·have:=bM H L (id-H.A) V;rw[show H.A+(id-H.A)=id by omega,hb]at this;exact .inr ⟨h2,an this.symm⟩
   ·have:(ext H L).get id=H.get id:=(by unfold ext;simp only;rw[Vg V]);rw[this]at hb;exact absurd (hc.lt _ _ hb) h1
 refine⟨fun id b hb=>?_,fun id b hb=>?_⟩
 ·rw[aW];rcases key id b hb with ⟨h1,_⟩|⟨h1,_⟩<;>omega
 ·rw[aW];rcases key id b hb with ⟨_,h1⟩|⟨_,h1⟩
  ·exact Sh (hc.below _ _ h1) (V)
  ·exact h b h1
def Sj {n g:Nat}{e:TypeId}{cells:List ZL}(h:∀c,c∈cells->∃v,c=.lit v):te n (.J g e cells):=fun i hi=>by
 obtain⟨v,hv⟩:=h _ (We hi);rw[hv];exact .lit v
end
def qV (n d:Int):ZL:=.agg [.lit (.int .i64 n),.lit (.int .i64 d)]
def bK (p q:Int):Int:=if p<q then -1 else if p=q then 0 else 1
theorem ri {S:Nat->Prop}{H:ZK}{nx:Nat}(n d:Int):Fz S H nx (.agg [.lit (.int .i64 n),.lit (.int .i64 d)]) (qV n d) :=
 .agg rfl fun i hi _=>match i,hi with
  |0,_=>.lit _
  |1,_=>.lit _
end Go.Proofs.R01
namespace Go.Proofs.R01
open Go.Hx Tryz
variable {n:Nat}
def val:List Int -> Nat
  | [] => 0
  |a :: l => a.toNat + 10000 * val l
def aw (n:Nat):List Int := if h:n=0 then [] else ((n % 10000:Nat):Int) :: aw (n / 10000)
termination_by n
decreasing_by omega
def iG:aw 0 = [] := by rw[aw];rfl
def nt (h:n ≠ 0):aw n=((n % 10000:Nat):Int) :: aw (n / 10000) := by
  conv => lhs;rw[aw]
  rw[dif_neg h]
def kB:∀n:Nat,val (aw n)=n := by
  intro n
  induction n using Nat.strongRecOn with
  |_ n ih =>
    by_cases h:n=0
    · subst h;rw[iG];rfl
    · rw[nt h,val,ih _ V];omega
def Dg (l:List Int):Prop := ∀c,c ∈ l -> 0 <= c /\ c <= 9999
def mn:∀n:Nat,Dg (aw n) := by
  intro n
  induction n using Nat.strongRecOn with
  |_ n ih =>
    by_cases h:n=0
    · subst h;rw[iG];intro c hc;cases hc
    · rw[nt h];intro c hc;rcases List.mem_cons.1 hc with rfl |hc
      · omega
      · exact ih _ V c hc
theorem rN:∀(l m:List Int),val (l ++ m)=val l + 10000 ^ l.length * val m
  | [],m => by simp[val]
  |a :: l,m => by
    simp only[List.cons_append,val,rN l m,List.length_cons,Wv,Xi];rw[show 10000 * (10000 ^ l.length * val m)=10000 ^ l.length * 10000 * val m by ac_rfl];omega
theorem oL:∀ {l:List Int},Dg l -> val l < 10000 ^ l.length
  | [],_ => by simp[val]
  |a :: l,h => by
    have ih := oL (l := l) fun c hc => h c (by simp[hc]);have ha := h a ZG;simp only[val,List.length_cons,Wv];omega
def nu {k:Nat}(h:n < 10000 ^ k):(aw n).length <= k := by
  induction k generalizing n with
  | zero => have : n = 0 := by simpa using h
            subst this;rw[iG];simp
  |succ k ih =>
    by_cases h0:n=0
    · subst h0;rw[iG];simp
    · rw [nt h0, List.length_cons];have : n / 10000 < 10000 ^ k := by
        rw[Wv]at h;exact W7 (by rw[WL];exact h)
      have := ih this;omega
theorem Fa:∀ {l:List Int},Dg l -> (∀a,l.getLast? = some a -> a ≠ 0) -> aw (val l)=l
  | [],_,_ => iG
  |a :: l,h,hl => by
    have ha := h a ZG;have hd:Dg l := fun c hc => h c (by simp[hc]);have ih := Fa (l := l) hd fun b hb => hl b (by
      cases l with
      |nil => cases hb
      |cons c l => simpa[List.getLast?_cons_cons] using hb)
    by_cases h0:val (a :: l)=0
    · exfalso;simp only[val]at h0;have a0:a=0 :=V;have v0:val l=0 :=V;rw[v0,iG]at ih;exact hl a (by rw[<- ih];rfl) a0
    · rw[nt h0];have e1:val (a :: l) % 10000=a.toNat :=(by simp only[val];omega);have e2:val (a :: l) / 10000=val l :=(by simp only[val];omega);rw[e1,e2,ih];congr 1;omega
def RZ (k:Nat):val (List.replicate k 0)=0 := by
  induction k with
  |zero => rfl
  |succ k ih => simp[W0,val,ih]
def Aj :aw n = [] ↔ n=0 := by
  constructor
  · intro h;have := kB n;rw[h]at this;exact this.symm
  · rintro rfl;exact iG
def Fb (b:Nat):b ≠ 0 -> 10000 ^ ((aw b).length-1) <= b := by
  induction b using Nat.strongRecOn with
  |_ b ih =>
    intro hb;rw[nt hb,List.length_cons,WM];by_cases h1:b / 10000=0
    · rw[h1,iG];simp;omega
    · have := ih _ V h1;have hl : (aw (b / 10000)).length ≠ 0 := by
        intro h;exact h1 (Aj.1 (Vp h))
      obtain⟨k,hk⟩:∃k,(aw (b / 10000)).length=k + 1 := ⟨_,(Nat.succ_pred_eq_of_ne_zero hl).symm⟩
      rw[hk]at this ⊢;rw[WM]at this;rw[Wv];omega
def rO {a b:Nat}(h:(aw a).length < (aw b).length):a < b := by
  rcases VC a b with h1 |h1
  · exact h1
  · exfalso;have h2 := Fb b (by intro h0;rw[h0,iG]at h;simp at h);have h3 := oL (mn a);rw[kB]at h3;have h4:10000 ^ (aw a).length <= 10000 ^ ((aw b).length-1) := Vr ZH V;omega
end Go.Proofs.R01
namespace Go.Proofs.R01
open Go.Hx Tryz
def Fc {α:Type}{l:List α}{i:Nat}{a:α}(h:l[i]? = some a):l.take (i + 1)=l.take i ++ [a] := by
  rw[List.take_add_one,h];rfl
def mo {H H' H2:ZK}{v:ZL}{cs:List ZL}{e:TypeId}(ov:ZP H H')(h:aI H.A H' e v cs)(hn:H'.A <= H2.A)(hp:∀k,k < H'.A -> (∀g n,v ≠ .U k g 0 n 1) -> H2.get k=H'.get k):ZP H H2 :=
  ⟨by have := ov.A;omega,fun id hid => by
    rw[hp id (by have := ov.A;omega) fun g n he => ?_,ov.nf id hid]
    rcases h with ⟨h,_⟩ |⟨i2,g2,a1,_,h,_⟩
    · rw[h]at he;cases he
    · rw[h]at he;have := ZL.U.inj he;omega⟩
def jV (n:Int)(hn:-9223372036854775808 <= n /\ n <= 9223372036854775807)(H:ZK)(K:ZQ -> ZK -> Prop)(hK:K (.ret (af (aw n.natAbs))) H):ae prog G0 61 [.lit (.int .i64 n)] H K := by
  refine ae.X ⟨_,func61,rfl,rfl⟩ fun hcl => ?_
  refine ae.st (n := 19) (rs := [.tmp 2]) func61 ?_
  simp only[go_sem,az]
  refine W.aS 262137 (by rfl) (fun ρ H' => ∃(c:Int) (done:List Int),ρ 0=aa c /\ ZP H H' /\ aI H.A H' 3 (ρ 3) (ints done) /\ aw n.natAbs=done ++ aw c.natAbs /\ c.natAbs <= n.natAbs) (fun ρ H => (iv (ρ 0)).natAbs) ?_ ?_
  · simp only[go_sem,az]
    exact⟨n,[],rfl,.refl _,.nil,ZG,V⟩
  rintro ρ H' ⟨c,done,h0,ov,h3,hd,hc⟩
  refine W.vs ?_
  by_cases hz:c=0
  · subst hz
    simp only[go_sem,h0,az]
    rw[show (0:Int).natAbs=0 from rfl,iG,List.append_nil]at hd
    rw[hd]at hK
    exact aj.bB aF hcl ov (h3.iB fun i hi => hi) hK
  · have hq:(c.tdiv 10000).natAbs=c.natAbs / 10000 := by rw[Y8];rfl
    have hr:(c.tmod 10000).natAbs=c.natAbs % 10000 := by rw[Y7];rfl
    have w1 := Vd (c.tmod 10000) (V)
    have w2 := Vd (0-c.tmod 10000) (V)
    have w3 := Vd (c.tdiv 10000) (V)
    have hmax:(if 0-c.tmod 10000 > c.tmod 10000 then 0-c.tmod 10000 else c.tmod 10000)=((c.natAbs % 10000:Nat):Int) := by split <;> omega
    have h5 : (aw n.natAbs).length ≤ 5 := nu (by have : (10000 : Nat) ^ 5 = 100000000000000000000 := by decide
                                                 omega)
    have hlen:done.length <= 5 := by rw[hd,List.length_append]at h5;omega
    have hdc := nt (n := c.natAbs) (V)
    obtain⟨v',H2,hA,hO,hn2,hp⟩ := jv (P := prog) (H := H') (t := 72) (x := aa (c.natAbs % 10000:Nat)) (n := H'.A + 1) Tryz.underlying72 Tryz.fC Tryz.fm rfl (by rw[Tryz.fV,bD];omega) h3 ov.A rfl
    simp only[aa]at hA
    simp only[go_sem,h0,hz,w1,w2,w3,hmax,hA]
    have ov2:ZP H H2 := mo ov h3 hn2 hp
    refine⟨ov2.A,⟨c.tdiv 10000,done ++ [((c.natAbs % 10000:Nat):Int)],rfl,ov2,?_,?_,V⟩,V⟩
    · simpa[ints,aa] using hO
    · rw[hd,hdc,hq];simp
def tQ (l:List Int)(hl:Dg l)(hn:(l.length:Int) < 2 ^ 40)(H:ZK)(K:ZQ -> ZK -> Prop)(hK:K (.ret (af (aw (val l)))) H):ae prog G0 103 [af l] H K := by
  refine ae.st (n := 21) (rs := [.tmp 2]) func103 ?_
  simp only[go_sem,az]
  refine W.aS 1048569 (by rfl) (fun ρ H' => H=H' /\ ∃(m:List Int),ρ 0=af m /\ Dg m /\ val m=val l /\ m.length <= l.length) (fun ρ H => (match ρ 0 with |.Q n _ => n |_ => 0)) ?_ ?_
  · simp only[go_sem,az]
    exact⟨l,rfl,hl,rfl,ZJ⟩
  rintro ρ H' ⟨rfl,m,h0,hd,hv,hm⟩
  refine W.vs ?_
  unfold af at h0
  by_cases hz:m.length=0
  · have hm0:m = [] := Vp hz
    subst hm0
    have z1:¬(0:Int) < ((0:Nat):Int) := by omega
    simp only[go_sem,h0,mC,List.length_nil,az]
    rw[<- hv]at hK
    have:aw (val []) = [] := iG
    rw[this]at hK
    exact aj.mk ZJ hK
  · obtain⟨a,ha⟩:∃a,m[m.length-1]? = some a := ⟨_,Vf V⟩
    have hmn:¬m = [] := by rintro rfl;simp at hz
    have z1:(0:Int) < (m.length:Int) := by omega
    have w1:IntKind.i64.wrap ((m.length:Int)-1)=((m.length-1:Nat):Int) := by rw[Vd _ V];omega
    have b1:((m.length-1:Nat):Int) < (m.length:Int) := by omega
    have b2:((m.length-1:Nat):Int) <= (m.length:Int) := by omega
    by_cases h0a:a=0
    · subst h0a
      simp only[go_sem,h0,z1,w1,b1,b2,ha,hmn,az]
      have hs:m.take (m.length-1) ++ [0]=m := by
        have h := Fc ha
        rw[Nat.sub_add_cancel V,XR]at h
        exact h.symm
      refine⟨⟨m.take (m.length-1),?_,fun c hc => hd c (VE hc),?_,by simp;omega⟩,V⟩
      · simp only[Vv,A0];congr 1;omega
      · rw[<- hv]
        conv => rhs;rw[<- hs]
        rw[rN];simp[val]
    · simp only[go_sem,h0,z1,w1,b1,b2,ha,hmn,h0a,az]
      have hlast:m.getLast? = some a := by rw[List.getLast?_eq_getElem?];exact ha
      have := Fa hd fun b hb => by rw[hlast]at hb;cases hb;exact h0a
      rw[<- hv,this]at hK
      exact aj.mk ZJ hK
def Fe {x y:List Int}(hx:Dg x)(hy:Dg y)(hl:x.length=y.length){k:Nat}{a b:Int}(ha:x[k]? = some a)(hb:y[k]? = some b)(he:∀j,k < j -> x[j]? = y[j]?)(hab:a < b):val x < val y := by
  have sp:∀ {l:List Int} {c:Int},l[k]? = some c -> l=l.take k ++ c :: l.drop (k + 1) := fun {l c} h => by
    have hk := (VJ.1 h).1
    have h2 := (VJ.1 h).2
    conv => lhs;rw[<- V2 k l]
    rw[Wb hk,h2]
  have e1:x.drop (k + 1)=y.drop (k + 1) := by
    apply V3
    intro i
    rw[Wz,Wz]
    exact he _ (V)
  have hk := (VJ.1 ha).1
  have hk2 := (VJ.1 hb).1
  rw[sp ha,sp hb,rN,rN,e1]
  have l1:(x.take k).length=k := by simp;omega
  have l2:(y.take k).length=k := by simp;omega
  rw[l1,l2]
  have v1 := oL (l := x.take k) fun c hc => hx c (VE hc)
  have v2:0 <= val (y.take k) := WK _
  rw[l1]at v1
  have pa := hx a (an ha)
  have pb := hy b (an hb)
  simp only[val]
  have h3:10000 ^ k * (a.toNat + 10000 * val (y.drop (k + 1))) + 10000 ^ k <= 10000 ^ k * (b.toNat + 10000 * val (y.drop (k + 1))) := by
    have:a.toNat + 10000 * val (y.drop (k + 1)) + 1 <= b.toNat + 10000 * val (y.drop (k + 1)) := by omega
    calc _=10000 ^ k * (a.toNat + 10000 * val (y.drop (k + 1)) + 1) := (Nat.mul_succ _ _).symm
      _ <= _ := Wl _ this
  omega
def rP (x y:Nat)(hx:((aw x).length:Int) < 2 ^ 40)(H:ZK)(K:ZQ -> ZK -> Prop)(hK:K (.ret (.lit (.int .i64 (bK x y)))) H):ae prog G0 59 [af (aw x),af (aw y)] H K := by
  obtain⟨p,hp⟩:∃p,p=aw x := ⟨_,rfl⟩
  obtain⟨q,hq⟩:∃q,q=aw y := ⟨_,rfl⟩
  have dx := mn x
  have dy := mn y
  have vx := kB x
  have vy := kB y
  have lt1:p.length < q.length -> x < y := fun h => rO (by rw[<- hp,<- hq];exact h)
  have lt2:q.length < p.length -> y < x := fun h => rO (by rw[<- hp,<- hq];exact h)
  rw[<- hp]at hx dx vx ⊢
  rw[<- hq]at dy vy ⊢
  refine ae.st (n := 41) (rs := [.tmp 4]) func59 ?_
  by_cases hl:(p.length:Int)=q.length
  rotate_left
  · by_cases hl2:(p.length:Int) < q.length
    · have:bK x y = -1 := by unfold bK;rw[Vh (by have := lt1 V;omega)]
      rw[this]at hK
      simp only[go_sem,hl,hl2,az]
      exact aj.mk ZJ hK
    · have := lt2 (V)
      have:bK x y=1 := by unfold bK;rw[Vg V,Vg V]
      rw[this]at hK
      simp only[go_sem,hl,hl2,az]
      exact aj.mk ZJ hK
  have hln:p.length=q.length := by omega
  have w0 := Vd ((p.length:Int)-1) (V)
  simp only[go_sem,hl,w0,az]
  rw[<- hl,w0]
  refine W.aS 2199022731312 (by rfl) (fun ρ H' => H=H' /\ ∃(k:Nat),ρ 5=aa ((k:Int)-1) /\ k <= p.length /\ ∀j,k <= j -> p[j]? = q[j]?) (fun ρ H => (iv (ρ 5) + 1).toNat) ?_ ?_
  · simp only[go_sem,az]
    exact⟨p.length,ZG,ZJ,fun j hj => by rw[Vo hj,Vo V]⟩
  rintro ρ H' ⟨rfl,k,h5,hk,he⟩
  refine W.vs ?_
  by_cases hz:k=0
  · subst hz
    have z1:¬(0:Int) <= ((0:Nat):Int)-1 := by omega
    have e0:p=q := V3 fun j => he j (WK _)
    have:x=y := by rw[<- vx,<- vy,e0]
    have:bK x y=0 := by unfold bK;rw[Vg V,Vh V]
    rw[this]at hK
    simp only[go_sem,h5,z1,az]
    exact aj.mk ZJ hK
  · obtain⟨j,rfl⟩:∃j,k=j + 1 := ⟨k-1,V⟩
    obtain⟨a,ha⟩:∃a,p[j]? = some a := ⟨_,Vf V⟩
    obtain⟨b,hb⟩:∃b,q[j]? = some b := ⟨_,Vf V⟩
    have hpn:¬p = [] := by rintro rfl;simp at ha
    have hqn:¬q = [] := by rintro rfl;simp at hb
    have ej:((j + 1:Nat):Int)-1=(j:Int) := by omega
    rw[ej]at h5
    have z1:(0:Int) <= (j:Int) := by omega
    have b1:(j:Int) < p.length := by omega
    have b2:(j:Int) < q.length := by omega
    have w2 := Vd ((j:Int)-1) (V)
    simp only[go_sem,h5,z1,az]
    refine W.dr 8 [0,0,3,7,0,0,48,112] mixed ?_
    by_cases hab:a=b
    · subst hab
      simp only[go_sem,h5,z1,b1,b2,ha,hb,hpn,hqn,w2,az]
      exact⟨⟨j,rfl,V,fun i hi => by
        rcases VC j i with h |h
        · exact he i (V)
        · obtain rfl:i=j := by omega
          rw[ha,hb]⟩,V⟩
    · simp only[go_sem,h5,z1,b1,b2,ha,hb,hpn,hqn,hab,az]
      refine W.dr 8 [0,0,3,7,0,0,48,112] mixed ?_
      by_cases hlt:a < b
      · have h1 := Fe dx dy hln ha hb (fun i hi => he i V) hlt
        rw[vx,vy]at h1
        have:bK x y = -1 := by unfold bK;rw[Vh V]
        rw[this]at hK
        simp only[go_sem,h5,z1,b1,b2,ha,hb,hpn,hqn,hlt,az]
        exact aj.mk ZJ hK
      · have h1 := Fe dy dx hln.symm hb ha (fun i hi => (he i V).symm) (V)
        rw[vx,vy]at h1
        have:bK x y=1 := by unfold bK;rw[Vg V,Vg V]
        rw[this]at hK
        simp only[go_sem,h5,z1,b1,b2,ha,hb,hpn,hqn,hlt,az]
        exact aj.mk ZJ hK
end Go.Proofs.R01
namespace Go.Proofs.R01
open Go.Hx Tryz
def oM {l:List Int}{i X:Nat}(h:l.drop i=aw X):(i<l.length↔X≠0)/\(X≠0->l[i]?=some ((X % 10000:Nat):Int))/\l.drop (i+1)=aw (X / 10000):=by
 have hl:l.length-i=(aw X).length:=by rw[<- h,V5]
 by_cases h0:X=0
 ·subst h0;rw[iG]at h hl;simp only[List.length_nil]at hl;refine⟨⟨fun h=>V,fun h=>absurd rfl h⟩,fun h=>absurd rfl h,?_⟩;rw[iG,Zr.2 V]
 ·rw[nt h0]at h hl;simp only[List.length_cons]at hl;refine⟨⟨fun _=>h0,fun _=>V⟩,fun _=>?_,?_⟩
  ·have:=congrArg (fun m=>m[0]?) h;simpa[Wz] using this
  ·have:=congrArg List.tail h;simpa[List.tail_drop] using this
def qa {n:Nat}{k:Nat}(h:(aw n).length<=k):n<10000 ^ k:=by
 have:=oL (mn n);rw[kB]at this;exact Vn this (Vr ZH h)
def Ak (x y:Nat)(hxy:y<=x)(hx:(aw x).length<=200)(H:ZK)(K:ZQ->ZK->Prop)(hK:K (.ret (af (aw (x-y)))) H):ae prog G0 71 [af (aw x),af (aw y)] H K:=by
 refine ae.X ⟨_,func71,rfl,rfl⟩ fun hcl=>?_;have vx:=kB x;obtain⟨p,hp⟩:∃p,p=aw x:=⟨_,rfl⟩
 obtain⟨q,hq⟩:∃q,q=aw y:=⟨_,rfl⟩
 rw[<- hp]at hx vx ⊢;rw[<- hq];refine ae.st (n:=41) (rs:=[.tmp 4]) func71 ?_;simp only[go_sem];refine W.aS 549755813856 (by rfl) (fun ρ H'=>∃(i c X Y:Nat) (done:List Int),ρ 7=aa i/\ρ 6=aa c/\c<=1/\i<=p.length/\ZP H H'/\aI H.A H' 3 (ρ 5) (ints done)/\done.length=i/\Dg done/\p.drop i=aw X/\q.drop i=aw Y/\val done+10000 ^ i*X=(x-y)+10000 ^ i*(Y+c)) (fun ρ H=>p.length-(iv (ρ 7)).toNat) ?_ ?_
 ·simp only[go_sem];exact⟨0,0,x,y,[],rfl,rfl,V,V,.refl _,.nil,rfl,(fun c hc=>by cases hc),by simpa using hp,by simpa using hq,by simp[val];omega⟩
 rintro ρ H' ⟨i,c,X,Y,done,h7,h6,hc,hi,ov,h5,hl,hdg,hX,hY,he⟩;refine W.vs ?_;obtain⟨a1,a2,a3⟩:=oM hX;obtain⟨b1,b2,b3⟩:=oM hY;by_cases hb:(i:Int)<p.length;rotate_left
 ·simp only[go_sem,h7,hb];have hX0:X=0:=by
   rcases Wo X with h|h
   ·exact h
   ·have:=a1.2 V;omega
  have hv:=oL hdg;rw[hl]at hv;have hYc:Y+c=0:=by
   rcases Wo (Y+c) with h|h
   ·exact h
   ·have:10000 ^ i*1<=10000 ^ i*(Y+c):=Wl _ h;rw[hX0]at he;omega
  have hvd:val done=x-y:=by rw[hX0,hYc]at he;omega
  refine ak.mb H.A (args':=[af done]) aF rfl (fun j hj _=>match j,hj with|0,_=>h5.iB fun i hi=>hi) (tQ done hdg V _ _ ⟨trivial,?_⟩);rw[hvd];have ov3:ZP H (H'.cut H.A):=ov.xD ZJ;simp only[go_sem];exact aj.bB aF hcl ov3 (.ea _) hK
 have hx0:X≠0:=a1.1 V;have g1:=a2 hx0;have pn:¬p=[]:=by rintro rfl;simp at hb;omega
 have w3:=Vd ((i:Int)+1) V;obtain⟨d,c',hd,hd2,hc'⟩:∃d c':Nat,(d:Int)=((X % 10000:Nat):Int)-c-((Y % 10000:Nat):Int)+10000*(c':Int)/\d<=9999/\c'<=1:=by
  by_cases h:((X % 10000:Nat):Int)-c-((Y % 10000:Nat):Int)<0
  ·exact⟨(((X % 10000:Nat):Int)-c-((Y % 10000:Nat):Int)+10000).toNat,1,V,V,V⟩
  ·exact⟨(((X % 10000:Nat):Int)-c-((Y % 10000:Nat):Int)).toNat,0,V,V,V⟩
 obtain⟨v',H2,hA,hO,hn2,hpr⟩:=jv (P:=prog) (H:=H') (t:=72) (x:=aa (d:Nat)) (n:=H'.A+1) Tryz.underlying72 Tryz.fC Tryz.fm rfl (by rw[Tryz.fV,bD];omega) h5 ov.A rfl;simp only[aa]at hA;have ov2:ZP H H2:=mo ov h5 hn2 hpr;have fin:∃(i' c'' X' Y':Nat) (done':List Int),ZL.lit (.int .i64 ((i:Int)+1))=aa i'/\ZL.lit (.int .i64 (c':Int))=aa c''/\c''<=1/\i'<=p.length/\ZP H H2/\aI H.A H2 3 v' (ints done')/\done'.length=i'/\Dg done'/\p.drop i'=aw X'/\q.drop i'=aw Y'/\val done'+10000 ^ i'*X'=(x-y)+10000 ^ i'*(Y'+c''):=by
  refine⟨i+1,c',X / 10000,Y / 10000,done++[(d:Int)],by simp[aa],rfl,hc',V,ov2,by simpa[ints,aa] using hO,by simp[hl],fun z hz=>?_,a3,b3,?_⟩
  ·rcases VH.1 hz with hz|hz
   ·exact hdg z hz
   ·obtain rfl:=List.mem_singleton.1 hz;omega
  ·rw[rN,hl,Wv];have e:d+10000*(X / 10000)+(Y+c)=X+10000*(Y / 10000+c'):=V;have e2:=congrArg (10000 ^ i*·) e;simp only[Xi,val,Int.toNat_natCast,Nat.mul_zero,Nat.add_zero,Xf]at e2 he ⊢;generalize 10000 ^ i*d=P1 at *
   generalize 10000 ^ i*(10000*(X / 10000))=P2 at *
   generalize 10000 ^ i*Y=P3 at *
   generalize 10000 ^ i*c=P4 at *
   generalize 10000 ^ i*X=P5 at *
   generalize 10000 ^ i*(10000*(Y / 10000))=P6 at *
   generalize 10000 ^ i*(10000*c')=P7 at *
   omega
 have w4:=Vd (((X % 10000:Nat):Int)-(c:Int)) V;have w5:=Vd (((X % 10000:Nat):Int)-(c:Int)-((Y % 10000:Nat):Int)) V;by_cases hy0:Y=0
 ·have n2:¬(i:Int)<q.length:=by have:=fun h=>b1.1 h;omega
  by_cases hneg:((X % 10000:Nat):Int)-(c:Int)<0
  ·obtain rfl:c'=1:=V;have ed:((X % 10000:Nat):Int)-(c:Int)+10000=(d:Int):=V;have w6:=Vd (d:Int) V;simp only[go_sem,h7,h6,hb,n2,g1,pn,w4,hneg,ed,w6,w3,hA];exact⟨ov2.A,fin,V⟩
  ·obtain rfl:c'=0:=V;have ed:((X % 10000:Nat):Int)-(c:Int)=(d:Int):=V;rw[ed]at hneg w4;simp only[go_sem,h7,h6,hb,n2,g1,pn,ed,w4,hneg,w3,hA];exact⟨ov2.A,fin,V⟩
 ·have n2:(i:Int)<q.length:=by have:=b1.2 hy0;omega
  have g2:=b2 hy0;have qn:¬q=[]:=by rintro rfl;simp at n2;omega
  by_cases hneg:((X % 10000:Nat):Int)-(c:Int)-((Y % 10000:Nat):Int)<0
  ·obtain rfl:c'=1:=V;have ed:((X % 10000:Nat):Int)-(c:Int)-((Y % 10000:Nat):Int)+10000=(d:Int):=V;have w6:=Vd (d:Int) V;simp only[go_sem,h7,h6,hb,n2,g1,g2,pn,qn,w4,w5,hneg,ed,w6,w3,hA];exact⟨ov2.A,fin,V⟩
  ·obtain rfl:c'=0:=V;have ed:((X % 10000:Nat):Int)-(c:Int)-((Y % 10000:Nat):Int)=(d:Int):=V;rw[ed]at hneg w5;simp only[go_sem,h7,h6,hb,n2,g1,g2,pn,qn,w4,ed,w5,hneg,w3,hA];exact⟨ov2.A,fin,V⟩
end Go.Proofs.R01
namespace Go.Proofs.R01
open Go.Hx Tryz
variable {l:List Int}
def iR {k:Nat}(v:Int)(h:k<l.length):setAt (ints l) k [.lit (.int .i64 v)]=ints (l.set k v):=by
 unfold setAt ints;rw[X6,YR,Vh (by simpa using h)];simp[aa]
theorem Al:∀ {l:List Int} {j:Nat} {a:Int} (v:Int),l[j]?=some a->val (l.set j v)+10000 ^ j*a.toNat=val l+10000 ^ j*v.toNat
 |b :: l,0,a,v,h=>by
  simp only[List.getElem?_cons_zero,Option.some.injEq]at h;subst h;simp only[List.set_cons_zero,val,YV,Xv];omega
 |b :: l,j+1,a,v,h=>by
  simp only[List.getElem?_cons_succ]at h;have ih:=Al (l:=l) v h;simp only[List.set_cons_succ,val,Wv];have e1:10000 ^ j*10000*a.toNat=10000*(10000 ^ j*a.toNat):=by ac_rfl
  have e2:10000 ^ j*10000*v.toNat=10000*(10000 ^ j*v.toNat):=by ac_rfl
  rw[e1,e2];omega
def Ff {i:Nat}{a:Int}(h:l[i]?=some a):val (l.take (i+1))=val (l.take i)+10000 ^ i*a.toNat:=by
 have hi:=(VJ.1 h).1;rw[Fc h,rN,Vv,XJ V];simp[val]
def Fg (p q:List Int)(hp:Dg p)(hq:∀c,c∈q->0<=c/\c<=10000)(hqv:val q<=10000 ^ q.length)(lp:p.length<=200)(lq:q.length<=200)(H:ZK)(K:ZQ->ZK->Prop)(hK:K (.ret (af (aw (val p*val q)))) H):ae prog G0 62 [af p,af q] H K:=by
 refine ae.X ⟨_,func62,rfl,rfl⟩ fun hcl=>?_;have w0:=Vd ((p.length:Int)+(q.length:Int)) V;refine ae.st (n:=65) (rs:=[.tmp 4]) func62 ?_;simp only[go_sem,w0];obtain⟨L,hL⟩:∃L,L=p.length+q.length:=⟨_,rfl⟩
 have eL:((p.length:Int)+(q.length:Int)).toNat=L:=V
 have eL2:(p.length:Int)+(q.length:Int)=(L:Int):=V
 rw[eL,eL2];have eR:List.replicate L (ZL.lit (.int .i64 0))=ints (List.replicate L 0):=by simp[ints,aa]
 rw[eR];refine⟨⟨V,V,V⟩,?_⟩;have dr:Dg (List.replicate L 0):=fun c hc=>by obtain⟨_,rfl⟩:=List.mem_replicate.1 hc;omega
 refine W.aS 9223372036854743488 (by rfl) (fun ρ H'=>∃(i:Nat) (o:List Int),ρ 6=aa i/\i<=p.length/\H'=ext H [.J 0 3 (ints o)]/\Dg o/\o.length=L/\val o=val (p.take i)*val q) (fun ρ H=>p.length-(iv (ρ 6)).toNat) ?_ ?_
 ·simp only[go_sem];exact⟨0,_,rfl,V,rfl,dr,ZG,by simp[RZ,val]⟩
 rintro ρ H' ⟨i,o,h6,hi,rfl,ho,hol,hv⟩;refine W.vs ?_;by_cases hb:(i:Int)<p.length;rotate_left
 ·simp only[go_sem,h6,hb];have hO:aI H.A (ext H [.J 0 3 (ints o)]) 3 (.U H.A 0 0 L 1) (ints o):=.inr ⟨H.A,0,ZJ,by simp[aW],by rw[bD,hol],cL _ _ _⟩;refine ak.mb H.A (args':=[af o]) aF rfl (fun j hj _=>match j,hj with|0,_=>hO.iB fun i hi=>hi) (tQ o ho V _ _ ⟨trivial,?_⟩);rw[hv,Vi V];have ov3:ZP H ((ext H [.J 0 3 (ints o)]).cut H.A):=(ZP.ext _ _).xD ZJ;simp only[go_sem];exact aj.bB aF hcl ov3 (.ea _) hK
 obtain⟨a,ha⟩:∃a,p[i]?=some a:=⟨_,Vf V⟩
 have ha9:=hp a (an ha);obtain⟨A,rfl⟩:=Vm ha9.1;have pn:¬p=[]:=by rintro rfl;simp at ha
 have vt:=Ff ha;rw[Int.toNat_natCast]at vt;have w1:=Vd ((i:Int)+1) V;simp only[go_sem,h6,hb];refine W.aS 9223372036852679040 (by rfl) (fun ρ' H'=>∃(k c:Nat) (o2:List Int),ρ' 8=aa k/\ρ' 7=aa c/\c<=10000/\k<=L/\H'=ext H [.J 0 3 (ints o2)]/\Dg o2/\o2.length=L/\val o2+10000 ^ (i+k)*c=val (p.take i)*val q+10000 ^ i*(A*val (q.take k))) (fun ρ' H=>L-(iv (ρ' 8)).toNat) ?_ ?_
 ·simp only[go_sem];exact⟨0,0,o,rfl,rfl,V,V,rfl,ho,hol,by simp[val,hv]⟩
 rintro ρ' H' ⟨k,c,o2,h8,h7,hc,hk,rfl,ho2,hol2,hv2⟩;refine W.vs ?_;by_cases hend:¬k<q.length/\c=0
 ·obtain⟨hk2,rfl⟩:=hend;have n1:¬(k:Int)<q.length:=V
  have n2:¬(0:Int)<((0:Nat):Int):=V
  simp only[go_sem,h8,h7,n1,h6,w1];refine⟨⟨i+1,o2,ZG,V,rfl,ho2,hol2,?_⟩,V⟩;rw[Vi (l:=q) (i:=k) V]at hv2;rw[vt,VT];simp only[Nat.mul_zero,Nat.add_zero]at hv2;rw[hv2,Xf]
 have hik:i+k<L:=by
  by_cases hkq:k<q.length
  ·omega
  ·have hc1:1<=c:=V;rw[Vi (l:=q) (i:=k) V]at hv2;have e:val (p.take i)*val q+10000 ^ i*(A*val q)=val (p.take (i+1))*val q:=(by rw[vt,VT,Xf]);rw[e]at hv2;have b1:val (p.take (i+1))<10000 ^ (i+1):=by
    have:=oL (l:=p.take (i+1)) fun c hc=>hp c (VE hc)
    rwa [Vv,XJ V]at this
   have b2:val (p.take (i+1))*val q<10000 ^ (i+1)*10000 ^ q.length:=by
    have p0:0<10000 ^ q.length:=Zv (ZH)
    calc val (p.take (i+1))*val q<=val (p.take (i+1))*10000 ^ q.length:=Wl _ hqv
     _<10000 ^ (i+1)*10000 ^ q.length:=Nat.mul_lt_mul_of_pos_right b1 p0
   rw[<- Zw]at b2;have b3:10000 ^ (i+k)*1<=10000 ^ (i+k)*c:=Wl _ hc1;have b4:10000 ^ (i+k)<10000 ^ (i+1+q.length):=V;have:=(Nat.pow_lt_pow_iff_right (by decide:1<10000)).1 b4;omega
 obtain⟨b,hbk⟩:∃b,o2[i+k]?=some b:=⟨_,Vf V⟩
 have hb9:=ho2 b (an hbk);obtain⟨B,rfl⟩:=Vm hb9.1;have o2n:¬o2=[]:=by rintro rfl;simp at hbk
 have w2:=Vd ((i:Int)+(k:Int)) V;have w3:=Vd ((k:Int)+1) V;have eik:(i:Int)+(k:Int)=((i+k:Nat):Int):=V
 rw[eik]at w2;have bik:((i+k:Nat):Int)<(L:Int):=V
 have w4:=Vd ((c:Int)+(B:Int)) V;by_cases hkq:k<q.length
 ·obtain⟨d,hdk⟩:∃d,q[k]?=some d:=⟨_,Vf V⟩
  have hd9:=hq d (an hdk);obtain⟨D,rfl⟩:=Vm hd9.1;have qn:¬q=[]:=by rintro rfl;simp at hdk
  have n1:(k:Int)<q.length:=V
  have mAD:A*D<=9999*10000:=XA V V;have cAD:(A:Int)*(D:Int)=((A*D:Nat):Int):=(WE _ _).symm;obtain⟨t,ht⟩:∃t,t=c+B+A*D:=⟨_,rfl⟩
  have et:(c:Int)+(B:Int)+((A*D:Nat):Int)=(t:Int):=V
  have w5:=Vd ((A*D:Nat):Int) V;have w6:=Vd (t:Int) V;have tm:((t:Int)).tmod 10000=((t % 10000:Nat):Int):=by rw[VV V];rfl
  have td:((t:Int)).tdiv 10000=((t / 10000:Nat):Int):=by rw[V1 V];rfl
  have w7:=Vd ((t % 10000:Nat):Int) V;have w8:=Vd ((t / 10000:Nat):Int) V;have hs:=Al ((t % 10000:Nat):Int) hbk;rw[Int.toNat_natCast,Int.toNat_natCast]at hs;have vq:=Ff hdk;rw[Int.toNat_natCast]at vq;have fin:∃(k' c':Nat) (o3:List Int),ZL.lit (.int .i64 ((k:Int)+1))=aa k'/\ZL.lit (.int .i64 ((t / 10000:Nat):Int))=aa c'/\c'<=10000/\k'<=L/\ext H [.J 0 3 (ints (o2.set (i+k) ((t % 10000:Nat):Int)))]=ext H [.J 0 3 (ints o3)]/\Dg o3/\o3.length=L/\val o3+10000 ^ (i+k')*c'=val (p.take i)*val q+10000 ^ i*(A*val (q.take k')):=by
   refine⟨k+1,t / 10000,_,by simp[aa],rfl,V,V,rfl,fun z hz=>?_,by simp[hol2],?_⟩
   ·rcases Wa hz with h|h
    ·exact ho2 z h
    ·omega
   ·rw[vq,<- Xg,Wv];have e1:t=t % 10000+10000*(t / 10000):=V;have e2:=congrArg (10000 ^ (i+k)*·) (show c+B+A*D=t % 10000+10000*(t / 10000) by omega);have e3:10000 ^ i*(A*(val (q.take k)+10000 ^ k*D))=10000 ^ i*(A*val (q.take k))+10000 ^ (i+k)*(A*D):=by
     rw[Xi,Xi,Zw];congr 1
     ac_rfl
    rw[e3];simp only[Xi,Xf]at e2 hv2 hs ⊢;omega
  simp only[go_sem,h8,h7,n1,h6,w2,w4,eik,bik,hbk];refine W.dr 10 [0,0,0,6,14,0,0,96,224,510] mixed ?_;simp only[go_sem,h8,h7,n1,h6,w2,eik,bik,ha,hdk,pn,qn,hb,cAD,w5,et,w6];rw[w3,td,w8,tm,iR _ V];exact⟨V,fin,V⟩
 ·have n1:¬(k:Int)<q.length:=V
  have n2:(0:Int)<(c:Int):=V
  obtain⟨t,ht⟩:∃t,t=c+B:=⟨_,rfl⟩
  have et:(c:Int)+(B:Int)=(t:Int):=V
  have w6:=Vd (t:Int) V;have tm:((t:Int)).tmod 10000=((t % 10000:Nat):Int):=by rw[VV V];rfl
  have td:((t:Int)).tdiv 10000=((t / 10000:Nat):Int):=by rw[V1 V];rfl
  have w7:=Vd ((t % 10000:Nat):Int) V;have w8:=Vd ((t / 10000:Nat):Int) V;have hs:=Al ((t % 10000:Nat):Int) hbk;rw[Int.toNat_natCast,Int.toNat_natCast]at hs;have fin:∃(k' c':Nat) (o3:List Int),ZL.lit (.int .i64 ((k:Int)+1))=aa k'/\ZL.lit (.int .i64 ((t / 10000:Nat):Int))=aa c'/\c'<=10000/\k'<=L/\ext H [.J 0 3 (ints (o2.set (i+k) ((t % 10000:Nat):Int)))]=ext H [.J 0 3 (ints o3)]/\Dg o3/\o3.length=L/\val o3+10000 ^ (i+k')*c'=val (p.take i)*val q+10000 ^ i*(A*val (q.take k')):=by
   refine⟨k+1,t / 10000,_,by simp[aa],rfl,V,V,rfl,fun z hz=>?_,by simp[hol2],?_⟩
   ·rcases Wa hz with h|h
    ·exact ho2 z h
    ·omega
   ·rw[Vi (l:=q) (i:=k) V]at hv2;rw[Vi (l:=q) (i:=k+1) V,<- Xg,Wv];have e2:=congrArg (10000 ^ (i+k)*·) (show c+B=t % 10000+10000*(t / 10000) by omega);simp only[Xi,Xf]at e2 hv2 hs ⊢;omega
  simp only[go_sem,h8,h7,n1,n2,h6,w2,eik,bik,hbk,et,w6,hol2];rw[w3,td,w8,tm,iR _ V];exact⟨V,fin,V⟩
end Go.Proofs.R01
namespace Go.Proofs.R01
open Go.Hx Tryz
variable {N k n y:Nat}
def rQ (x y:Nat)(hx:(aw x).length<=200)(hy:(aw y).length<=200)(H:ZK)(K:ZQ->ZK->Prop)(hK:K (.ret (af (aw (x*y)))) H):ae prog G0 62 [af (aw x),af (aw y)] H K :=
 Fg (aw x) (aw y) (mn x) (fun c hc=>by have:=mn y c hc;omega) (X4 (oL (mn y))) hx hy H K (by rw[kB,kB];exact hK)
def R7 (x d:Nat)(hd:d<=10000)(hx:(aw x).length<=200)(H:ZK)(K:ZQ->ZK->Prop)(hK:K (.ret (af (aw (x*d)))) H):ae prog G0 62 [af (aw x),af [(d:Int)]] H K:=by
 have e:val [(d:Int)]=d:=by simp[val]
 refine Fg (aw x) [(d:Int)] (mn x) (fun c hc=>?_) (by rw[e];simpa using hd) hx ZG H K (by rw[kB,e];exact hK);obtain rfl:=List.mem_singleton.1 hc;omega
theorem tR (n:Nat):∀k:Nat,(aw n).drop k=aw (n / 10000 ^ k)
 |0=>ZG
 |k+1=>by
  have h:=(oM (tR n k)).2.2;rw[h,Wv,XY]
def wH (h:k<(aw n).length):(aw n)[k]?=some ((n / 10000 ^ k % 10000:Nat):Int):=(oM (tR n k)).2.1 ((oM (tR n k)).1.1 h)
def Fh (h:¬k<(aw n).length):n / 10000 ^ k=0:=by
 rcases Wo (n / 10000 ^ k) with h0|h0
 ·exact h0
 ·exact absurd ((oM (tR n k)).1.2 V) h
def R8 {P:Nat}(hP:0<P)(ht:0<y / P):N / y<=N / P / (y / P):=by
 rw[XK ht,XK hP]
 calc N / y*(y / P)*P=N / y*(y / P*P):=Xf ..
  _<=N / y*y:=Wl _ (Yf _ _)
  _<=N:=Yf _ _
def R9 {P:Nat}(hP:0<P)(hy:0<y):N / P / (y / P+1)<=N / y:=by
 rw[XK hy];have h1:y<=(y / P+1)*P:=by
  have:=Zx y hP;rw[WL]at this;omega
 calc N / P / (y / P+1)*y<=N / P / (y / P+1)*((y / P+1)*P):=Wl _ h1
  _=N / P / (y / P+1)*(y / P+1)*P:=(Xf ..).symm
  _<=N / P*P:=VO _ (Yf _ _)
  _<=N:=Yf _ _
def Sa (hN:N<10000*y)(hy:10000 ^ n<=y):N / 10000 ^ (n-1) / (y / 10000 ^ (n-1))<=10000:=by
 have hP:0<10000 ^ (n-1):=Zv ZH;rcases Wo n with h0|h0
 ·subst h0;have hy0:0<y:=by simp at hy;omega
  simp only[Nat.zero_sub,YV,Zy];exact X4 (W7 (by rw[WL];exact hN))
 ·have ht:10000<=y / 10000 ^ (n-1):=by
   rw[XK hP];have:10000*10000 ^ (n-1)=10000 ^ n:=(by rw[WL,<- Wv];congr 1;omega);omega
  generalize 10000 ^ (n-1)=P at *
  refine X0 (W7 ?_);refine W7 ?_;have h1:=Zx y hP;generalize y / P=T at *
  have h2:P*(T+1)*10000<=P*(T*10001):=by
   rw[Xf];exact Wl _ (V)
  have h3:y<P*(T+1):=h1;generalize P*(T+1)=Z at *
  generalize hW:P*(T*10001)=W at *
  have h4:N<W:=V
  first|exact h4|(rw[<- hW]at h4;simpa[WL,YT,Xf] using h4)
def Sb {X a Q R:Nat}(hX:X=y*Q+R)(hR:R<y):(a+10000*X) / y=10000*Q+(a+10000*R) / y/\(a+10000*X) % y=(a+10000*R) % y:=by
 have e:a+10000*X=(a+10000*R)+y*(10000*Q):=by
  rw[hX,Xi];have:10000*(y*Q)=y*(10000*Q):=by ac_rfl
  omega
 rw[e,Nat.add_mul_div_left _ _ V,Nat.add_mul_mod_self_left];exact⟨Nat.add_comm _ _,rfl⟩
end Go.Proofs.R01
namespace Go.Proofs.R01
open Go.Hx Tryz
variable {a b:Int}
def Fi (h:a<=b):bK a b<=0:=by
 unfold bK;split
 ·omega
 ·split<;>omega
def Fj (h:b<a):¬bK a b<=0:=by
 unfold bK;split
 ·omega
 ·split<;>omega
def Am (x y:Nat)(hy:y≠0)(hx:(aw x).length<=100)(hyl:(aw y).length<=100)(H:ZK)(K:ZQ->ZK->Prop)(hK:K (.ret (.nc [af (aw (x / y)),af (aw (x % y))])) H):ae prog G0 102 [af (aw x),af (aw y)] H K:=by
 refine ae.K7 ⟨_,func102,rfl,rfl⟩ fun hcl hbel=>?_;obtain⟨p,hp⟩:∃p,p=aw x:=⟨_,rfl⟩
 obtain⟨q,hq⟩:∃q,q=aw y:=⟨_,rfl⟩
 have hqn:q.length≠0:=by intro h;exact hy (Aj.1 (by rw[<- hq];exact Vp h))
 obtain⟨n,hn⟩:∃n,q.length=n+1:=⟨q.length-1,V⟩
 have ylb:=Fb y hy;have yub:=qa (n:=y) (k:=n+1) (by rw[<- hq,hn];exact Nat.le_refl _);rw[<- hq,hn,WM]at ylb;have hx1:=hx;have hy1:=hyl;rw[<- hp]at hx;rw[<- hq]at hyl;have w1:=Vd ((q.length:Int)-1) V;have en:(q.length:Int)-1=(n:Int):=V
 rw[en]at w1;rw[<- hp,<- hq]at hbel ⊢;have rep0:∀v:ZL,List.replicate 0 v=[]:=fun _=>rfl;refine ae.st (n:=124) (rs:=[.tmp 4,.tmp 5]) func102 ?_;by_cases hs:(p.length:Int)<=(n:Int)
 ·have hlt:x<y:=rO (by rw[<- hp,<- hq];omega);rw[W6 hlt,Xy hlt,iG,<- hp]at hK;obtain⟨v',H3,hA,hO,hn3,hpr⟩:=vg (P:=prog) (H:=ext H [.J 0 3 []]) (t:=72) (lo:=H.A) (n:=H.A+1) (v:=.U H.A 0 0 0 1) (cs:=[]) (src:=ints p) Tryz.underlying72 Tryz.fC Tryz.fm (kW p) (by rw[Tryz.fV,bD];simp;omega) (.inr ⟨H.A,0,ZJ,by simp[aW],rfl,cL _ _ _⟩) (by simp[aW]) (by simp[aW]);rw[bD]at hA;have ov3:ZP H H3:=⟨by simp only[aW]at hn3;omega,fun id hid=>by
   rw[hpr id (by simp only[aW];omega) fun g n he=>by have:=ZL.U.inj he;omega,dz hid]⟩
  simp only[go_sem,en,w1,hs,rep0,hA];refine aj.bB (v':=.nc [af [],af p]) aF hcl ov3 (.nc rfl fun i hi _=>?_) hK
  match i,hi with
  |0,_=>exact .nil
  |1,_=>exact hO.iB fun i hi=>hi
 ·have w2:=Vd ((p.length:Int)-(n:Int)) V;obtain⟨m,hm⟩:∃m,p.length=n+m/\1<=m:=⟨p.length-n,V,V⟩
  have em:(p.length:Int)-(n:Int)=(m:Int):=V
  rw[em]at w2;have w3:=Vd ((m:Int)-1) V;have esub:p.length-m=n:=V
  have ede:List.take n (List.drop m (ints p))=ints (p.drop m):=by rw[A1];exact Vi (by rw[bD,V5];omega)
  have mle:(m:Int)<=(p.length:Int):=V
  have dl:(p.drop m).length=n:=by simp;omega
  have eR:List.replicate m (ZL.lit (.int .i64 0))=ints (List.replicate m 0):=by simp[ints,aa]
  obtain⟨v',H3,hA,hO,hn3,hpr⟩:=vg (P:=prog) (H:=ext H [.J 0 3 (ints (List.replicate m 0)),.J 0 3 []]) (t:=72) (lo:=H.A+1) (n:=H.A+2) (v:=.U (H.A+1) 0 0 0 1) (cs:=[]) (src:=ints (p.drop m)) Tryz.underlying72 Tryz.fC Tryz.fm (kW _) (by rw[Tryz.fV,bD];simp;omega) (.inr ⟨H.A+1,0,ZJ,by simp[aW],rfl,bM H _ 1 ZG⟩) (by show H.A+1<=H.A+2;omega) rfl;rw[bD,dl]at hA;simp only[aW,List.length_cons,List.length_nil]at hn3 hpr;obtain⟨Hq,hHq⟩:∃Hq,Hq=ext H [.J 0 3 (ints (List.replicate m 0))]:=⟨_,rfl⟩
  have nq:Hq.A=H.A+1:=hHq▸rfl
  have clq:Clo Hq:=by
   rw[hHq];refine Si hcl fun b hb=>?_;obtain rfl:=List.mem_singleton.1 hb;exact Sj fun c hc=>by obtain⟨x,_,rfl⟩:=Vu.1 hc;exact⟨_,rfl⟩
  have gq:Hq.get H.A=some (.J 0 3 (ints (List.replicate m 0))):=by rw[hHq];exact cL _ _ _
  have ovq:ZP H Hq:=by rw[hHq];exact ZP.ext _ _
  have ov3:ZP Hq H3:=⟨V,fun id hid=>by
   rw[hpr id V fun g n he=>by have:=ZL.U.inj he;omega];by_cases h:id=H.A
   ·subst h;rw[gq,cL]
   ·rw[c9 _ _ _ V,ovq.nf _ V]⟩
  have n3:=ov3.A;have hvF:Fz (fun id=>Hq.A<=id) H3 H3.A v' (af (p.drop m)):=hO.iB fun i hi=>V
  have hbq:∀v,v∈[af p,af q]->Below Hq.A v:=fun v hv=>(hbel v hv).mono V;have h37:Fz (fun id=>Hq.A<=id) H3 H3.A (.Q n (ints (p.drop m))) (.Q n (ints (p.drop m))):=by rw[<- dl];exact .ea _
  have gq3:=(ov3.nf H.A V).trans gq;have lq3:=ag gq3;simp only[go_sem,en,w1,hs,em,w2,rep0,mle,esub,ede,eR,hA,w3,lq3];refine⟨⟨V,V⟩,?_⟩;apply W.ME (H:=Hq) aF clq ov3
  ·repeat first|exact Fz.MG hbq V|(apply Fz.MF;· first|exact .lit _|assumption|exact .ea _|exact .O V V|exact .U V V|exact .deadOwn V (by show Hq.A<=_;omega))
  ·trivial
  obtain⟨Hg,hHg⟩:∃Hg,Hg=ju Hq (H3.A-Hq.A):=⟨_,rfl⟩
  rw[<- hHg];have hog:ZP Hq Hg:=by rw[hHg];exact .ju _ _
  have ng:=hog.A;have hgg:=(hog.nf H.A V).trans gq;have pdm:p.drop m=aw (x / 10000 ^ m):=by rw[hp];exact tR x m
  have xlt:x / 10000 ^ m<y:=rO (by rw[<- pdm,dl,<- hq];omega);refine W.env fun E hE=>?_;have e0:E 0=af p:=by rw[hE];rfl
  have e1:E 1=af q:=by rw[hE];rfl
  have e6:E 6=aa n:=by rw[hE];rfl
  have e7:E 7=.U H.A 0 0 m 1:=by rw[hE];rfl
  have e8:E 8=af (p.drop m):=by rw[hE];rfl
  have e9:E 9=aa ((m:Int)-1):=by rw[hE];rfl
  clear hE;refine W.aS 2658455991569831745807609722514243328 (by rfl) (fun ρ H'=>∃(j:Nat) (qs:List Int),ρ 9=aa ((j:Int)-1)/\j<=m/\ZP H H'/\Hg.A<=H'.A/\H'.get H.A=some (.J 0 3 (ints qs))/\qs.length=m/\Dg qs/\val (qs.drop j)=x / 10000 ^ j / y/\ρ 8=af (aw (x / 10000 ^ j % y))) (fun ρ H=>(iv (ρ 9)+1).toNat) ?_ ?_
  ·simp only[go_sem,e9,e8];refine⟨m,List.replicate m 0,ZG,V,ovq.trans hog,hgg,ZG,fun c hc=>by obtain⟨_,rfl⟩:=List.mem_replicate.1 hc;omega,?_,?_⟩
   ·rw[W6 xlt,Zr.2 ZG];rfl
   ·rw[Xy xlt,<- pdm]
  rintro ρ H' ⟨j,qs,h9,hj,ov,hnx,hg,hql,hqd,hv,h8⟩;refine W.vs ?_;have lq:=ag hg;by_cases hz:j=0
  ·subst hz;have z1:¬(0:Int)<=((0:Nat):Int)-1:=V;simp only[YV,Zy,List.drop_zero]at hv h8;simp only[go_sem,h9,e7];have hO2:aI H.A H' 3 (.U H.A 0 0 m 1) (ints qs):=.inr ⟨H.A,0,ZJ,V,by rw[bD,hql],hg⟩;refine ak.mb H.A (args':=[af qs]) aF rfl (fun j hj _=>match j,hj with|0,_=>hO2.iB fun i hi=>hi) (tQ qs hqd V _ _ ⟨trivial,?_⟩);rw[hv];simp only[go_sem,h8];have ovc:ZP H (H'.cut H.A):=ov.xD ZJ;refine aj.bB (v':=.nc [af (aw (x / y)),af (aw (x % y))]) aF hcl ovc (.nc rfl fun i hi _=>?_) hK
   match i,hi with
   |0,_=>exact .ea _
   |1,_=>exact .ea _
  obtain⟨i,rfl⟩:∃i,j=i+1:=⟨j-1,V⟩
  have ei:((i+1:Nat):Int)-1=(i:Int):=V
  rw[ei]at h9;have z1:(0:Int)<=(i:Int):=V
  obtain⟨R,hR⟩:∃R,R=x / 10000 ^ (i+1) % y:=⟨_,rfl⟩
  rw[<- hR]at h8;have hRy:R<y:=by rw[hR];exact XU _ (V)
  have hil:i<p.length:=V
  obtain⟨a,ha⟩:∃a,a=x / 10000 ^ i % 10000:=⟨_,rfl⟩
  have hpi:p[i]?=some ((a:Nat):Int):=by rw[ha,hp];exact wH (by rw[<- hp];exact hil)
  have pn:¬p=[]:=by rintro rfl;simp at hil
  have bil:(i:Int)<p.length:=V
  obtain⟨N,hN⟩:∃N,N=a+10000*R:=⟨_,rfl⟩
  have yup:y<10000 ^ (n+1):=yub;have rlen:(aw R).length<=n+1:=nu V;have hNy:N<10000*y:=V
  have hN2:N<10000 ^ (n+2):=by
   have:10000 ^ (n+2)=10000*10000 ^ (n+1):=(by rw[Wv,WL]);omega
  have nlen:(aw N).length<=n+2:=nu hN2;obtain⟨v',H3,hA,hO,hn3,hpr⟩:=vg (P:=prog) (H:=ext H' [.J 0 3 [.lit (.int .i64 (a:Int))]]) (t:=72) (lo:=H'.A) (n:=H'.A+1) (v:=.U H'.A 0 0 1 1) (cs:=ints [(a:Int)]) (src:=ints (aw R)) Tryz.underlying72 Tryz.fC Tryz.fm (kW _) (by rw[Tryz.fV,bD,bD,Wh];omega) (.inr ⟨H'.A,0,ZJ,by simp[aW],rfl,cL _ _ _⟩) (by simp[aW]) (by simp[aW]);rw[bD]at hA;have ov3:ZP H' H3:=⟨by simp only[aW]at hn3;omega,fun id hid=>by
   rw[hpr id (by simp only[aW];omega) fun g n he=>by have:=ZL.U.inj he;omega,dz hid]⟩
  have hcd:Dg ((a:Int) :: aw R):=fun c hc=>by
   rcases List.mem_cons.1 hc with rfl|hc
   ·omega
   ·exact mn R c hc
  have hcv:val ((a:Int) :: aw R)=N:=by rw[val,kB,hN];simp
  simp only[go_sem,h9,z1,h8,e0,hpi,pn,bil,hA];refine ak.mb H'.A (args':=[af ((a:Int) :: aw R)]) aF rfl (fun j hj _=>match j,hj with|0,_=>hO.iB fun i hi=>hi) (tQ _ hcd (by rw[List.length_cons];omega) _ _ ⟨trivial,?_⟩);rw[hcv];have ovc:ZP H' (H3.cut H'.A):=ov3.cut;obtain⟨Hc,hHc⟩:∃Hc,Hc=H3.cut H'.A:=⟨_,rfl⟩
  rw[<- hHc]at ovc ⊢;clear hHc;have w4:=Vd ((n:Int)+1) V;simp only[go_sem,e6,w4];have gqc:=(ovc.nf H.A V).trans hg;have nc:=ovc.A;refine W.env fun E2 hE2=>?_;have f0:E2 0=af p:=by rw[hE2];exact e0
  have f1:E2 1=af q:=by rw[hE2];exact e1
  have f6:E2 6=aa n:=by rw[hE2];exact e6
  have f7:E2 7=.U H.A 0 0 m 1:=by rw[hE2];exact e7
  have f8:E2 8=af (aw N):=by rw[hE2];rfl
  have f9:E2 9=aa (i:Int):=by rw[hE2];exact h9
  have f10:E2 10=aa 0:=by rw[hE2];rfl
  have f11:E2 11=aa 0:=by rw[hE2];rfl
  have f12:E2 12=aa ((n:Int)+1):=by rw[hE2];rfl
  clear hE2;have hqy:q=aw y:=hq;have emax:(if (n:Int)-1 > 0 then (n:Int)-1 else 0)=((n-1:Nat):Int):=by split<;>omega
  have w5:=Vd ((n:Int)-1) V;have yk2:y / 10000 ^ (n+2)=0:=W6 (by rw[Wv];omega);have Nk2:N / 10000 ^ (n+2)=0:=W6 hN2;have cube:∀z k:Nat,z<10000 ^ (n+2)->n-1<=k->z / 10000 ^ k<1000000000000:=fun z k hz hk=>by
   refine W7 (Vn hz ?_);rw[show (1000000000000:Nat)=10000 ^ 3 by decide,<- Zw];exact Vr ZH (V)
  have hy2:y<10000 ^ (n+2):=by rw[Wv];omega
  refine W.aS 38685626155610539552676864 (by rfl) (fun ρ' H2=>∃k F T:Nat,ρ' 12=aa ((k:Int)-1)/\n-1<=k/\k<=n+2/\H2=Hc/\ρ' 11=aa F/\ρ' 10=aa T/\F=N / 10000 ^ k/\T=y / 10000 ^ k) (fun ρ' H=>(iv (ρ' 12)+1).toNat) ?_ ?_
  ·simp only[go_sem,f12,f11,f10];exact⟨n+2,0,0,by simp;omega,V,V,rfl,rfl,Nk2.symm,yk2.symm⟩
  rintro ρ' H2 ⟨k,F,T,g12,hk1,hk2,rfl,g11,g10,hF,hT⟩;refine W.vs ?_;by_cases hke:k=n-1
  ·have z2:¬((n-1:Nat):Int)<=((n-1:Nat):Int)-1:=V;rw[hke]at g12;simp only[go_sem,g12,f6,w5,emax,z2];rw[hke]at hF hT;have hP:0<10000 ^ (n-1):=Zv ZH;have hT0:0<T:=by
    rw[hT];refine Nat.div_pos ?_ hP;exact VM (Vr ZH V) ylb
   have cF:=cube N (n-1) hN2 V;have cT:=cube y (n-1) hy2 V;have qhi:N / y<=F / T:=(by rw[hF,hT];exact R8 hP (by rw[<- hT];exact hT0));have qlo:F / (T+1)<=N / y:=(by rw[hF,hT];exact R9 hP V);have qcap:F / T<=10000:=(by rw[hF,hT];exact Sa hNy ylb);rw[<- hF]at cF;rw[<- hT]at cT;have w6:=Vd ((T:Int)+1) V;obtain⟨lo,hlo⟩:∃lo,lo=F / (T+1):=⟨_,rfl⟩
   obtain⟨hi,hhi⟩:∃hi,hi=F / T:=⟨_,rfl⟩
   have t1:((F:Int)).tdiv ((T:Int)+1)=(lo:Int):=(by rw[V1 V,hlo];rfl);have t2:((F:Int)).tdiv (T:Int)=(hi:Int):=(by rw[V1 V,hhi];rfl);rw[<- hlo]at qlo;rw[<- hhi]at qhi qcap;have w7:=Vd (lo:Int) V;have w8:=Vd (hi:Int) V;have n1:¬(T:Int)+1=0:=V;have n2:¬(T:Int)=0:=V;refine W.env fun E3 hE3=>?_;have k0:E3 0=af p:=(by rw[hE3];exact f0);have k1:E3 1=af q:=(by rw[hE3];exact f1);have k6:E3 6=aa n:=(by rw[hE3];exact f6);have k7:E3 7=.U H.A 0 0 m 1:=(by rw[hE3];exact f7);have k8:E3 8=af (aw N):=(by rw[hE3];exact f8);have k9:E3 9=aa (i:Int):=(by rw[hE3];exact f9);have k10:E3 10=aa T:=(by rw[hE3];exact g10);have k11:E3 11=aa F:=(by rw[hE3];exact g11);clear hE3;refine W.dr 8 [0,0,2,7,0,0,48,15] mixed ?_;simp only[go_sem,k11,k10,w6,t1,t2,w7,w8,n1,n2];have gq2:H2.get H.A=some (.J 0 3 (ints qs)):=gqc;obtain⟨Q,hQ⟩:∃Q,Q=N / y:=⟨_,rfl⟩
   rw[<- hQ]at qlo qhi;have hyl2:(aw y).length<=100:=hy1;refine W.env fun E4 hE4=>?_;have l1:E4 1=af q:=(by rw[hE4];exact k1);have l7:E4 7=.U H.A 0 0 m 1:=(by rw[hE4];exact k7);have l8:E4 8=af (aw N):=(by rw[hE4];exact k8);have l9:E4 9=aa (i:Int):=(by rw[hE4];exact k9);have l13:E4 13=aa (lo:Int):=(by rw[hE4];rfl);have l14:E4 14=aa (hi:Int):=(by rw[hE4];rfl);clear hE4;have Nl:((aw N).length:Int)<2 ^ 40:=V;refine W.aS 1298069262873549765611524485865472 (by rfl) (fun ρ2 H3=>∃L U:Nat,ρ2 13=aa L/\ρ2 14=aa U/\L<=Q/\Q<=U/\U<=10000/\ZP H2 H3) (fun ρ2 H=>(iv (ρ2 14)-iv (ρ2 13)).toNat) ?_ ?_
   ·simp only[go_sem,l13,l14];exact⟨lo,hi,rfl,rfl,qlo,qhi,qcap,.refl _⟩
   rintro ρ2 H4 ⟨L,U,m13,m14,hL,hU,hU2,ov4⟩;refine W.vs ?_;have n4:=ov4.A;by_cases hLU:(L:Int)<(U:Int)
   ·obtain⟨M,hM⟩:∃M,M=(L+U+1) / 2:=⟨_,rfl⟩
    have eLU:(L:Int)+(U:Int)=((L+U:Nat):Int):=V;have eLU1:((L+U:Nat):Int)+1=((L+U+1:Nat):Int):=V;have v1:=Vd ((L+U:Nat):Int) V;have v2:=Vd ((L+U+1:Nat):Int) V;have v3:(((L+U+1:Nat):Int)).tdiv 2=(M:Int):=(by rw[V1 V,hM];rfl);have v4:=Vd (M:Int) V;have v5:=Vd ((M:Int)-1) V;simp only[go_sem,m13,m14,hLU,eLU,eLU1,v1,v2,v3,v4,l1];have hO4:aI H4.A (ext H4 [.J 0 3 [.lit (.int .i64 (M:Int))]]) 3 (.U H4.A 0 0 1 1) (ints [(M:Int)]):=.inr ⟨H4.A,0,ZJ,by simp[aW],rfl,cL _ _ _⟩;rw[hqy];refine ak.mb H4.A (args':=[af (aw y),af [(M:Int)]]) aF rfl (fun j hj _=>match j,hj with|0,_=>.ea _|1,_=>hO4.iB fun i hi=>hi) (R7 y M V V _ _ ⟨trivial,?_⟩);have ylen:(aw (y*M)).length<=n+2:=nu (by
     have h1:y*M<=y*10000:=Wl _ V;rw[Wv];omega)
    have ov5:ZP H2 ((ext H4 [.J 0 3 [.lit (.int .i64 (M:Int))]]).cut H4.A):=ov4.trans ((ZP.ext _ _).cut);simp only[go_sem,l8];refine ak.X (rP (y*M) N V _ _ ⟨trivial,?_⟩);by_cases hc:y*M<=N
    ·have hc1:bK ((y*M:Nat):Int) (N:Int)<=0:=Fi V;have hMQ:M<=Q:=(by rw[hQ,XK V,WL];exact hc);simp only[go_sem,hc1];exact⟨ov5.A,⟨M,U,rfl,m14,hMQ,hU,hU2,ov5⟩,by rw[m14];simp only[aa,iv];omega⟩
    ·have hc1:¬bK ((y*M:Nat):Int) (N:Int)<=0:=Fj V;have hMQ:Q<M:=(by rw[hQ,Nat.div_lt_iff_lt_mul V,WL];omega);simp only[go_sem,hc1,v5];exact⟨ov5.A,⟨L,M-1,m13,by simp;omega,hL,V,V,ov5⟩,by rw[m13];simp only[aa,iv];omega⟩
   ·have LQ:L=Q:=V;subst LQ;have g4:=(ov4.nf H.A V).trans gq2;have lq4:=ag g4;have him:i<m:=V;have zi:(i:Int)<(m:Int):=V;have Q9:L<10000:=(by rw[hQ];exact W7 V);simp only[go_sem,m13,m14,hLU,l7,l9,zi,lq4];rw[iR _ V];obtain⟨H5,hH5⟩:∃H5,H5=H4.upd H.A (.J 0 3 (ints (qs.set i (L:Int)))):=⟨_,rfl⟩
    rw[<- hH5];have g5:H5.get H.A=some (.J 0 3 (ints (qs.set i (L:Int)))):=(by rw[hH5,ah,Vh rfl]);have n5:H5.A=H4.A:=(by rw[hH5];rfl);have ov5:ZP H H5:=⟨by have:=ov.A;omega,fun id hid=>by
     rw[hH5,ah,Vg V,ov4.nf _ V,ovc.nf _ V,ov.nf _ hid]⟩
    clear hH5;refine⟨V,?_⟩;have dgL:Dg [(L:Int)]:=fun c hc=>by obtain rfl:=List.mem_singleton.1 hc;omega
    have vL:val [(L:Int)]=L:=(by simp[val]);have hO5:aI H5.A (ext H5 [.J 0 3 [.lit (.int .i64 (L:Int))]]) 3 (.U H5.A 0 0 1 1) (ints [(L:Int)]):=.inr ⟨H5.A,0,ZJ,by simp[aW],rfl,cL _ _ _⟩;refine ak.mb H5.A (args':=[af [(L:Int)]]) aF rfl (fun j hj _=>match j,hj with|0,_=>hO5.iB fun i hi=>hi) (tQ _ dgL ZG _ _ ⟨trivial,?_⟩);rw[vL];have ov6:ZP H5 ((ext H5 [.J 0 3 [.lit (.int .i64 (L:Int))]]).cut H5.A):=(ZP.ext _ _).cut;obtain⟨H6,hH6⟩:∃H6,H6=(ext H5 [.J 0 3 [.lit (.int .i64 (L:Int))]]).cut H5.A:=⟨_,rfl⟩
    rw[<- hH6]at ov6 ⊢;clear hH6;have n6:=ov6.A;have lenL:(aw L).length<=1:=nu V;have hmul:y*L<=N:=(by rw[hQ];exact Nat.mul_div_le N y);simp only[go_sem,l1,l8];rw[hqy];refine ak.X (rQ y L V V _ _ ⟨trivial,?_⟩);simp only[go_sem];refine ak.X (Ak N (y*L) hmul V _ _ ⟨trivial,?_⟩);have wi:=Vd ((i:Int)-1) V;simp only[go_sem,l9,wi];have eX:=Xo (x / 10000 ^ (i+1)) y;have eS:x / 10000 ^ i=a+10000*(x / 10000 ^ (i+1)):=by
     rw[Wv,<- XY,ha];omega
    have qs2:=Sb (X:=x / 10000 ^ (i+1)) (a:=a) (y:=y) (Q:=x / 10000 ^ (i+1) / y) (R:=R) (by rw[hR];exact eX.symm) hRy;rw[<- eS,<- hN]at qs2;have eRN:N-y*L=x / 10000 ^ i % y:=(by rw[qs2.2,hQ];have:=Xo N y;omega);rw[eRN];refine⟨V,⟨i,qs.set i (L:Int),rfl,V,ov5.trans ov6,V,(ov6.nf _ V).trans g5,by simp[hql],fun c hc=>?_,?_,rfl⟩,V⟩
    ·rcases Wa hc with h|h
     ·exact hqd c h
     ·omega
    ·rw[Wb (by simp;omega),val,List.getElem_set_self,Int.toNat_natCast,ZB V,hv,qs2.1,hQ];omega
  obtain⟨j,rfl⟩:∃j,k=j+1:=⟨k-1,V⟩
  have ej:((j+1:Nat):Int)-1=(j:Int):=V
  rw[ej]at g12;have z2:((n-1:Nat):Int)<=(j:Int):=V
  have cF:=cube N j hN2 V;have cT:=cube y j hy2 V;rw[Wv,<- XY]at hF hT;have nF:N / 10000 ^ j=0\/j<(aw N).length:=by
   by_cases h:j<(aw N).length
   ·exact .inr h
   ·exact .inl (Fh h)
  have nT:y / 10000 ^ j=0\/j<=n:=by
   by_cases h:j<=n
   ·exact .inr h
   ·exact .inl (Fh (by rw[<- hqy,hn];omega))
  have dF:j<(aw N).length->(aw N)[j]?=some ((N / 10000 ^ j % 10000:Nat):Int):=fun h=>wH h;have dT:j<=n->q[j]?=some ((y / 10000 ^ j % 10000:Nat):Int):=fun h=>by rw[hqy];exact wH (by rw[<- hqy,hn];omega)
  obtain⟨F',hF'⟩:∃F',F'=N / 10000 ^ j:=⟨_,rfl⟩
  obtain⟨T',hT'⟩:∃T',T'=y / 10000 ^ j:=⟨_,rfl⟩
  rw[<- hF']at cF hF nF dF;rw[<- hT']at cT hT nT dT;obtain⟨cf,hcf⟩:∃cf,cf=F' % 10000:=⟨_,rfl⟩
  obtain⟨ct,hct⟩:∃ct,ct=T' % 10000:=⟨_,rfl⟩
  rw[<- hcf]at dF;rw[<- hct]at dT;have w6:=Vd ((F:Int)*10000) V;have w7:=Vd ((F:Int)*10000+(cf:Int)) V;have w8:=Vd ((T:Int)*10000) V;have w9:=Vd ((T:Int)*10000+(ct:Int)) V;have wj:=Vd ((j:Int)-1) V;by_cases hjl:j<(aw N).length
  ·have dF1:=dF hjl;have Nn:¬aw N=[]:=(by intro h;rw[h]at hjl;simp at hjl);have z3:(j:Int)<(aw N).length:=V;by_cases hjn:j<=n
   ·have dT1:=dT hjn;have qn:¬q=[]:=(by intro h;rw[h]at hn;simp at hn);have z4:(j:Int)<=(n:Int):=V;have z5:(j:Int)<q.length:=V;simp only[go_sem,g12,f6,w5,emax,z2,g11,w6,f8,z3,Nn,dF1,w7,z4,z5,f1,dT1,qn,g10,w8,w9,wj];exact⟨⟨j,F',T',rfl,V,V,by simp;omega,by simp;omega,hF',hT'⟩,V⟩
   ·have z4:¬(j:Int)<=(n:Int):=V;simp only[go_sem,g12,f6,w5,emax,z2,g11,w6,f8,z3,Nn,dF1,w7,z4,wj];exact⟨⟨j,F',T',rfl,V,V,by simp;omega,by rw[g10,aa];simp;omega,hF',hT'⟩,V⟩
  ·have z3:¬(j:Int)<(aw N).length:=V;by_cases hjn:j<=n
   ·have dT1:=dT hjn;have qn:¬q=[]:=(by intro h;rw[h]at hn;simp at hn);have z4:(j:Int)<=(n:Int):=V;have z5:(j:Int)<q.length:=V;simp only[go_sem,g12,f6,w5,emax,z2,g11,w6,f8,z3,z4,z5,f1,dT1,qn,g10,w8,w9,wj];exact⟨⟨j,F',T',rfl,V,V,by simp;omega,by simp;omega,hF',hT'⟩,V⟩
   ·have z4:¬(j:Int)<=(n:Int):=V;simp only[go_sem,g12,f6,w5,emax,z2,g11,w6,f8,z3,z4,wj];exact⟨⟨j,F',T',rfl,V,V,by simp;omega,by rw[g10,aa];simp;omega,hF',hT'⟩,V⟩
end Go.Proofs.R01
namespace Go.Proofs.R01
open Go.Hx Tryz
variable {b:Bool}{nx:Nat}{S:Nat->Prop}{H:ZK}
def vn:ZL->Nat
 |.Q _ l=>val (l.map iv)
 |_=>0
def Fk (n:Nat):vn (af (aw n))=n:=by
 have:(ints (aw n)).map iv=aw n:=by simp[ints,aa,iv,Function.comp_def]
 show val ((ints (aw n)).map iv)=n;rw[this,kB]
def Fl (x y:Nat)(hx:(aw x).length<=100)(hy:(aw y).length<=100)(H:ZK)(K:ZQ->ZK->Prop)(hK:K (.ret (af (aw (Nat.gcd x y)))) H):ae prog G0 60 [af (aw x),af (aw y)] H K:=by
 refine ae.X ⟨_,func60,rfl,rfl⟩ fun hcl=>?_;refine ae.st (n:=19) (rs:=[.tmp 4]) func60 ?_;simp only[go_sem];refine W.aS 262115 (by rfl) (fun ρ H'=>∃X Y:Nat,ρ 0=af (aw X)/\ρ 1=af (aw Y)/\(aw X).length<=100/\(aw Y).length<=100/\H'=H/\Nat.gcd X Y=Nat.gcd x y) (fun ρ H=>vn (ρ 1)) ?_ ?_
 ·simp only[go_sem];exact⟨x,y,rfl,rfl,hx,hy,rfl⟩
 rintro ρ H' ⟨X,Y,h0,h1,hX,hY,rfl,hg⟩;refine W.vs ?_;by_cases hz:Y=0
 ·subst hz;have z1:¬(0:Int)<(aw 0).length:=by rw[iG];simp
  rw[Nat.gcd_zero_right]at hg;simp only[go_sem,h0,h1,z1];rw[<- hg]at hK;exact aj.bB aF hcl (.refl _) (.ea _) hK
 have z1:(0:Int)<(aw Y).length:=by
  have:(aw Y).length≠0:=fun h=>hz (Aj.1 (Vp h));omega
 simp only[go_sem,h0,h1,z1];refine ak.X (Am X Y hz hX hY _ _ ⟨trivial,?_⟩);have hlt:X % Y<Y:=XU _ V;have hl:(aw (X % Y)).length<=100:=by
  rcases VC (aw Y).length (aw (X % Y)).length with h|h
  ·exact absurd (rO h) (V)
  ·omega
 simp only[go_sem,h1];refine⟨⟨Y,X % Y,rfl,rfl,hY,hl,?_⟩,?_⟩
 ·rw[<- hg,XV Y,<- Y3,XV]
 ·have e1:=Fk (X % Y);have e2:=Fk Y;rw[show ZL.Q (aw (X % Y)).length (ints (aw (X % Y)))=af (aw (X % Y)) from rfl,show ZL.Q (aw Y).length (ints (aw Y))=af (aw Y) from rfl,e1,e2];exact hlt
def Fm {n:Int}:Fz S H nx (.nc [.lit (.int .i64 n),.lit (.bool b)]) (.nc [aa n,.lit (.bool b)]):=.nc rfl fun i hi _=>match i,hi with
 |0,_=>.lit _
 |1,_=>.lit _
def rR (n:Nat):ZL:=if n<=4611686018427387903 then .nc [aa n,.lit (.bool true)] else .nc [aa 0,.lit (.bool false)]
def An (n:Nat)(hn:(aw n).length<=100)(H:ZK)(K:ZQ->ZK->Prop)(hK:K (.ret (rR n)) H):ae prog G0 119 [af (aw n)] H K:=by
 refine ae.X ⟨_,func119,rfl,rfl⟩ fun hcl=>?_;obtain⟨p,hp⟩:∃p,p=aw n:=⟨_,rfl⟩
 refine ae.st (n:=25) (rs:=[.tmp 2,.tmp 3]) func119 ?_;simp only[go_sem];refine ak.X (jV 4611686018427387903 V _ _ ⟨trivial,?_⟩);simp only[go_sem];refine ak.X (rP n 4611686018427387903 V _ _ ⟨trivial,?_⟩);unfold rR at hK;by_cases hb:n<=4611686018427387903;rotate_left
 ·have c1:0<bK (n:Int) 4611686018427387903:=by have:=Fj (a:=(n:Int)) (b:=4611686018427387903) V;omega
  rw[Vg hb]at hK;simp only[go_sem,c1];exact aj.bB aF hcl (.refl _) Fm hK
 have c1:¬ 0<bK (n:Int) 4611686018427387903:=by have:=Fi (a:=(n:Int)) (b:=4611686018427387903) V;omega
 rw[Vh hb]at hK;have w1:=Vd (((aw n).length:Int)-1) V;simp only[go_sem,c1,w1];refine W.aS 16769072 (by rfl) (fun ρ H'=>∃k X:Nat,ρ 5=aa ((k:Int)-1)/\ρ 4=aa X/\X=n / 10000 ^ k/\k<=(aw n).length/\H'=H) (fun ρ H=>(iv (ρ 5)+1).toNat) ?_ ?_
 ·simp only[go_sem];refine⟨(aw n).length,0,rfl,rfl,?_,V⟩;exact(W6 (by have:=oL (mn n);rwa [kB]at this)).symm
 rintro ρ H' ⟨k,X,h5,h4,hX,hk,rfl⟩;refine W.vs ?_;by_cases hz:k=0
 ·subst hz;have z1:¬(0:Int)<=((0:Nat):Int)-1:=V
  simp only[YV,Zy]at hX;subst hX;simp only[go_sem,h5,h4];exact aj.bB aF hcl (.refl _) Fm hK
 obtain⟨j,rfl⟩:∃j,k=j+1:=⟨k-1,V⟩
 have ej:((j+1:Nat):Int)-1=(j:Int):=V
 rw[ej]at h5;have z1:(0:Int)<=(j:Int):=V
 have hd:=wH (n:=n) (k:=j) V;rw[Wv,<- XY]at hX;have hle:n / 10000 ^ j<=n:=WO _ _;obtain⟨Y,hY⟩:∃Y,Y=n / 10000 ^ j:=⟨_,rfl⟩
 rw[<- hY]at hd hX hle;obtain⟨c,hc⟩:∃c,c=Y % 10000:=⟨_,rfl⟩
 rw[<- hc]at hd;have w2:=Vd (10000*(X:Int)) V;have w3:=Vd (10000*(X:Int)+(c:Int)) V;have w4:=Vd ((j:Int)-1) V;have dn:¬aw n=[]:=by intro h;rw[h]at hd;simp at hd
 have z2:(j:Int)<(aw n).length:=V
 simp only[go_sem,h5,h4,z1,w2,hd,dn,z2,w3,w4];exact⟨⟨j,Y,rfl,by simp;omega,hY,V⟩,V⟩
def qc (neg:Bool)(N D:Nat):ZL :=
 if N / Nat.gcd N D<=4611686018427387903/\D / Nat.gcd N D<=4611686018427387903 then .nc [qV (if neg=true then -((N / Nat.gcd N D:Nat):Int) else ((N / Nat.gcd N D:Nat):Int)) ((D / Nat.gcd N D:Nat):Int),.lit (.bool true)] else .nc [qV 0 0,.lit (.bool false)]
def rS {x y:Int}:Fz S H nx (.nc [.agg [.lit (.int .i64 x),.lit (.int .i64 y)],.lit (.bool b)]) (.nc [qV x y,.lit (.bool b)]):=.nc rfl fun i hi _=>match i,hi with
 |0,_=>ri _ _
 |1,_=>.lit _
def wI {a b:Nat}(h:a<=b):(aw a).length<=(aw b).length:=by
 rcases VC (aw b).length (aw a).length with h1|h1
 ·exact absurd (rO h1) (V)
 ·exact h1
def Sc (neg:Bool)(N D:Nat)(hD:D≠0)(hN:(aw N).length<=100)(hDl:(aw D).length<=100)(H:ZK)(K:ZQ->ZK->Prop)(hK:K (.ret (qc neg N D)) H):ae prog G0 69 [.lit (.bool neg),af (aw N),af (aw D)] H K:=by
 refine ae.X ⟨_,func69,rfl,rfl⟩ fun hcl=>?_;have g0:0<Nat.gcd N D:=Zf _ V;have gl:(aw (Nat.gcd N D)).length<=100:=VM (wI (Yv V (WZ N D))) hDl;have gc:∀H K,K (ZQ.ret (af (aw (Nat.gcd N D)))) H->ae prog G0 60 [af (aw N),af (aw D)] H K:=fun H K h=>Fl N D hN hDl H K h;unfold qc at hK;generalize Nat.gcd N D=g at *
 have l1:(aw (N / g)).length<=100:=VM (wI (WO _ _)) hN;have l2:(aw (D / g)).length<=100:=VM (wI (WO _ _)) hDl;have d1:∀H K,K (ZQ.ret (.nc [af (aw (N / g)),af (aw (N % g))])) H->ae prog G0 102 [af (aw N),af (aw g)] H K:=fun H K h=>Am N g V hN gl H K h;have d2:∀H K,K (ZQ.ret (.nc [af (aw (D / g)),af (aw (D % g))])) H->ae prog G0 102 [af (aw D),af (aw g)] H K:=fun H K h=>Am D g V hDl gl H K h;generalize N / g=p at *
 generalize D / g=q at *
 generalize N % g=r1 at *
 generalize D % g=r2 at *
 refine ae.st (n:=51) (rs:=[.cell 6 58,.tmp 7]) func69 ?_;simp only[go_sem];refine ak.X (gc _ _ ⟨trivial,?_⟩);simp only[go_sem];refine ak.X (d1 _ _ ⟨trivial,?_⟩);simp only[go_sem];refine ak.X (d2 _ _ ⟨trivial,?_⟩);simp only[go_sem];refine ak.X (An p l1 _ _ ⟨trivial,?_⟩);unfold rR;by_cases hp:p<=4611686018427387903
 ·have wp:=Vd (0-(p:Int)) V;rw[Vh hp];simp only[go_sem];refine ak.X (An q l2 _ _ ⟨trivial,?_⟩);unfold rR;by_cases hq:q<=4611686018427387903
  ·rw[Vh ⟨hp,hq⟩]at hK;rw[Vh hq];cases neg with
   |false =>
    simp only[go_sem];exact aj.drop aF hcl rS (by simpa using hK)
   |true =>
    simp only[go_sem];exact aj.drop aF hcl rS (by rw[wp,Int.zero_sub];simpa using hK)
  ·rw[Vg (fun h=>hq h.2)]at hK;rw[Vg hq];simp only[go_sem];exact aj.drop aF hcl rS hK
 ·rw[Vg (fun h=>hp h.1)]at hK;rw[Vg hp];simp only[go_sem];refine ak.X (An q l2 _ _ ⟨trivial,?_⟩);unfold rR;by_cases hq:q<=4611686018427387903
  ·rw[Vh hq];simp only[go_sem];exact aj.drop aF hcl rS hK
  ·rw[Vg hq];simp only[go_sem];exact aj.drop aF hcl rS hK
end Go.Proofs.R01
namespace Go.Proofs.R01
open Go.Hx Tryz
variable {n:Int}
abbrev dR (n:Int):Prop:=-9223372036854775808<=n/\n<=9223372036854775807
def kD (h:dR n):(aw n.natAbs).length<=5:=nu (by
 have:(10000:Nat) ^ 5=100000000000000000000:=ZH
 have:=h.1;have:=h.2;omega)
def tS {m:Int}(h:dR n)(h':dR m):(aw (n.natAbs*m.natAbs)).length<=10:=nu (by
 have e:(10000:Nat) ^ 10=10000 ^ 5*10000 ^ 5:=ZH
 rw[e];have:=qa (kD h);have:=qa (kD h');exact Nat.mul_lt_mul_of_lt_of_lt ‹_› ‹_›)
def Sd (neg:Bool)(N D:Nat):∃x y b,qc neg N D=.nc [qV x y,.lit (.bool b)]:=by
 unfold qc;split
 ·exact⟨_,_,_,rfl⟩
 ·exact⟨_,_,_,rfl⟩
end Go.Proofs.R01
namespace Go.Proofs
open Go.Hx Tryz
def cG (l:List Int):List ZL:=l.map fun n=>.lit (.int .u8 n)
def vh {l:List Int}{k:Nat}{a:Int}(h:l[k]?=some a):(cG l)[k]?=some (.lit (.int .u8 a)):=by unfold cG;rw[List.getElem?_map,h];rfl
end Go.Proofs
namespace Go.Hx
variable {P:Program} {H H':ZK}
def rK {t e:TypeId}{lo n m:Nat}{v x:ZL}{cs src:List ZL}{z:List ZL}(ht:P.underlying t=some (.slice e))(hz:P.cellsOf e=1)(hzero:bQ P e=some z)(hsrc:dc H 1 x=some (m,src))(hm:src.length=m)(hx:src.all ZL.one=true)
  (hb:(cs.length+m)*P.bytesOf e<=2 ^ 47/\cs.length+m<=2 ^ 47) (ho:aI lo H e v cs) (hlo:lo<=H.A) (hn:n=H.A):
  ∃v' H',bS P H n t t v x=some (v',H')/\aI lo H' e v' (cs++src)/\H.A<=H'.A/\(∀k,k<H.A->(∀g n,v≠.U k g 0 n 1)->H'.get k=H.get k):=by
 subst hm;obtain⟨v',H',hA,h2⟩:=vg (H:=H) (n:=n) ht hz hzero hx hb ho hlo hn;refine⟨v',H',?_,h2⟩;rw[<- hA];have e2:dc H 1 (.Q src.length src)=some (src.length,src):=by unfold dc;simp
 unfold bS;rw[ht];simp only[hz,hsrc,e2]
end Go.Hx
namespace Go.Proofs
open Go.Hx Tryz
variable {b g:Int}{l:List Int}{i n nx:Nat}{S:Nat->Prop}{H:ZK}
def U8 (n:Int):Prop:=0<=n/\n<256
def Re (n:Nat)(hn:n<=5)(ord:List Int)(H:ZK)(K:ZQ->ZK->Prop)(hK:K (.ret (af (List.replicate n 1))) H):
  ae prog G0 120 [.agg [.Q n (cG (List.replicate n 0)),(.lit (.int .u16 0)),.Q ord.length (cG ord)]] H K:=by
 refine ae.X ⟨_,func120,rfl,rfl⟩ fun hcl=>?_;refine ae.st (n:=28) (rs:=[.tmp 2]) func120 ?_;simp only[go_sem];obtain⟨H1,hH1⟩:∃H1,H1=ext H [.J 0 145 [.Q n (cG (List.replicate n 0)),.lit (.int .u16 0),.Q ord.length (cG ord)]]:=⟨_,rfl⟩
 have l1:=ag (show H1.get H.A=some (.J 0 145 [.Q n (cG (List.replicate n 0)),.lit (.int .u16 0),.Q ord.length (cG ord)]) by rw[hH1];exact cL ..);have n1:H1.A=H.A+1:=hH1▸rfl
 have o1:ZP H H1:=hH1▸.ext _ _
 rw[<- hH1];refine W.aS 134217720 (by rfl) (fun ρ H'=>∃k:Nat,ρ 4=aa k/\k<=n/\ZP H1 H'/\aI H1.A H' 3 (ρ 3) (ints (List.replicate k 1))) (fun ρ H=>n-(iv (ρ 4)).toNat) ?_ ?_
 ·simp only[go_sem];exact⟨0,rfl,V,.refl _,.nil⟩
 rintro ρ H' ⟨k,h4,hk,ov,h3⟩;refine W.en (fun E=>E 1=.O H.A 0 0 /\ E 3=ρ 3 /\ E 4=aa k) (by simp only[go_sem,h4]) fun E ⟨e1,e3,e4⟩=>?_
 refine W.vs ?_;have l2:=(ov.na (g:=0) (by omega:H.A<H1.A)).trans l1;by_cases hb:(k:Int)<n
 ·have h5:(k:Int)<5:=V
  have hg:(cG (List.replicate n 0))[k]?=some (.lit (.int .u8 0)):=vh (by rw[WJ,Vh V]);have hne:=aZ hg;obtain⟨v',H2,hA,ov2,hO,hn2,_⟩:=mD 1 ov h3 (by simp;omega);have w1:=Vd ((k:Int)+1) V;have hk0:(k:Int) >= 0:=V
  have w5:IntKind.i64.wrap (1+IntKind.i64.wrap (Int.tmod 0 4))=1:=ZH
  simp only[go_sem,e1,e3,e4,l2,hb,h5,hk0,hg,hne,w1,w5,hA];refine⟨by have:=ov2.A;omega,⟨k+1,rfl,V,ov2,?_⟩,by rw[h4];simp only[aa,bf];omega⟩;rw[List.replicate_succ'];exact hO
 ·simp only[go_sem,e1,e3,e4,l2,hb];obtain rfl:k=n:=V
  exact aj.bB aF hcl (o1.trans ov) (h3.iB fun i hi=>V) hK
structure nnj (n:Nat)(p:List Int):Prop where
 len:p.length=n
 nd:p.Nodup
 np:∀x∈p,0<=x/\x<n
def Rf {p:List Int}(h:nnj n p)(at':Nat)(ha:at'<=n):nnj (n+1) (p.take at'++(n:Int) :: p.drop at'):=by
 have hperm:(p.take at'++(n:Int) :: p.drop at').Perm ((n:Int) :: p):=by
  have:=List.perm_middle (a:=(n:Int)) (l₁:=p.take at') (l₂:=p.drop at')
  rwa [V2]at this
 refine⟨by rw[hperm.length_eq];simp[h.len],(hperm.nodup_iff).2 (W9.2 ⟨fun hm=>?_,h.nd⟩),fun x hx=>?_⟩
 ·have:=h.np _ hm;omega
 ·rcases List.mem_cons.1 (hperm.mem_iff.1 hx) with rfl|h2
  ·omega
  ·have:=h.np x h2;omega
def ni (ord:List Int)(k:Nat):Nat:=if k<ord.length then (ord.getD k 0 % ((k:Int)+1)).toNat else 0
def gQ (ord:List Int):Nat->List Int
 |0=>[]
 |k+1=>(gQ ord k).take (ni ord k)++(k:Int) :: (gQ ord k).drop (ni ord k)
def Rg (ord:List Int)(k:Nat):ni ord k<=k:=by
 unfold ni;split
 ·have:=XI (ord.getD k 0) (show 0<(k:Int)+1 by omega);omega
 ·omega
theorem z7 (ord:List Int):∀n:Nat,nnj n (gQ ord n)
 |0=>⟨rfl,by simp[gQ],by simp[gQ]⟩
 |n+1=>Rf (z7 ord n) _ (Rg ord n)
def Rh (n:Nat)(hn:n<=5)(ord:List Int)(hol:(ord.length:Int)<2 ^ 63)(ho8:∀x∈ord,U8 x)(H:ZK)(K:ZQ->ZK->Prop)(hK:∀v H',ZP H H'->aI H.A H' 3 v (ints (gQ ord n))->K (.ret v) H'):
  ae prog G0 74 [.agg [.Q n (cG (List.replicate n 0)),.lit (.int .u16 0),.Q ord.length (cG ord)]] H K:=by
 refine ae.X ⟨_,func74,rfl,rfl⟩ fun hcl=>?_;refine ae.st (n:=42) (rs:=[.tmp 2]) func74 ?_;simp only[go_sem];obtain⟨H1,hH1⟩:∃H1,H1=ext H [.J 0 145 [.Q n (cG (List.replicate n 0)),.lit (.int .u16 0),.Q ord.length (cG ord)]]:=⟨_,rfl⟩
 have l1:=ag (show H1.get H.A=some (.J 0 145 [.Q n (cG (List.replicate n 0)),.lit (.int .u16 0),.Q ord.length (cG ord)]) by rw[hH1];exact cL ..);have n1:H1.A=H.A+1:=hH1▸rfl
 have o1:ZP H H1:=hH1▸.ext _ _
 rw[<- hH1];refine W.aS 2199023255544 (by rfl) (fun ρ H'=>∃(k:Nat) (p:List Int),ρ 4=aa k/\k<=n/\p=gQ ord k/\ZP H1 H'/\aI H1.A H' 3 (ρ 3) (ints p)) (fun ρ H=>n-(iv (ρ 4)).toNat) ?_ ?_
 ·simp only[go_sem];exact⟨0,[],rfl,V,rfl,.refl _,.nil⟩
 rintro ρ H' ⟨k,p,h4,hk,hpe,ov,h3⟩;have hp:nnj k p:=by rw[hpe];exact z7 ord k
 refine W.en (fun E=>E 1=.O H.A 0 0 /\ E 3=ρ 3 /\ E 4=aa k) (by simp only[go_sem,h4]) fun E ⟨e1,e3,e4⟩=>?_
 refine W.vs ?_;have l2:=(ov.na (g:=0) (by omega:H.A<H1.A)).trans l1;simp only[go_sem,e1,l2];refine ak.X (Re n hn ord _ _ ⟨trivial,?_⟩);by_cases hb:(k:Int)<n;rotate_left
 ·simp only[go_sem,WD,e3,e4,hb];obtain rfl:k=n:=V
  exact aj.mk (o1.trans ov).A (hK _ _ (o1.trans ov) (by rw[<- hpe];exact h3.ng V ZJ fun _ _ _ _ _ _=>rfl))
  -- the place
 rcases h3 with ⟨h3n,hpn⟩|⟨oi,og,hoi1,hoi2,h3o,hog⟩
 ·have p0:p=[]:=by cases p with
   |nil=>rfl
   |cons a l=>simp[ints]at hpn
  have pl:=hp.len;rw[p0]at pl;obtain rfl:k=0:=by simpa using pl.symm
  rw[h3n]at e3;have e4':E 4=aa 0:=e4;have hb':(0:Int)<n:=hb;by_cases ho:(0:Int)<ord.length
  ·obtain⟨b,hbg⟩:=ay (l:=ord) (i:=0) V;have b8:=ho8 b (an hbg);have hbg':=vh hbg;have hbne:=aZ hbg';have w2:IntKind.i64.wrap b=b:=Vd b (by have:=b8.1;have:=b8.2;omega);have w1:IntKind.i64.wrap 1=1:=ZH;have m1:b.tmod 1=0:=ZG;obtain⟨v2,Hb,hA2,ovB,hO2,hn2,hp2⟩:=mD (H:=H') (H':=H') (l:=[]) (v:=.lit (.slice none 0 0)) (0:Int) (.refl _) aI.nil ZG;obtain⟨v3,Hc,hA3,hO3,hn3,hp3⟩:=rK (P:=prog) (H:=Hb) (t:=72) (n:=Hb.A) (m:=0) (v:=v2) (x:=.lit (.slice none 0 0)) (src:=[]) Tryz.underlying72 Tryz.fC Tryz.fm rfl rfl rfl (by rw[Tryz.fV];exact⟨ZH,ZH⟩) hO2 ovB.A rfl;have ovC:ZP H' Hc:=mo ovB hO2 hn3 hp3;have hA1:bS prog H' H'.A 72 72 (.lit (.slice none 0 0)) (.lit (.slice none 0 0))=some (.lit (.slice none 0 0),H'):=by
    unfold bS;rw[Tryz.underlying72];simp only[Tryz.fm,Tryz.fC,Option.bind_some,yR,if_true]
   have hO3':aI H1.A Hc 3 v3 (ints [0]):=by
    rw[List.append_nil]at hO3;exact hO3.ng ov.A ZJ fun _ _ _ _ _ _=>rfl
   simp only[go_sem,WD,e1,e3,e4',l2,hb',ho,hbg',hbne,w1,w2,m1,hA1,hA2,hA3];refine⟨by have:=ovC.A;have:=ov.A;omega,⟨1,[0],rfl,V,by simp[gQ],ov.trans ovC,hO3'⟩,by rw[h4];simp only[aa,bf];omega⟩
  ·have w1:IntKind.i64.wrap 1=1:=ZH;obtain⟨v2,Hb,hA2,ovB,hO2,hn2,hp2⟩:=mD (H:=H') (H':=H') (l:=[]) (v:=.lit (.slice none 0 0)) (0:Int) (.refl _) aI.nil ZG;obtain⟨v3,Hc,hA3,hO3,hn3,hp3⟩:=rK (P:=prog) (H:=Hb) (t:=72) (n:=Hb.A) (m:=0) (v:=v2) (x:=.lit (.slice none 0 0)) (src:=[]) Tryz.underlying72 Tryz.fC Tryz.fm rfl rfl rfl (by rw[Tryz.fV];exact⟨ZH,ZH⟩) hO2 ovB.A rfl;have ovC:ZP H' Hc:=mo ovB hO2 hn3 hp3;have hA1:bS prog H' H'.A 72 72 (.lit (.slice none 0 0)) (.lit (.slice none 0 0))=some (.lit (.slice none 0 0),H'):=by
    unfold bS;rw[Tryz.underlying72];simp only[Tryz.fm,Tryz.fC,Option.bind_some,yR,if_true]
   have hO3':aI H1.A Hc 3 v3 (ints [0]):=by
    rw[List.append_nil]at hO3;exact hO3.ng ov.A ZJ fun _ _ _ _ _ _=>rfl
   simp only[go_sem,WD,e1,e3,e4',l2,hb',ho,w1,hA1,hA2,hA3];refine⟨by have:=ovC.A;have:=ov.A;omega,⟨1,[0],rfl,V,by simp[gQ],ov.trans ovC,hO3'⟩,by rw[h4];simp only[aa,bf];omega⟩
 rw[h3o]at e3;have lo:=ag hog;by_cases ho:(k:Int)<ord.length
 ·obtain⟨b,hbg⟩:=ay (l:=ord) (i:=k) V;have b8:=ho8 b (an hbg);have hbg':=vh hbg;have hbne:=aZ hbg';have w0:=Vd ((k:Int)+1) V;have w1:=w0;have w2:IntKind.i64.wrap b=b:=Vd b (by have:=b8.1;have:=b8.2;omega);have m1:b.tmod ((k:Int)+1)=b % ((k:Int)+1):=VV b8.1;have m2:=Yj b (show (k:Int)+1≠0 by omega);have m3:=XI b (show 0<(k:Int)+1 by omega);have hz:¬(k:Int)+1=0:=V
  obtain⟨a,hat⟩:=Vm m2;have ha:a<=k:=V
  have hac:(0:Int)<=(a:Int):=V
  have hap:(a:Int)<=(p.length:Int):=by rw[hp.len];omega
  have hak:(0:Int)<=(a:Int)/\(a:Int)<=(p.length:Int):=⟨hac,hap⟩
  have pl:p.length=k:=hp.len;obtain⟨v1,Ha,hA1,hO1,hn1,hp1⟩:=rK (P:=prog) (H:=H') (t:=72) (n:=H'.A) (m:=a) (v:=.lit (.slice none 0 0)) (x:=.U oi og 0 a 1) (src:=(ints p).take a) Tryz.underlying72 Tryz.fC Tryz.fm
   (by rw[tn,Vh rfl,lo];simp) (by simp[bD]<;>omega) (VG.2 fun c hc=>by
    obtain⟨z,_,rfl⟩:=Vu.1 (VE hc);rfl) (by rw[Tryz.fV];simp<;>omega) aI.nil ZJ rfl
  have ovA:ZP H' Ha:=⟨hn1,fun id hi=>hp1 id hi fun g n h=>by cases h⟩
  rw[List.nil_append,A0]at hO1;obtain⟨v2,Hb,hA2,ovB,hO2,hn2,hp2⟩:=mD (k:Int) ovA hO1 (by simp<;>omega);have hcl2:(ints (p.take a++[(k:Int)])).length<=k+1:=by rw[bD,List.length_append,Vv];simp<;>omega
  have hlb:Hb.na oi og=some (3,ints p):=(ovB.na hoi2).trans lo;obtain⟨v3,Hc,hA3,hO3,hn3,hp3⟩:=rK (P:=prog) (H:=Hb) (t:=72) (n:=Hb.A) (m:=p.length-a) (v:=v2) (x:=.U oi og a (p.length-a) 1) (src:=(ints p).drop a) Tryz.underlying72 Tryz.fC Tryz.fm
   (by rw[tn,Vh rfl,hlb];simp[Vi,bD]) (by simp[bD]) (VG.2 fun c hc=>by
    obtain⟨z,_,rfl⟩:=Vu.1 (Xk hc);rfl) (by rw[Tryz.fV];omega) hO2 ovB.A rfl
  have ovC:ZP H' Hc:=mo ovB hO2 hn3 hp3;have hla:Ha.na oi og=some (3,ints p):=(ovA.na hoi2).trans lo;rw[A1]at hO3;have hO3':aI H1.A Hc 3 v3 (ints (p.take a++(k:Int) :: p.drop a)):=by
   have:ints (p.take a++[(k:Int)])++ints (p.drop a)=ints (p.take a++(k:Int) :: p.drop a):=(by simp[ints]);rw[this]at hO3;exact hO3.ng ov.A ZJ fun _ _ _ _ _ _=>rfl
  simp only[go_sem,WD,e1,e3,e4,l2,hb,ho,hbg',hbne,w0,w2,m1,hz,hat,hac,hap,Int.toNat_natCast,lo,hlb,hA1,hA2,hA3];refine⟨by have:=ovC.A;omega,⟨k+1,_,rfl,V,by rw[gQ,<- hpe,show ni ord k=a by unfold ni;rw[Vh V,bI hbg,hat];rfl],ov.trans ovC,hO3'⟩,by rw[h4];simp only[aa,bf];omega⟩
 ·have w0:=Vd ((k:Int)+1) V;have pl:p.length=k:=hp.len;obtain⟨v1,Ha,hA1,hO1,hn1,hp1⟩:=rK (P:=prog) (H:=H') (t:=72) (n:=H'.A) (m:=0) (v:=.lit (.slice none 0 0)) (x:=.U oi og 0 0 1) (src:=(ints p).take 0) Tryz.underlying72 Tryz.fC Tryz.fm
   (by rw[tn,Vh rfl,lo];simp) (by simp[bD]<;>omega) (VG.2 fun c hc=>by
    obtain⟨z,_,rfl⟩:=Vu.1 (VE hc);rfl) (by rw[Tryz.fV];simp<;>omega) aI.nil ZJ rfl
  have ovA:ZP H' Ha:=⟨hn1,fun id hi=>hp1 id hi fun g n h=>by cases h⟩
  rw[List.nil_append,A0]at hO1;obtain⟨v2,Hb,hA2,ovB,hO2,hn2,hp2⟩:=mD (k:Int) ovA hO1 (by simp<;>omega);have hcl2:(ints (p.take 0++[(k:Int)])).length<=k+1:=by rw[bD,List.length_append,Vv];simp<;>omega
  have hlb:Hb.na oi og=some (3,ints p):=(ovB.na hoi2).trans lo;obtain⟨v3,Hc,hA3,hO3,hn3,hp3⟩:=rK (P:=prog) (H:=Hb) (t:=72) (n:=Hb.A) (m:=p.length) (v:=v2) (x:=.U oi og 0 (p.length) 1) (src:=(ints p).drop 0) Tryz.underlying72 Tryz.fC Tryz.fm
   (by rw[tn,Vh rfl,hlb];simp[Vi,bD]) (by simp[bD]) (VG.2 fun c hc=>by
    obtain⟨z,_,rfl⟩:=Vu.1 (Xk hc);rfl) (by rw[Tryz.fV];omega) hO2 ovB.A rfl
  have ovC:ZP H' Hc:=mo ovB hO2 hn3 hp3;have hla:Ha.na oi og=some (3,ints p):=(ovA.na hoi2).trans lo;rw[A1]at hO3;have hO3':aI H1.A Hc 3 v3 (ints (p.take 0++(k:Int) :: p.drop 0)):=by
   have:ints (p.take 0++[(k:Int)])++ints (p.drop 0)=ints (p.take 0++(k:Int) :: p.drop 0):=(by simp[ints]);rw[this]at hO3;exact hO3.ng ov.A ZJ fun _ _ _ _ _ _=>rfl
  simp only[go_sem,WD,e1,e3,e4,l2,hb,ho,w0,lo,hlb,hA1,hA2,hA3];refine⟨by have:=ovC.A;omega,⟨k+1,_,rfl,V,by rw[gQ,<- hpe,show ni ord k=0 by unfold ni;rw[Vg V]],ov.trans ovC,hO3'⟩,by rw[h4];simp only[aa,bf];omega⟩
def pX (h:∀x∈l,0<=x):0<=l.sum:=by
 induction l with
 |nil=>simp
 |cons a l ih =>
  rw[WI];have:=h a ZG;have:=ih fun x hx=>h x (by simp[hx]);omega
def Ez {a:Int}(h:l[i]?=some a):(l.set i b).sum=l.sum-a+b:=by
 induction l generalizing i with
 |nil=>simp at h
 |cons x l ih =>
  cases i with
  |zero=>simp at h;subst h;simp only[List.set_cons_zero,WI];omega
  |succ i =>
   simp only[List.set_cons_succ,WI];rw[ih (by simpa using h)];omega
def Ri (h:∀x∈l,0<=x/\x<=b):l.sum<=b*l.length:=by
 induction l with
 |nil=>simp
 |cons a l ih =>
  rw[WI,List.length_cons];have:=(h a ZG).2;have:=ih fun x hx=>h x (by simp[hx]);rw[show b*((l.length+1:Nat):Int)=b*l.length+b by rw[Int.natCast_add,X1];simp];omega
def wF (n:Nat)(bs:List Int)(from':Int):List Int:=(List.range n).map fun (k:Nat)=>if bs.length=0 then 0 else bs.getD ((from'+(k:Int)) % (bs.length:Int)).toNat 0 % 8
def EA (n:Nat)(bs:List Int)(from':Int):(wF n bs from').length=n:=by simp[wF]
def EB (bs:List Int)(from':Int){k:Nat}(h:k<n):(wF n bs from')[k]?=some (if bs.length=0 then 0 else bs.getD ((from'+(k:Int)) % (bs.length:Int)).toNat 0 % 8):=by
 unfold wF;rw[List.getElem?_map,VR h];rfl
def Rj (n:Nat)(bs:List Int)(from':Int):∀x∈wF n bs from',0<=x/\x<=7:=fun x hx=>by
 unfold wF at hx;obtain⟨k,_,rfl⟩:=Vu.1 hx;split<;>omega
def wq (g s:Int)(st:List Int × Nat)(m:Nat):List Int × Nat:=if 0<st.1.getD m 0 then (st.1.set m (g*st.1.getD m 0 / s),m) else st
def jT (g:Int)(c:List Int)(m:Nat):List Int × Nat:=(List.range m).foldl (wq g c.sum) (c,0)
def EC (g:Int)(c:List Int)(m:Nat):jT g c (m+1)=wq g c.sum (jT g c m) m:=by unfold jT;rw[VX,Wn];rfl
def oI (g:Int)(n:Nat)(bs:List Int)(from':Int):List Int:=(jT g (wF n bs from') n).1.set (jT g (wF n bs from') n).2 ((jT g (wF n bs from') n).1.getD (jT g (wF n bs from') n).2 0+(g-(jT g (wF n bs from') n).1.sum))
structure RInv (g:Int)(c:List Int)(m:Nat)(d:List Int)(last:Nat):Prop where
 dl:d.length=c.length
 d0:∀x∈d,0<=x
 dd:d.drop m=c.drop m
 dg:(d.take m).sum<=g
 ds:c.sum*(d.take m).sum<=g*(c.take m).sum
 la:last<c.length
def ED {c:List Int}(hg:1<=g)(hc:∀x∈c,0<=x)(hl:0<c.length):∀m,m<=c.length->RInv g c m (jT g c m).1 (jT g c m).2:=by
 intro m
 induction m with
 |zero=>intro _;exact⟨rfl,hc,rfl,by simp;omega,ZG,hl⟩
 |succ m ih =>
  intro hm;obtain⟨hdl,hd0,hdd,hdg,hds,hla⟩:=ih V;rw[EC];generalize jT g c m=st at *
  obtain⟨d,last⟩:=st;simp only at hdl hd0 hdd hdg hds hla;obtain⟨x,hcx⟩:=ay (l:=c) (i:=m) V;have hx0:=hc x (an hcx);have hdx:d[m]?=some x:=by
   have h1:(d.drop m)[0]?=d[m]?:=(by rw[Wz];rfl);have h2:(c.drop m)[0]?=c[m]?:=(by rw[Wz];rfl);rw[<- h1,hdd,h2,hcx]
  have hdd':d.drop (m+1)=c.drop (m+1):=by
   have:=congrArg (List.drop 1) hdd
   rwa [XC,XC]at this
  have hct:(c.take (m+1)).sum=(c.take m).sum+x:=by rw[bd hcx];simp
  have hcs:(c.take (m+1)).sum+(c.drop (m+1)).sum=c.sum:=by rw[<- YF,V2]
  have hcd0:=pX (l:=c.drop (m+1)) fun y hy=>hc y (Xk hy);have hc00:=pX (l:=c.take m) fun y hy=>hc y (VE hy);have hd00:=pX (l:=d.take m) fun y hy=>hd0 y (VE hy);unfold wq;rw[bI hdx];by_cases hx:0<x
  ·rw[Vh hx];have gx:0<=g*x:=W2 V hx0;have y0:0<=g*x / c.sum:=Int.ediv_nonneg gx V;have y2:c.sum*(g*x / c.sum)<=g*x:=Zt V;have dt:((d.set m (g*x / c.sum)).take (m+1)).sum=(d.take m).sum+g*x / c.sum:=by
    rw[bd (VB V),Yg ZJ];simp
   have hs2:c.sum*((d.take m).sum+g*x / c.sum)<=g*(c.take (m+1)).sum:=by
    rw[X1,hct,X1];omega
   have hle:(d.take m).sum+g*x / c.sum<=g:=by
    have h1:g*(c.take (m+1)).sum<=g*c.sum:=VU V V;have h2:c.sum*((d.take m).sum+g*x / c.sum)<=c.sum*g:=(by rw[Wx c.sum g];omega);exact Ze h2 (V)
   refine⟨by simp[hdl],fun y hy=>?_,?_,by dsimp only;rw[dt];exact hle,by dsimp only;rw[dt];exact hs2,by dsimp only;omega⟩
   ·rcases Wa hy with h|h
    ·exact hd0 y h
    ·omega
   ·rw[<- hdd',ZB V]
  ·rw[Vg hx];have x0:x=0:=V;have dt:(d.take (m+1)).sum=(d.take m).sum:=(by rw[bd hdx,x0];simp);rw[x0,XL]at hct;exact⟨hdl,hd0,hdd',by dsimp only;rw[dt];exact hdg,by dsimp only;rw[dt,hct];exact hds,hla⟩
def Rk (hg:1<=g)(hn:1<=n)(bs:List Int)(from':Int):kJ g n (oI g n bs from'):=by
 have hw:=EA n bs from';have I:=ED (g:=g) (c:=wF n bs from') hg (fun x hx=>(Rj n bs from' x hx).1) V n V;unfold oI;generalize jT g (wF n bs from') n=st at *
 obtain⟨d,last⟩:=st;obtain⟨hdl,hd0,hdd,hdg,hds,hla⟩:=I;dsimp only at hdl hd0 hdd hdg hds hla ⊢;obtain⟨y,hy⟩:=ay (l:=d) (i:=last) V;have y0:=hd0 y (an hy);rw[bI hy];rw[Vi V]at hdg;have hs:(d.set last (y+(g-d.sum))).sum=g:=by rw[Ez hy];omega
 have h0:∀w∈d.set last (y+(g-d.sum)),0<=w:=fun w hw=>by
  rcases Wa hw with h|h
  ·exact hd0 w h
  ·omega
 exact⟨by simp[hdl,hw],fun w hw=>⟨h0 w hw,by have:=AJ h0 w hw;omega⟩,hs⟩
def Rl (g:Int)(n:Nat)(hg:1<=g/\g<=60)(hn:1<=n/\n<=4)(bs:List Int)(hbl:(bs.length:Int)<2 ^ 63)(hb8:∀x∈bs,U8 x)(from':Int)(hf:0<=from'/\from'<=1000000)(H:ZK)(K:ZQ->ZK->Prop)(hK:∀v H',ZP H H'->aI H.A H' 3 v (ints (oI g n bs from'))->K (.ret v) H'):
  ae prog G0 77 [aa g,aa n,.Q bs.length (cG bs),aa from'] H K:=by
 refine ae.X ⟨_,func77,rfl,rfl⟩ fun hcl=>?_;refine ae.st (n:=84) (rs:=[.tmp 8]) func77 ?_;simp only[go_sem];refine⟨V,?_⟩;refine W.aS 35184371960832 (by rfl) (fun ρ H'=>∃(k:Nat) (c:List Int),ρ 11=aa k/\k<=n/\c.length=n/\(∀x∈c,0<=x/\x<=7)/\(∀j x,k<=j->c[j]?=some x->x=0)/\(∀j,j<k->c[j]?=(wF n bs from')[j]?)/\ρ 10=aa c.sum/\Z8 H H' H.A c) (fun ρ H=>n-(iv (ρ 11)).toNat) ?_ ?_
 ·simp only[go_sem];refine⟨0,List.replicate n 0,rfl,V,ZG,fun x hx=>?_,fun j x _ hx=>?_,fun j hj=>V,ZG,?_⟩
  ·have:=WU hx;omega
  ·exact WU (an hx)
  ·exact .new [] _
 rintro ρ H' ⟨k,c,h11,hk,hcl',hc7,hc0,hcw,h10,ho⟩;refine W.en (fun E=>E 0=aa g /\ E 1=aa n /\ E 2=.Q bs.length (cG bs) /\ E 3=aa from' /\ E 9=.U H.A 0 0 n 1 /\ E 10=aa c.sum /\ E 11=aa k) (by simp only[go_sem,h10,h11]) fun E ⟨e0,e1,e2,e3,e9,e10,e11⟩=>?_
 refine W.vs ?_;have lN:=ho.na;have hs0:=pX fun x hx=>(hc7 x hx).1;have hs1:=Ri hc7;by_cases hb:(k:Int)<n
 ·have hck:c[k]?=some 0:=by
   obtain⟨a,ha⟩:=ay (l:=c) (i:=k) V;rw[ha,hc0 k a ZJ ha]
  have hcne:=aZ hck;have hk0:(k:Int) >= 0:=V
  have w1:=Vd ((k:Int)+1) V;by_cases hz:(0:Int)<bs.length
  ·have hzn:¬(bs.length:Int)=0:=V;have w2:=Vd (from'+k) V;have m1:(from'+(k:Int)).tmod bs.length=(from'+k) % bs.length:=VV V;have m2:=Yj (from'+k) hzn;have m3:=XI (from'+k) hz;obtain⟨q,hq⟩:=Vm m2;have hq0:(q:Int) >= 0:=V;have hql:(q:Int)<bs.length:=V;obtain⟨b,hbg⟩:=ay (l:=bs) (i:=q) V;have b8:=hb8 b (an hbg);have hbg':=vh hbg;have hbne:=aZ hbg';have t1:b.tmod 8=b % 8:=VV b8.1;have w3:IntKind.u8.wrap (b % 8)=b % 8:=Zi _ V;have w4:IntKind.i64.wrap (b % 8)=b % 8:=Vd _ V;have w5:=Vd (c.sum+b % 8) V;have hsg:(setAt (ints c) k [.lit (.int .i64 (b % 8))])[k]?=some (.lit (.int .i64 (b % 8))):=by
    rw[iR V,gZ,VB V];rfl
   simp only[go_sem,hsg,e1,e2,e3,e9,e10,e11,hb,hz,hzn,w1,w2,m1,hq,hq0,hql,hbg',hbne,t1,w4,w5,hk0,lN];refine⟨V,by have:=ho.hi;rw[aQ];omega,⟨k+1,c.set k (b % 8),rfl,V,by simp[hcl'],fun x hx=>?_,fun j x hj hx=>?_,fun j hj=>?_,by rw[Ez hck,Zn],ho.store V _⟩,by rw[h11];simp only[aa,bf];omega⟩
   ·rcases Wa hx with h|h
    ·exact hc7 x h
    ·omega
   ·rw[VP V]at hx;exact hc0 j x V hx
   ·by_cases hjk:j=k
    ·subst hjk;rw[VB V,EB bs from' V,Vg V,hq,Int.toNat_natCast,bI hbg]
    ·rw[VP V];exact hcw j (V)
  ·have w5:=Vd (c.sum+0) V;rw[XL]at w5;simp only[go_sem,e1,e2,e9,e10,e11,hb,hz,w1,w5,XL,hk0,hck,lN];refine⟨by have:=ho.hi;omega,⟨k+1,c,rfl,V,hcl',hc7,fun j x hj hx=>hc0 j x V hx,fun j hj=>by
    by_cases hjk:j=k
    ·subst hjk;rw[hck,EB bs from' V,Vh V]
    ·exact hcw j V,rfl,ho⟩,by rw[h11];simp only[aa,bf];omega⟩
 ·obtain rfl:k=n:=V
  simp only[go_sem,e1,e11,hb];have hcwF:c=wF k bs from':=by
   apply V3;intro j;rcases VC j k with h|h
   ·exact hcw j h
   ·rw[Vo V,Vo (by rw[EA];exact h)]
  have hRI:=fun m (hm:m<=k)=>ED (g:=g) (c:=c) hg.1 (fun x hx=>(hc7 x hx).1) V m V;refine W.aS 18889465861109836705792 (by rfl) (fun ρ H2=>∃(m last:Nat) (d:List Int),ρ 14=aa m/\m<=k/\jT g c m=(d,last)/\ρ 12=aa (g-(d.take m).sum)/\ρ 13=aa last/\H'.A<=H2.A/\Z8 H H2 H.A d) (fun ρ H=>k-(iv (ρ 14)).toNat) ?_ ?_
  ·simp only[go_sem,e0];exact⟨0,0,c,rfl,V,rfl,ZG,rfl,ho⟩
  rintro ρ2 H2 ⟨m,last,d,h14,hm,hrf,h12,h13,hnn,hod⟩;obtain⟨hdl,hd0,hdd,hdg,hds,hlast⟩:RInv g c m d last:=by have:=hRI m hm;rw[hrf]at this;exact this
  rw[hcl']at hdl hlast;have hrs:=EC g c m;rw[hrf]at hrs;unfold wq at hrs;dsimp only at hrs;refine W.en (fun E2=>E2 0=aa g /\ E2 1=aa k /\ E2 9=.U H.A 0 0 k 1 /\ E2 10=aa c.sum /\ E2 12=aa (g-(d.take m).sum) /\ E2 13=aa last /\ E2 14=aa m) (by simp only[go_sem,e0,e1,e9,e10,h12,h13,h14]) fun E2 ⟨f0,f1,f9,f10,f12,f13,f14⟩=>?_
  refine W.vs ?_;have lN2:=hod.na;by_cases hb2:(m:Int)<k
  ·obtain⟨x,hcx⟩:=ay (l:=c) (i:=m) V;have hx7:=hc7 x (an hcx);have hdx:d[m]?=some x:=by
    have h1:(d.drop m)[0]?=d[m]?:=(by rw[Wz];rfl);have h2:(c.drop m)[0]?=c[m]?:=(by rw[Wz];rfl);rw[<- h1,hdd,h2,hcx]
   have hdne:=aZ hdx;have hm0:(m:Int) >= 0:=V;have w1:=Vd ((m:Int)+1) V;have hdd':d.drop (m+1)=c.drop (m+1):=by
    have:=congrArg (List.drop 1) hdd
    rwa [XC,XC]at this
   have hct:(c.take (m+1)).sum=(c.take m).sum+x:=(by rw[bd hcx];simp);have hcs:(c.take (m+1)).sum+(c.drop (m+1)).sum=c.sum:=(by rw[<- YF,V2]);have hcd0:=pX (l:=c.drop (m+1)) fun y hy=>(hc7 y (Xk hy)).1;have hc00:=pX (l:=c.take m) fun y hy=>(hc7 y (VE hy)).1;have hd00:=pX (l:=d.take m) fun y hy=>hd0 y (VE hy);by_cases hx:0<x
   ·have hsz:¬c.sum=0:=V;have gx:0<=g*x:=W2 V hx7.1;have gx2:g*x<=60*7:=WV hg.2 hx7.2 hx7.1 V;have w2:=Vd (g*x) V;have t1:(g*x).tdiv c.sum=g*x / c.sum:=V1 gx;have y0:0<=g*x / c.sum:=Int.ediv_nonneg gx hs0;have y1:g*x / c.sum<=g*x:=Int.ediv_le_self _ gx;have y2:c.sum*(g*x / c.sum)<=g*x:=Zt V;have w3:=Vd (g*x / c.sum) V;have w4:=Vd (g-(d.take m).sum-g*x / c.sum) V;have hsg:(setAt (ints d) m [.lit (.int .i64 (g*x / c.sum))])[m]?=some (.lit (.int .i64 (g*x / c.sum))):=by
     rw[iR V,gZ,VB V];rfl
    have dt:((d.set m (g*x / c.sum)).take (m+1)).sum=(d.take m).sum+g*x / c.sum:=by
     rw[bd (VB V),Yg ZJ];simp
    have hs2:c.sum*((d.take m).sum+g*x / c.sum)<=g*(c.take (m+1)).sum:=by
     rw[X1,hct,X1];omega
    have hle:(d.take m).sum+g*x / c.sum<=g:=by
     have h1:g*(c.take (m+1)).sum<=g*c.sum:=VU V V;have h2:c.sum*((d.take m).sum+g*x / c.sum)<=c.sum*g:=(by rw[Wx c.sum g];omega);exact Ze h2 (V)
    simp only[go_sem,hsg,f0,f1,f9,f10,f12,f13,f14,hb2,hx,hsz,w1,w2,t1,w3,w4,hm0,hdx,lN2];rw[bI hdx,Vh hx]at hrs;exact⟨V,by rw[aQ];exact hnn,⟨m+1,m,d.set m (g*x / c.sum),rfl,V,hrs,by rw[dt];congr 2;omega,rfl,by rw[aQ];exact hnn,hod.store V _⟩,by rw[h14];simp only[aa,bf];omega⟩
   ·have x0:x=0:=V;have w4:=Vd (g-(d.take m).sum) V;simp only[go_sem,f1,f9,f12,f13,f14,hb2,x0,w1,w4,hm0,hdx,Zn,lN2];have dt:(d.take (m+1)).sum=(d.take m).sum:=(by rw[bd hdx,x0];simp);rw[x0,XL]at hct;rw[bI hdx,Vg hx]at hrs;exact⟨hnn,⟨m+1,last,d,rfl,V,hrs,by rw[dt],rfl,hnn,hod⟩,by rw[h14];simp only[aa,bf];omega⟩
  ·obtain rfl:m=k:=V;obtain⟨y,hy⟩:=ay (l:=d) (i:=last) V;have hyne:=aZ hy;have hl0:(last:Int) >= 0:=V;have hlk:(last:Int)<m:=V;have y0:=hd0 y (an hy);rw[Vi V]at hdg hds h12 f12;have hyle:=AJ hd0 y (an hy);have w1:=Vd (y+(g-d.sum)) V;have hle:last+1<=d.length:=V;simp only[go_sem,f1,f9,f12,f13,f14,hb2,hl0,hlk,hy,lN2,w1];refine⟨hle,?_⟩;have hrow:oI g m bs from'=d.set last (y+(g-d.sum)):=by
    unfold oI;rw[<- hcwF,hrf];dsimp only;rw[bI hy]
   rw[hrow]at hK;have ho2:=hod.store (k:=last) V (y+(g-d.sum));refine aj.mk ho2.ov.A (hK _ _ ho2.ov (.inr ⟨_,0,ho2.lo,ho2.hi,?_,ho2.get⟩));rw[bD,VF,hdl]
structure DrP where
 L:Int
 par:Int
 w:List Int
def DrP.cells (x:DrP):List ZL:=[.lit (.int .u8 x.L),.lit (.int .u8 x.par),.Q x.w.length (cG x.w)]
def gi (l:List DrP):List ZL:=(l.map DrP.cells).flatten
def DrP.Ok (x:DrP):Prop:=U8 x.L/\U8 x.par/\(x.w.length:Int)<2 ^ 63/\∀b∈x.w,U8 b
def wy (g:Int)(ps:List DrP)(ord:List Int):ZL:=.agg [.lit (.int .u8 g),.Q ps.length (gi ps),.Q ord.length (cG ord)]
def EO {l:List DrP}{x:DrP}(h:l[i]?=some x):((gi l).drop (i*3)).take 3=[.lit (.int .u8 x.L),.lit (.int .u8 x.par),.Q x.w.length (cG x.w)]:=oB (f:=DrP.cells) (z:=3) (fun _=>rfl) l i x h
def ER (l:List DrP):(gi l).length=l.length*3:=mg (f:=DrP.cells) (fun _=>rfl) l
def ZM.cY (x:ZM):List ZL:=if x.nb=[] then [aa x.L,.lit (.slice none 0 0),.lit (.slice none 0 0)] else [aa x.L,af x.F,bb x.nb]
def bP (l:List ZM):List ZL:=(l.map ZM.cY).flatten
def lC (x:ZM):x.cY.length=3:=by unfold ZM.cY;split<;>rfl
def ES (l:List ZM):(bP l).length=l.length*3:=mg (f:=ZM.cY) lC l
variable {x:ZM}
def ET {l:List ZM}(h:l[i]?=some x):(bP l)[i*3]?=some (aa x.L):=by
 have:=ko (f:=ZM.cY) (z:=3) lC l i 0 x h V;rw[Nat.add_zero]at this;rw[show (bP l)[i*3]?=_ from this];unfold ZM.cY;split<;>rfl
def RA {l:List ZM}(h:∀x∈l,x.nb≠[]):bP l=aG l:=by
 unfold bP aG;congr 1;exact VI fun x hx=>Vg (h x hx)
def wz {α:Type}{f:α->List ZL}{z:Nat}(hz:∀a,(f a).length=z):∀(l:List α) (i:Nat) (a:α),i<l.length->((l.set i a).map f).flatten=((l.map f).flatten).take (i*z)++f a++((l.map f).flatten).drop (i*z+z):=by
 intro l
 induction l with
 |nil=>intro i a h;simp at h
 |cons b l ih =>
  intro i a h;cases i with
  |zero=>simp[hz]
  |succ i =>
   have hb:=hz b;simp only[List.set_cons_succ,List.map_cons,List.flatten_cons];rw[ih i a (by simpa using h),show (i+1)*z=z+i*z by rw[VT];omega,List.take_append,List.drop_append,hb];rw[Vi (l:=f b) (i:=z+i*z) V,YA (l:=f b) (i:=z+i*z+z) V,show z+i*z-z=i*z by omega,show z+i*z+z-z=i*z+z by omega];simp
def EU {A B:List ZL}{a b:ZL}(h:∀j (h:j<A.length) (h':j<B.length),Fz S H nx A[j] B[j])(hab:Fz S H nx a b):∀j (h:j<(A.set i a).length) (h':j<(B.set i b).length),Fz S H nx (A.set i a)[j] (B.set i b)[j]:=by
 intro j h1 h2;rw[Yy,Yy];split
 ·exact hab
 ·exact h j (by simpa using h1) (by simpa using h2)
def Ad (l:List (List Int)):Fz S H nx (bb l) (bb l):=.Q rfl fun i hi _=>by simp only[Vw];exact .ea _
def RB (x:ZM):∀c∈x.cY,Fz S H nx c c:=by
 intro c hc;unfold ZM.cY at hc;split at hc
 ·simp only[List.mem_cons,List.not_mem_nil,or_false]at hc;rcases hc with rfl|rfl|rfl<;>exact .lit _
 ·simp only[List.mem_cons,List.not_mem_nil,or_false]at hc;rcases hc with rfl|rfl|rfl
  ·exact .lit _
  ·exact .ea _
  ·exact Ad _
def EV (l:List ZM):∀c∈bP l,Fz S H nx c c:=by
 intro c hc;unfold bP at hc;obtain⟨r,hr,hc⟩:=XS.1 hc;obtain⟨x,_,rfl⟩:=Vu.1 hr;exact RB x c hc
def RC :∀(l:List ZM),(∀x∈l,x.nb=[]->x.F=[])->∀(i:Nat) (h:i<(bP l).length) (h':i<(aG l).length),Fz S H nx (bP l)[i] (aG l)[i]:=by
 intro l
 induction l with
 |nil=>intro _ i h;simp[bP]at h
 |cons x l ih =>
  intro hx i h h';have e1:bP (x :: l)=x.cY++bP l:=by simp[bP]
  have e2:aG (x :: l)=x.cells++aG l:=by simp[aG]
  have l1:=lC x;have l2:x.cells.length=3:=rfl;have hc:∀(i:Nat) (h:i<x.cY.length) (h':i<x.cells.length),Fz S H nx x.cY[i] x.cells[i]:=by
   intro i h h';by_cases hr:x.nb=[]
   ·have hp:=hx x ZG hr;have ez:x.cY=[aa x.L,.lit (.slice none 0 0),.lit (.slice none 0 0)]:=Vh hr;have ec:x.cells=[aa x.L,af [],bb []]:=(by unfold ZM.cells;rw[hr,hp]);simp only[ez,ec]
    match i,h' with
    |0,_=>exact .lit _
    |1,_=>exact .nil
    |2,_=>exact .nil
   ·have ez:x.cY=x.cells:=Vg hr;simp only[ez]
    match i,h' with
    |0,_=>exact .lit _
    |1,_=>exact .ea _
    |2,_=>exact Ad _
  simp only[e1,e2];by_cases hi:i<3
  ·rw[Wj V,Wj V];exact hc i V (V)
  ·rw[Wt V,Wt V];simp only[l1,l2];exact ih (fun y hy=>hx y (by simp[hy])) (i-3) _ _
def RD {l:List ZM}{y:ZM}(h:l[i]?=some x)(hy:y.L=x.L):aG (l.set i y)=((aG l).set (i*3+1) (af y.F)).set (i*3+2) (bb y.nb):=by
 have hl:=aO h;have h1:=wz (f:=ZM.cells) (z:=3) (fun _=>rfl) l i y hl;have h2:=oB (f:=ZM.cells) (z:=3) (fun _=>rfl) l i x h;unfold aG;rw[h1];have h3:(l.map ZM.cells).flatten=((l.map ZM.cells).flatten).take (i*3)++(x.cells++((l.map ZM.cells).flatten).drop (i*3+3)):=by
  rw[<- h2,<- XC,V2,V2]
 have hlen:(((l.map ZM.cells).flatten).take (i*3)).length=i*3:=by
  rw[Vv,mg (f:=ZM.cells) (z:=3) (fun _=>rfl)];omega
 conv=>rhs;rw[h3]
 rw[WC _ _ V,WC _ _ V,hlen,show i*3+1-i*3=1 by omega,show i*3+2-i*3=2 by omega];unfold ZM.cells;simp[hy]
def wA {lo:Nat}{e:TypeId}{v:ZL}{cs:List ZL}(h:aI lo H e v cs){d:Option TypeDesc}{t:TypeId}(hd:d=some (.slice t)):tg d H v=some (.lit (.int .i64 cs.length)):=by
 subst hd;rcases h with ⟨rfl,rfl⟩|⟨id,g,_,_,rfl,h4⟩
 ·rfl
 ·rw[rf,Cn,ag h4];rfl
def RE (l p:List Int)(hl:(l.length:Int)<2 ^ 40)(hp:(p.length:Int)<2 ^ 39)(hin:∀q∈p,0<=q/\q<l.length)(H:ZK)(K:ZQ->ZK->Prop)(hK:∀v H',ZP H H'->aI H.A H' 3 v (ints (aK l p))->K (.ret v) H'):ae prog G0 121 [af l,af p] H K:=by
 refine ae.X ⟨_,func121,rfl,rfl⟩ fun hcl=>?_;refine ae.st (n:=24) (rs:=[.tmp 4]) func121 ?_;simp only[go_sem];refine W.aS 8388576 (by rfl) (fun ρ H'=>∃k:Nat,ρ 6=aa k/\k<=p.length/\ZP H H'/\aI H.A H' 3 (ρ 5) (ints (aK l (p.take k)))) (fun ρ H=>p.length-(iv (ρ 6)).toNat) ?_ ?_
 ·simp only[go_sem];exact⟨0,rfl,V,.refl _,.nil⟩
 rintro ρ H' ⟨k,h6,hk,ov,h5⟩;refine W.vs ?_;by_cases hb:(k:Int)<p.length
 ·obtain⟨q,hq⟩:=ay (l:=p) (i:=k) V;obtain⟨j,rfl,a,ha⟩:=mX (hin q (an hq)).1 (hin q (an hq)).2;have hne:=aZ hq;have hne2:=aZ ha;have hj:=aO ha;have hj':(j:Int)<l.length:=V
  obtain⟨v',H2,hA,ov2,hO,hn2,_⟩:=mD a ov h5 (by simp[aK];omega);have w1:=Vd ((k:Int)+1) V;simp only[go_sem,h6,hb,hq,hne,ha,hne2,hj',w1,hA];refine⟨by have:=ov2.A;omega,⟨k+1,ZG,V,ov2,?_⟩,V⟩;rw[Tf hq,Int.toNat_natCast,bI ha];exact hO
 ·simp only[go_sem,h6,hb];rw[Vi V]at h5;exact aj.mk ov.A (hK _ _ ov h5)
def RF (g:Int)(ns:List ZM)(v:Nat)(x:ZM)(hx:ns[v]?=some x)(hl:(ns.length:Int)<2 ^ 39)(hp:(x.F.length:Int)<2 ^ 39)(hin:iI x.F ns.length)(H:ZK)(K:ZQ->ZK->Prop)
  (hK:∀v H',ZP H H'->aI H.A H' 3 v (ints (aT ns x))->K (.ret v) H'):ae prog G0 76 [eZ g ns,aa v] H K:=by
 refine ae.X ⟨_,func76,rfl,rfl⟩ fun hcl=>?_;have hne:=fQ hx;have e1:=mW hx;have hv:(v:Int)<ns.length:=by have:=aO hx;omega
 refine ae.st (n:=14) (rs:=[.tmp 4]) func76 ?_;simp only[go_sem,eZ,eQ];refine W.dr 8 [0,1,0,4,0,28,60,124] mixed ?_;simp only[go_sem];refine⟨af (au ns),[],aY.pure fun H2=>Tg g ns hl H2 _ ⟨rfl,rfl⟩,?_⟩;simp only[go_sem,hv,hne,e1];refine ak.X (RE (au ns) x.F (by rw[eU];omega) hp (by rw[eU];exact hin) _ _ fun w H3 ov ho=>⟨trivial,?_⟩);simp only[go_sem];have o1:ZP H H3:=(ZP.ext _ _).trans ov;exact aj.mk o1.A (hK _ _ o1 (ho.ng (by simp[aW]) ZJ fun _ _ _ _ _ _=>rfl))
def EW {ns:List ZM}{P:List Int}(hP:nnj ns.length P)(hall:∀v:Nat,v<ns.length->(v:Int)∈P)(hr:∀(j v:Nat) (x:ZM),P[j]?=some (v:Int)->ns[v]?=some x->∀q∈x.F,0<=q/\∃k,k<j/\P[k]?=some q):jR (aB ns):=by
 intro v hv;have hl:(aB ns).length=ns.length:=by simp[aB]
 rw[hl]at hv;obtain⟨j,hj⟩:=Vl.1 (hall v hv);have h0:∀p∈P.take j,0<=p:=fun p hp=>(hP.np p (VE hp)).1;have sub:∀(k u:Nat) (x:ZM),k<=j->P[k]?=some (u:Int)->ns[u]?=some x->Sub ((aB ns).getD u 0) (bF (P.take j)):=fun k u x hk hu hx i hi=>by
  rw[bI (kI hx)]at hi;have hp0:∀p∈x.F,0<=p:=fun p hp=>(hr k u x hu hx p hp).1;rw[iD hp0]at hi;obtain⟨_,k',hk',hq⟩:=hr k u x hu hx _ (of_decide_eq_true hi);rw[iD h0];refine VD ?_;exact Vl.2 ⟨k',by rw[Vz V];exact hq⟩
 have hcl:mi (aB ns) (bF (P.take j)):=fun u hu ht=>by
  rw[hl]at hu;rw[iD h0]at ht;obtain⟨k,hk⟩:=Vl.1 (of_decide_eq_true ht);have hkl:=aO hk;rw[Vv]at hkl;rw[Vz V]at hk;obtain⟨x,hx⟩:=ay hu;exact sub k u x V hk hx
 obtain⟨x,hx⟩:=ay hv;have h1:=pT hcl (aB ns).length (sub j v x ZJ hj hx);cases hb:(dP (aB ns) ((aB ns).getD v 0)).testBit v with
 |false=>rfl
 |true =>
  exfalso;have h2:=h1 v hb;rw[iD h0]at h2;obtain⟨k,hk⟩:=Vl.1 (of_decide_eq_true h2);have hkl:=aO hk;rw[Vv]at hkl;rw[Vz V]at hk;have e:P[k]?=P[j]?:=by rw[hk,hj]
  have:=(Wu (aO hk) hP.nd).1 e;omega
end Go.Proofs
