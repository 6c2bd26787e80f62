/- Own work: contracts. -/
import Derived.Test.YteolcdbjdgimhaaGreatConA
set_option linter.all false
set_option maxHeartbeats 8000000
set_option maxRecDepth 100000
namespace Go.Hx
theorem ay.kj {lo:Nat}{H:AHeap}{e:TypeId}{v:AVal}{l:List Int}(h:ay lo H e v (ints l)):Fresh H v (af l):=by
 rcases h with ⟨rfl,h⟩|⟨id,g,h1,h2,rfl,h4⟩
 ·have:l=[]:=by cases l with
   |nil=>rfl
   |cons a l=>simp[ints]at h
  subst this;exact .nil
 ·have e:af l=.vec (ints l).length (ints l):=by rw[aH];rfl
  rw[e];refine .own h4 (by simp) fun j hj h2 h'=>?_;simp only[Nat.zero_add,ints,SV];exact .lit _
theorem Fz.ou {H:AHeap}{id g n nx:Nat}{e:TypeId}{cs:List AVal}(hg:H.get id=some (.arr g e cs))(hn:n=cs.length)(hl:∀c∈cs,∃v,c=.lit v):Fz (fun _=>True) H nx (.own id g 0 n 1) (.vec n cs):=by
 refine .frz trivial hg (by omega) fun j hj h2 h'=>?_;simp only[Nat.zero_add];obtain⟨v,hv⟩:=hl _ (Tk h');rw[hv];exact .lit _
end Go.Hx
namespace Go.Proofs
open Go.Hx Tryz
def aW (l:List Nat):List Int:=l.map fun (v:Nat)=>(v:Int)
theorem DG {n j:Nat}{p:Nat->Bool}(hj:j<n)(h1:∀v,v<j->p v=false)(h2:p j=true):(List.range n).find? p=some j:=by
 rw[List.find?_eq_some_iff_getElem];refine⟨h2,j,by simpa using hj,by simp,fun k hk=>?_⟩;simp only[List.getElem_range];simp[h1 k hk]
theorem DH {n:Nat}{p:Nat->Bool}(h1:∀v,v<n->p v=false):(List.range n).find? p=none:=by
 rw[List.find?_eq_none];intro x hx;simp[h1 x (Tn.1 hx)]
theorem QQ (ps:List Nat)(hl:ps.length<=60)(hp:∀p∈ps,p<2 ^ 64)(H:AHeap)(K:ARes->AHeap->Prop)
  (hK:∀v H',Over H H'->(match fJ ps with|some o=>ay H.next H' 3 v (ints (aW o))|none=>v=.lit (.slice none 0 0))->K (.ret (.tup [v,.lit (.bool (fJ ps).isSome)])) H'):ag prog G0 147 [iq ps] H K:=by
 have no:∀H',fJ ps=none->Over H H'->ar prog G0 H K (.tup [.lit (.slice none 0 0),.lit (.bool false)]) H':=fun H' h ov=>ar.mk ov.next (by
  have:=hK (.lit (.slice none 0 0)) H' ov;rw[h]at this;exact this rfl)
 refine ag.st (n:=44) (rs:=[.tmp 2,.tmp 3]) func147 ?_;simp only[go_sem];refine⟨by omega,?_⟩;refine W.aG 8796093020412 (by rfl) (fun ρ H'=>∃(out:List Nat) (done:Nat),ρ 5=bP done/\done<2 ^ 64/\out.length<=ps.length/\H.next+1<=H'.next/\Over H H'/\ay H.next H' 3 (ρ 4) (ints (aW out))/\(∃id g,ρ 4=.own id g 0 out.length 1)/\iL ps (ps.length-out.length) out done=fJ ps)
  (fun ρ H=>ps.length-(match ρ 4 with|.own _ _ _ n _=>n|_=>0)) ?_ ?_
 ·simp only[go_sem];exact⟨[],0,by simp,by decide,UF _,.ext _ _,.inr ⟨H.next,0,Nat.le_refl _,by simp[aS],rfl,cq H _ []⟩,⟨_,_,rfl⟩,rfl⟩
 rintro ρ H' ⟨out,done,h5,hd,ho,hn0,ov,h4,⟨id,gn,h4e⟩,ht⟩;refine W.vs ?_;have lv:H'.live id gn=some (3,ints (aW out)):=by
  rcases h4 with ⟨h,_⟩|⟨i,g,h1,h2,h3,h4⟩
  ·rw[h4e]at h;cases h
  ·rw[h4e]at h3;have:=AVal.own.inj h3;obtain⟨rfl,rfl,_⟩:=this;exact ah h4
 by_cases hb:(out.length:Int)<ps.length
 ·simp only[go_sem,h4e,lv,hb];have hk1:ps.length-out.length=(ps.length-(out.length+1))+1:=by omega
  refine W.aG 8796092760304 (by rfl) (fun ρ2 H2=>H2=H'/\∃j:Nat,ρ2 18=aa j/\j<=ps.length/\ρ2 4=.own id gn 0 out.length 1/\ρ2 5=bP done/\∀v,v<j->jI ps done v=false) (fun ρ2 H=>ps.length-(iv (ρ2 18)).toNat) ?_ ?_
  ·simp only[go_sem,h4e,h5];exact⟨0,rfl,by omega,fun v h=>absurd h (S4 _)⟩
  rintro ρ2 H2 ⟨rfl,j,h18,hj,h4',h5',hno⟩;refine W.vs ?_;by_cases hb2:(j:Int)<ps.length
  ·obtain⟨p,hpj⟩:=get_of_lt (l:=ps) (i:=j) (by omega);have hp1:=hp p (SE hpj);have hne:=aJ hpj;have s1:=fun t x y=>mb (P:=prog) (t:=t) (x:=x) (y:=y) (k':=.i64) (s:=j) hd;have s2:=fun t x y=>oB (P:=prog) (t:=t) (x:=x) (y:=y) (s:=j) hd;have s3:=fun t x y=>zf (P:=prog) (t:=t) (x:=x) (y:=y) (a:=p) (b:=done);have w1:=SF ((j:Int)+1) (by omega);have cont:jI ps done j=false->∀v,v<j+1->jI ps done v=false:=fun h v hv=>by
    rcases S9 v j with h'|h'
    ·exact hno v h'
    ·obtain rfl:v=j:=(by omega);exact h
   have fe:jI ps done j=(!done.testBit j && decide (iT p done=0)):=(by unfold jI;rw[bp hpj]);cases hbit:done.testBit j;rotate_left
   ·simp only[go_sem,h18,h4',h5',hb2,hpj,hne,s1,s2,hbit,w1];exact⟨⟨j+1,by simp,by omega,cont (by rw[fe,hbit];rfl)⟩,by omega⟩
   by_cases hz:iT p done=0;rotate_left
   ·have hz':¬((iT p done:Nat):Int)=0:=(by omega);simp only[go_sem,h18,h4',h5',hb2,hpj,hne,s1,s2,s3,hbit,hz',w1];exact⟨⟨j+1,by simp,by omega,cont (by rw[fe,hbit];simp[hz])⟩,by omega⟩
   have hz':((iT p done:Nat):Int)=0:=(by omega);have hnx:kP ps done=some j:=DG (by omega) hno (by rw[fe,hbit];simp[hz]);obtain⟨v',H3,hA,ov2,hO,hn2,_⟩:=jk (j:Int) ov h4 (by simp[aW];omega);rw[h4e]at hA;have b2:(2:Nat) ^ j<2 ^ 64:=Ui (by decide) (by omega);have s4:=fun t x y=>py (P:=prog) (t:=t) (x:=x) (y:=y) (k':=.i64) (s:=j) (by omega);have s5:=fun t x y=>ma (P:=prog) (t:=t) (x:=x) (y:=y) hd b2;simp only[go_sem,h18,h4',h5',hb2,hpj,hne,s1,s2,s3,s4,s5,hbit,hz',hA];have hO':ay H.next H3 3 v' (ints (aW (out++[j]))):=by
    have e:aW (out++[j])=aW out++[(j:Int)]:=(by simp[aW]);rw[e];exact hO
   have hv':∃id g,v'=.own id g 0 (out.length+1) 1:=by
    rcases hO' with ⟨_,h⟩|⟨i,g,_,_,h3,_⟩
    ·simp[ints,aW]at h
    ·exact⟨i,g,by rw[h3,aH];simp[aW]⟩
   obtain⟨i2,g2,rfl⟩:=hv';refine⟨by omega,⟨out++[j],done |||2 ^ j,rfl,UU hd b2,by simp;omega,by omega,ov2,hO',⟨i2,g2,by simp⟩,?_⟩,by simp only;omega⟩;rw[<- ht,hk1]
   conv=>rhs;unfold iL
   rw[hnx];simp
  ·simp only[go_sem,h18,hb2];refine no _ ?_ ov;rw[<- ht,hk1];unfold iL;have:kP ps done=none:=DH fun v hv=>hno v (by omega);rw[this]
 ·simp only[go_sem,h4e,lv,hb];have hz:ps.length-out.length=0:=by omega
  rw[hz]at ht;have ht':fJ ps=some out:=ht.symm;have:=hK (.own id gn 0 out.length 1) H' ov;rw[ht']at this;refine ar.mk ov.next (this ?_);rw[h4e]at h4;exact h4
theorem QR (ps:List Nat)(hl:ps.length<=60)(hp:∀p∈ps,p<2 ^ 64)(H:AHeap)(v:AVal)(hv:Fz (fun _=>True) H 0 v (iq ps))(K:ARes->AHeap->Prop)
  (hK:K (.ret (.tup [af (aW ((fJ ps).getD [])),.lit (.bool (fJ ps).isSome)])) H):ag prog G0 147 [v] H K:=by
 refine(ag.frame (H:=H) (args:=[v]) (args':=[iq ps]) (v':=.tup [af (aW ((fJ ps).getD [])),.lit (.bool (fJ ps).isSome)]) aE rfl (fun i hi _=>match i,hi with|0,_=>hv) (QQ ps hl hp cz _ fun u H' ov hu=>⟨_,rfl,?_⟩)).mono ?_
 ·refine .tup rfl fun i hi _=>?_
  match i,hi with
  |0,_ =>
   show Fresh H' u _;cases ht:fJ ps with
   |none=>rw[ht]at hu;simp only at hu;rw[hu];show Fresh H' _ (af []);exact .nil
   |some o=>rw[ht]at hu;exact ay.kj hu
  |1,_=>exact .lit _
 ·rintro r H' ⟨rfl,rfl⟩;exact hK
def yM:AVal:=.agg [.lit (.int .i64 0),af [],af [],af [],af []]
def yQ (g:Int)(ns:List NodeP):AVal:=.agg [.lit (.int .i64 g),cE ns,af (ak ns),iq (bj ns),af (aW ((fJ (bj ns)).getD []))]
structure RdS (g:Int)(ns:List NodeP)(H H':AHeap)(c:List Int)(s:List Nat):Prop where
 nx:H.next+5<=H'.next
 ov:Over H H'
 b0:H'.get H.next=some (.arr 0 81 [.lit (.int .i64 g),.vec ns.length (aF ns)])
 b1:H'.get (H.next+1)=some (.arr 0 201 [.lit (.int .i64 0),.lit (.slice none 0 0),.lit (.slice none 0 0),.lit (.slice none 0 0),.lit (.slice none 0 0)])
 b2:H'.get (H.next+2)=some (.arr 0 3 (ints c))
 b3:H'.get (H.next+3)=some (.arr 0 35 (s.map bP))
 b4:H'.get (H.next+4)=some (.arr 0 201 [.lit (.int .i64 g),.vec ns.length (aF ns),.own (H.next+2) 0 0 ns.length 1,.own (H.next+3) 0 0 ns.length 1,.lit (.slice none 0 0)])
 cl:c.length=ns.length
 sl:s.length=ns.length
theorem RdS.over {g:Int}{ns:List NodeP}{H H' H2:AHeap}{c:List Int}{s:List Nat}(h:RdS g ns H H' c s)(o:Over H' H2):RdS g ns H H2 c s where
 nx:=Tt h.nx o.next
 ov:=h.ov.trans o
 b0:=(o.old _ (by have:=h.nx;omega)).trans h.b0
 b1:=(o.old _ (by have:=h.nx;omega)).trans h.b1
 b2:=(o.old _ (by have:=h.nx;omega)).trans h.b2
 b3:=(o.old _ (by have:=h.nx;omega)).trans h.b3
 b4:=(o.old _ (by have:=h.nx;omega)).trans h.b4
 cl:=h.cl
 sl:=h.sl
theorem RdS.QS {g:Int}{ns:List NodeP}{H H':AHeap}{c:List Int}{s:List Nat}(h:RdS g ns H H' c s){k:Nat}(hk:k<c.length)(x:Int):RdS g ns H (H'.upd (H.next+2) (.arr 0 3 (setAt (ints c) k [.lit (.int .i64 x)]))) (c.set k x) s where
 nx:=h.nx
 ov:=h.ov.upd (by omega) _
 b0:=by rw[ae,SI (by omega)];exact h.b0
 b1:=by rw[ae,SI (by omega)];exact h.b1
 b2:=by rw[ae,SK rfl,fD hk]
 b3:=by rw[ae,SI (by omega)];exact h.b3
 b4:=by rw[ae,SI (by omega)];exact h.b4
 cl:=by simpa using h.cl
 sl:=h.sl
theorem QT {l:List Nat}{i:Nat}{x:Nat}(h:i<l.length):setAt (l.map bP) i [.lit (.int .u64 (x:Int))]=(l.set i x).map bP:=by
 rw[eM (by simpa using h)];simp[bP]
theorem RdS.QU {g:Int}{ns:List NodeP}{H H':AHeap}{c:List Int}{s:List Nat}(h:RdS g ns H H' c s){k:Nat}(hk:k<s.length)(x:Nat):RdS g ns H (H'.upd (H.next+3) (.arr 0 35 (setAt (s.map bP) k [.lit (.int .u64 (x:Int))]))) c (s.set k x) where
 nx:=h.nx
 ov:=h.ov.upd (by omega) _
 b0:=by rw[ae,SI (by omega)];exact h.b0
 b1:=by rw[ae,SI (by omega)];exact h.b1
 b2:=by rw[ae,SI (by omega)];exact h.b2
 b3:=by rw[ae,SK rfl,QT hk]
 b4:=by rw[ae,SI (by omega)];exact h.b4
 cl:=h.cl
 sl:=by simpa using h.sl
theorem RdS.l0 {g:Int}{ns:List NodeP}{H H':AHeap}{c:List Int}{s:List Nat}(h:RdS g ns H H' c s):H'.live H.next 0=some (81,[.lit (.int .i64 g),.vec ns.length (aF ns)]):=ah h.b0
theorem RdS.l1 {g:Int}{ns:List NodeP}{H H':AHeap}{c:List Int}{s:List Nat}(h:RdS g ns H H' c s):H'.live (H.next+1) 0=some (201,[.lit (.int .i64 0),.lit (.slice none 0 0),.lit (.slice none 0 0),.lit (.slice none 0 0),.lit (.slice none 0 0)]):=ah h.b1
theorem RdS.l2 {g:Int}{ns:List NodeP}{H H':AHeap}{c:List Int}{s:List Nat}(h:RdS g ns H H' c s):H'.live (H.next+2) 0=some (3,ints c):=ah h.b2
theorem RdS.l3 {g:Int}{ns:List NodeP}{H H':AHeap}{c:List Int}{s:List Nat}(h:RdS g ns H H' c s):H'.live (H.next+3) 0=some (35,s.map bP):=ah h.b3
theorem RdS.l4 {g:Int}{ns:List NodeP}{H H':AHeap}{c:List Int}{s:List Nat}(h:RdS g ns H H' c s):H'.live (H.next+4) 0=some (201,[.lit (.int .i64 g),.vec ns.length (aF ns),.own (H.next+2) 0 0 ns.length 1,.own (H.next+3) 0 0 ns.length 1,.lit (.slice none 0 0)]):=ah h.b4
theorem qJ {S:Nat->Prop}{H:AHeap}{nx:Nat}(ns:List NodeP):Fz S H nx (.vec ns.length (aF ns)) (.vec ns.length (aF ns)):=by
 refine .vec rfl fun i hi _=>?_;have:∀(l:List NodeP) (c:AVal),c∈aF l->Fz S H nx c c:=by
  intro l c hc;unfold aF at hc;obtain⟨r,hr,hc⟩:=Uh.1 hc;obtain⟨x,_,rfl⟩:=SY.1 hr;unfold NodeP.cells at hc;simp only[List.mem_cons,List.not_mem_nil,or_false]at hc;rcases hc with rfl|rfl|rfl
  ·exact .lit _
  ·exact .cI _
  ·exact .aj _
 exact this ns _ (Tk _)
theorem QV (g:Int)(hg:1<=g/\g<=60)(ns:List NodeP)(sets:List Nat)(x:NodeP)(hin:eF x.parents ns.length)(hsm:cY (aP ns x))(hx1:(x.rows.length:Int)<2 ^ 38)(hx2:∀r∈x.rows,(r.length:Int)<2 ^ 38)(H:AHeap)(ci si:Nat)
  (h2:H.get ci=some (.arr 0 3 (ints (ak ns)))) (h3:H.get si=some (.arr 0 35 (sets.map bP))) (hs:sets.length=ns.length) (K:ARes->AHeap->Prop)
  (hK:K (.ret (.lit (.bool (lZ g ns x)))) H):ag prog G0 146 [.agg [.lit (.int .i64 g),.vec ns.length (aF ns),.own ci 0 0 ns.length 1,.own si 0 0 ns.length 1,.lit (.slice none 0 0)],.agg [.lit (.int .i64 x.card),.vec x.parents.length (ints x.parents),aj x.rows]] H K:=by
 refine(ag.frame (H:=H) (args:=[.agg [.lit (.int .i64 g),.vec ns.length (aF ns),.own ci 0 0 ns.length 1,.own si 0 0 ns.length 1,.lit (.slice none 0 0)],.agg [.lit (.int .i64 x.card),.vec x.parents.length (ints x.parents),aj x.rows]]) (args':=[.agg [.lit (.int .i64 g),cE ns,af (ak ns),iq sets,.lit (.slice none 0 0)],tf x]) (v':=.lit (.bool (lZ g ns x))) aE rfl (fun i hi _=>?_) (QP g hg ns sets x hin hsm hx1 hx2 cz _ ⟨_,rfl,.lit _⟩)).mono ?_
 ·match i,hi with
  |0,_ =>
   refine .agg rfl fun i hi _=>?_
   match i,hi with
   |0,_=>exact .lit _
   |1,_=>exact qJ _
   |2,_ =>
    have:=Fz.ou (nx:=0) h2 (n:=ns.length) (by rw[aH,cC]) (fun c hc=>by
     obtain⟨z,_,rfl⟩:=SY.1 hc;exact⟨_,rfl⟩)
    show Fz _ _ _ _ (.vec (ak ns).length (ints (ak ns)));rw[cC];exact this
   |3,_ =>
    have:=Fz.ou (nx:=0) h3 (n:=ns.length) (by simp[hs]) (fun c hc=>by
     obtain⟨z,_,rfl⟩:=SY.1 hc;exact⟨_,rfl⟩)
    show Fz _ _ _ _ (.vec sets.length (sets.map bP));rw[hs];exact this
   |4,_=>exact .lit _
  |1,_ =>
   refine .agg rfl fun i hi _=>?_
   match i,hi with
   |0,_=>exact .lit _
   |1,_=>exact .cI _
   |2,_=>exact .aj _
 ·rintro r H' ⟨rfl,rfl⟩;exact hK
theorem QW {ns:List NodeP}{k:Nat}{x:NodeP}(hx:ns[k]?=some x)(h0:∀q∈x.parents,0<=q)(hm:(k:Int)∈x.parents):¬j7 (bj ns):=fun h=>by
 have hk:=get_lt (mO hx);have:=h k hk;rw[bp (mO hx)]at this;have h1:=x7 (bj ns) (bj ns).length (cS x.parents) k (by rw[nM h0];exact Tm hm);unfold iK at this;rw[h1]at this;cases this
theorem QX (g:Int)(ns:List NodeP)(hf:qI ns)(H:AHeap)(K:ARes->AHeap->Prop)(hK:K (.ret (if oh g ns then .tup [yQ g ns,aa 0] else .tup [yM,aa 50])) H):ag prog G0 133 [bL g ns] H K:=by
 refine ag.clo ⟨_,func133,rfl,rfl⟩ fun hcl=>?_;have no:¬NetOk g ns->∀H',Over H H'->ar prog G0 H K (.tup [.agg [.lit (.int .i64 0),.lit (.slice none 0 0),.lit (.slice none 0 0),.lit (.slice none 0 0),.lit (.slice none 0 0)],.lit (.int .i64 50)]) H':=fun h H' ov=>by
  rw[vD h]at hK;refine ar.aV (v':=.tup [yM,aa 50]) aE hcl ov (.tup rfl fun i hi _=>?_) hK
  match i,hi with
  |0,_ =>
   refine .agg rfl fun i hi _=>?_
   match i,hi with
   |0,_=>exact .lit _
   |1,_=>exact .nil
   |2,_=>exact .nil
   |3,_=>exact .nil
   |4,_=>exact .nil
  |1,_=>exact .lit _
 refine ag.st (n:=140) (rs:=[.cell 2 201,.tmp 3]) func133 ?_;simp only[go_sem,bL,cE];have l1:=ah (cq H (.arr 0 81 [.lit (.int .i64 g),.vec ns.length (aF ns)]) [.arr 0 201 [.lit (.int .i64 0),.lit (.slice none 0 0),.lit (.slice none 0 0),.lit (.slice none 0 0),.lit (.slice none 0 0)]]);by_cases c1:g<1
 ·simp only[go_sem,c1];exact no (fun h=>by have:=h.g1;omega) _ (.ext _ _)
 by_cases c2:g > 60
 ·simp only[go_sem,l1,c1,c2];exact no (fun h=>by have:=h.g1;omega) _ (.ext _ _)
 by_cases c3:(ns.length:Int)<1
 ·simp only[go_sem,l1,c1,c2,c3];exact no (fun h=>by have:=h.n1;omega) _ (.ext _ _)
 by_cases c4:(ns.length:Int) > 8
 ·simp only[go_sem,l1,c1,c2,c3,c4];exact no (fun h=>by have:=h.n1;omega) _ (.ext _ _)
 simp only[go_sem,l1,c1,c2,c3,c4];refine W.dr 11 [0,0,2,6,14,0,32,96,224,511,0] mixed ?_;simp only[go_sem,l1]
 repeat (refine And.intro (by first|omega|(simp;done)|(simp;omega)|(intros;omega)|exact⟨rfl,by omega,by omega,gQ _⟩) ?_)
 obtain⟨Hb,hHb⟩:∃Hb,Hb=ext (ext H [.arr 0 81 [.lit (.int .i64 g),.vec ns.length (aF ns)],.arr 0 201 [.lit (.int .i64 0),.lit (.slice none 0 0),.lit (.slice none 0 0),.lit (.slice none 0 0),.lit (.slice none 0 0)],.arr 0 3 (List.replicate ns.length (.lit (.int .i64 0))),.arr 0 35 (List.replicate ns.length (.lit (.int .u64 0)))]) [.arr 0 201 [.lit (.int .i64 g),.vec ns.length (aF ns),.own (H.next+2) 0 0 ns.length 1,.own (H.next+3) 0 0 ns.length 1,.lit (.slice none 0 0)]]:=⟨_,rfl⟩
 rw[<- hHb];have R0:RdS g ns H Hb (List.replicate ns.length 0) (List.replicate ns.length 0):=by
  rw[hHb,dp];exact⟨by simp[aS],.ext _ _,cq ..,bD H _ 1 (by simp),by rw[bD H _ 2 (by simp)];simp[ints,aa],by rw[bD H _ 3 (by simp)];simp[bP],bD H _ 4 (by simp),by simp,by simp⟩
 have hcard:∀ {k:Nat},(∀x∈ns.take k,1<=x.card/\x.card<=4)->cY ((ak ns).take k):=fun {k} h=>ki (by simp[ak];omega) fun c hc=>by
  rw[show (ak ns).take k=ak (ns.take k) by simp[ak]]at hc;obtain⟨y,hy,rfl⟩:=SY.1 hc;exact h y hy
 refine W.aG 37778930737057254867176 (by rfl) (fun ρ H'=>∃(k:Nat) (c:List Int),ρ 50=aa k/\k<=ns.length/\ρ 5=aa (ao ((ak ns).take k))/\RdS g ns H H' c (List.replicate ns.length 0)/\Hb.next<=H'.next/\c.take k=(ak ns).take k/\∀x∈ns.take k,1<=x.card/\x.card<=4) (fun ρ H=>ns.length-(iv (ρ 50)).toNat) ?_ ?_
 ·simp only[go_sem];exact⟨0,_,rfl,by omega,by simp[gm],R0,by simp⟩
 rintro ρ H' ⟨k,c,h50,hk,h5,R,hn,hc,hall⟩;refine W.vs ?_;have q0:=R.l0;have q1:=R.l1;have q2:=R.l2;have q4:=R.l4;have rn:=R.nx;by_cases hb:(k:Int)<ns.length
 ·obtain⟨x,hx⟩:=get_of_lt (l:=ns) (i:=k) (by omega);have hxm:=SE hx;have hne:=dJ hx;have e0:=my hx;have e1:k*3+3<=(aF ns).length:=by rw[iI];omega
  have R2:=R.over (.ext H' [.arr 0 87 [.lit (.int .i64 x.card),.vec x.parents.length (ints x.parents),aj x.rows]]);have p1:=R2.l1;have p2:=R2.l2;have p4:=R2.l4;have nb1:¬H.next+1=H'.next:=by omega
  have nb2:¬H.next+2=H'.next:=by omega
  have nb4:¬H.next+4=H'.next:=by omega
  by_cases d1:x.card<1
  ·simp only[go_sem,h50,p1,hb,hne,e0,e1,d1];exact no (fun h=>by have:=(h.node x hxm).1;omega) _ (R2.ov.upd (by omega) _)
  by_cases d2:x.card > 4
  ·simp only[go_sem,h50,p1,hb,hne,e0,e1,d1,d2];exact no (fun h=>by have:=(h.node x hxm).1;omega) _ (R2.ov.upd (by omega) _)
  have hall':∀y∈ns.take (k+1),1<=y.card/\y.card<=4:=fun y hy=>by
   rw[aL hx]at hy;rcases S5.1 hy with hy|hy
   ·exact hall y hy
   ·obtain rfl:=List.mem_singleton.1 hy;exact⟨by omega,by omega⟩
  have b2:=(hcard hall').prod;rw[aL (dm hx),eQ]at b2;have w1:=SF ((k:Int)+1) (by omega);have w2:=SF (ao ((ak ns).take k)*x.card) (by omega);have hkc:k<c.length:=by rw[R.cl];omega
  have p0:∀b,((ext H' [.arr 0 87 [.lit (.int .i64 x.card),.vec x.parents.length (ints x.parents),aj x.rows]]).upd (H.next+2) b).live H'.next 0=some (87,[.lit (.int .i64 x.card),.vec x.parents.length (ints x.parents),aj x.rows]):=fun b=>by
   rw[bQ (by omega)];exact ah bX
  simp only[go_sem,h50,h5,p2,p4,p0,hb,hne,e0,e1,d1,d2,w1,w2];exact⟨by omega,by rw[au,aS];omega,⟨k+1,_,by simp,by omega,by rw[aL (dm hx),eQ],R2.QS hkc x.card,by rw[au,aS];omega,D6 hc hkc (dm hx),fun y hy=>hall' y hy⟩,by omega⟩
 have ek:k=ns.length:=by omega
 subst ek;rw[SH (Nat.le_refl _)]at hall;rw[SH (by rw[cC];omega)]at h5;have ec:c=ak ns:=by
  rw[SH (by rw[R.cl];omega),SH (by rw[cC];omega)]at hc;exact hc
 subst ec;by_cases c5:ao (ak ns) > 1024
 ·simp only[go_sem,h50,h5,q1,hb,c5];exact no (fun h=>by have:=h.size;omega) _ (R.ov.upd (by omega) _)
 simp only[go_sem,h50,h5,q4,hb,c5];refine W.aG 340282366920933627760096148915069392648 (by rfl) (fun ρ' H2=>∃(k:Nat) (s:List Nat),ρ' 82=aa k/\k<=ns.length/\RdS g ns H H2 (ak ns) s/\H'.next<=H2.next/\s.take k=(bj ns).take k/\(∀j,k<=j->s.getD j 0=0)/\∀x∈ns.take k,bO x.parents ns.length/\fO g ns x) (fun ρ' H=>ns.length-(iv (ρ' 82)).toNat) ?_ ?_
 ·simp only[go_sem];refine⟨0,_,rfl,by omega,R,rfl,fun j _=>?_,by simp⟩;rw[S2,TH];split<;>rfl
 rintro ρ' H2 ⟨k,s,h82,hk2,R2,hn2,hs,hs0,hall2⟩;refine W.vs ?_;have r2:=R2.nx;have q4:=R2.l4;by_cases hb2:(k:Int)<ns.length;rotate_left
 ·have es:s=bj ns:=by
   rw[SH (by rw[R2.sl];omega),SH (by simp[bj];omega)]at hs;exact hs
  subst es;rw[SH (by omega)]at hall2;have hlt:∀p∈bj ns,p<2 ^ ns.length:=vE fun x hx q hq=>(hall2 x hx).1.2 q hq;have hsl:(bj ns).length=ns.length:=by simp[bj]
  have hlt64:∀p∈bj ns,p<2 ^ 64:=fun p hp=>S1 (hlt p hp) (Te (by decide) (by omega));have hto:=Ca (ps:=bj ns) (by rw[hsl];exact hlt) (by omega);simp only[go_sem,h82,q4,hb2];have fzs:=Fz.ou (nx:=0) R2.b3 (n:=ns.length) (by simp[R2.sl]) (fun c hc=>by
   obtain⟨z,_,rfl⟩:=SY.1 hc;exact⟨_,rfl⟩)
  refine aw.clo (QR (bj ns) (by omega) hlt64 _ _ (by show Fz _ _ _ _ (.vec (bj ns).length _);rw[hsl];exact fzs) _ ⟨trivial,?_⟩);have q1:=R2.l1;cases hso:(fJ (bj ns)).isSome
  ·simp only[go_sem,q1];exact no (fun h=>by rw[hto.2 h.acyc]at hso;cases hso) _ (R2.ov.upd (by omega) _)
  have hok:NetOk g ns:=⟨by omega,by omega,fun x hx=>⟨hall x hx,(hall2 x hx).1⟩,by omega,hto.1 hso,fun x hx=>(hall2 x hx).2⟩
  rw[vC hok]at hK;have q1b:∀b,(H2.upd (H.next+4) b).live (H.next+1) 0=_:=fun b=>(bQ (by omega)).trans q1;simp only[go_sem,q1b,q4];have ovf:Over H ((H2.upd (H.next+4) (.arr 0 201 [.lit (.int .i64 g),.vec ns.length (aF ns),.own (H.next+2) 0 0 ns.length 1,.own (H.next+3) 0 0 ns.length 1,.vec (aW ((fJ (bj ns)).getD [])).length (ints (aW ((fJ (bj ns)).getD [])))])).upd (H.next+1) (.arr 0 201 [.lit (.int .i64 g),.vec ns.length (aF ns),.own (H.next+2) 0 0 ns.length 1,.own (H.next+3) 0 0 ns.length 1,.vec (aW ((fJ (bj ns)).getD [])).length (ints (aW ((fJ (bj ns)).getD [])))])):=(R2.ov.upd (by omega) _).upd (by omega) _;refine ar.aV (v':=.tup [yQ g ns,aa 0]) aE hcl ovf (.tup rfl fun i hi _=>?_) hK
  match i,hi with
  |1,_=>exact .lit _
  |0,_ =>
   refine .agg rfl fun i hi _=>?_
   match i,hi with
   |0,_=>exact .lit _
   |1,_=>exact qJ _
   |2,_ =>
    have hg2:∀b b',((H2.upd (H.next+4) b).upd (H.next+1) b').get (H.next+2)=some (.arr 0 3 (ints (ak ns))):=fun b b'=>by rw[ae,SI (by omega),ae,SI (by omega)];exact R2.b2
    show Fz _ _ _ (.own (H.next+2) 0 0 ns.length 1) (.vec (ak ns).length (ints (ak ns)));rw[<- cC ns];exact .ints (by show H.next<=_;omega) (hg2 _ _) (by simp) fun i hi=>by simp[ij,hi]
   |3,_ =>
    have hg3:∀b b',((H2.upd (H.next+4) b).upd (H.next+1) b').get (H.next+3)=some (.arr 0 35 ((bj ns).map bP)):=fun b b'=>by rw[ae,SI (by omega),ae,SI (by omega)];exact R2.b3
    show Fz _ _ _ (.own (H.next+3) 0 0 ns.length 1) (.vec (bj ns).length ((bj ns).map bP));rw[<- hsl];refine .frz (by show H.next<=_;omega) (hg3 _ _) (by simp) fun j hj h2 h'=>?_;simp only[Nat.zero_add,SV];exact .lit _
   |4,_=>exact .cI _
 obtain⟨x,hx⟩:=get_of_lt (l:=ns) (i:=k) (by omega);have hxm:=SE hx;have hne:=dJ hx;have e0:=my hx;have e1:k*3+3<=(aF ns).length:=by rw[iI];omega
 obtain⟨f1,f2,f3⟩:=hf.2 x hxm;simp only[go_sem,h82,hb2,hne,e0,e1];obtain⟨H3,hH3⟩:∃H3,H3=ext H2 [.arr 0 87 [.lit (.int .i64 x.card),.vec x.parents.length (ints x.parents),aj x.rows]]:=⟨_,rfl⟩
 have R3:RdS g ns H H3 (ak ns) s:=by rw[hH3];exact R2.over (.ext _ _)
 have nn:H3.next=H2.next+1:=hH3▸rfl
 have gN:=df hH3
 rw[<- hH3];have hks:k<s.length:=by rw[R2.sl];omega
 have s0:s.set k 0=s:=by
  apply Ti;intro i;rw[TM];split
  ·rename_i h;subst h;have:=hs0 k (Nat.le_refl _);rw[S2,SJ hks]at this;simp only[Option.getD_some]at this;rw[SJ hks,this]
  ·rfl
 refine W.aG 5316911981901723452329847966222259208 (by rfl) (fun ρ2 H4=>∃(j:Nat) (b:Int),ρ2 90=aa j/\j<=x.parents.length/\ρ2 10=aa b/\bO (x.parents.take j) ns.length/\(x.parents.take j).getLast?.getD (-1)=b/\RdS g ns H H4 (ak ns) (s.set k (cS (x.parents.take j)))/\H3.next<=H4.next/\H4.get H2.next=some (.arr 0 87 [.lit (.int .i64 x.card),.vec x.parents.length (ints x.parents),aj x.rows])/\¬(k:Int)∈x.parents.take j)
  (fun ρ2 H=>x.parents.length-(iv (ρ2 90)).toNat) ?_ ?_
 ·simp only[go_sem];exact⟨0,-1,rfl,by omega,rfl,.nil,rfl,by rw[show cS (x.parents.take 0)=0 from rfl,s0];exact R3,gN,by simp⟩
 rintro ρ2 H4 ⟨j,b,h90,hj,h10,hp,hbl,R4,hn4,gN4,hself⟩;refine W.vs ?_;have r4:=R4.nx;have t1:=R4.l1;have t3:=R4.l3;have t4:=R4.l4;have tN:=ah gN4;by_cases hb3:(j:Int)<x.parents.length
 ·obtain⟨a,ha⟩:=get_of_lt (l:=x.parents) (i:=j) (by omega);have ham:=SE ha;have hane:=aJ ha;by_cases d1:a<=b
  ·simp only[go_sem,h90,h10,hb3,ha,hane,d1,t1];refine no (fun h=>?_) _ (R4.ov.upd (by omega) _);have hpl:=(h.node x hxm).2;have h0:=hpl.2 a ham;rcases TG j with rfl|hk0
   ·simp at hbl;omega
   ·obtain⟨i,rfl⟩:∃i,j=i+1:=⟨j-1,by omega⟩
    obtain⟨b',hbj⟩:=get_of_lt (l:=x.parents) (i:=i) (by omega);rw[sZ hbj]at hbl;have:=hpl.lt hbj ha (by omega);simp at hbl;omega
  by_cases d2:a >= ns.length
  ·simp only[go_sem,h90,h10,hb3,ha,hane,d1,d2,t1,t4];exact no (fun h=>by have:=(h.node x hxm).2.2 a ham;omega) _ (R4.ov.upd (by omega) _)
  have h0:0<=a:=by
   rcases hg:(x.parents.take j).getLast? with _|b'
   ·rw[hg]at hbl;simp at hbl;omega
   ·rw[hg]at hbl;have:=hp.2 b' (V7 hg);simp at hbl;omega
  by_cases d3:a=k
  ·have d1':¬(k:Int)<=b:=(by omega);have d2':¬(k:Int) >= ns.length:=(by omega);simp only[go_sem,h90,h10,hb3,ha,hane,d1',d2',d3,t1,t4];exact no (fun h=>QW hx (fun q hq=>((h.node x hxm).2.2 q hq).1) (by rw[<- d3];exact ham) h.acyc) _ (R4.ov.upd (id:=H.next+1) (by omega) _)
  obtain⟨u,rfl⟩:=SR h0;have w1:=SF ((j:Int)+1) (by omega);have bm:cS (x.parents.take j)<2 ^ 64:=sy fun p hp'=>by have:=hp.2 p hp';omega
  have v1:=fun t x y=>py (P:=prog) (t:=t) (x:=x) (y:=y) (k':=.i64) (s:=u) (by omega);have v2:=fun t x y=>ma (P:=prog) (t:=t) (x:=x) (y:=y) (b:=2 ^ u) bm (Ui (by decide) (by omega));have gs:(s.set k (cS (x.parents.take j)))[k]?=some (cS (x.parents.take j)):=SX hks;simp only[go_sem,h90,h10,hb3,ha,hane,d1,d2,d3,t4];refine W.dr 7 [0,1,0,7,15,0,32] mixed ?_;simp only[go_sem,h90,hb2,t3,t4,gs,v1,v2,w1]
  repeat (refine And.intro (by first|omega|(simp;done)|(simp;omega)|(intros;omega)|exact⟨rfl,by omega,by omega,gQ _⟩) ?_)
  have R5:=R4.QU (k:=k) (by simpa using hks) (cS (x.parents.take j) |||2 ^ u);rw[UD]at R5;have esn:cS (x.parents.take (j+1))=cS (x.parents.take j) |||2 ^ u:=by rw[aL ha,xY];rfl
  refine⟨by rw[au];omega,⟨j+1,u,by simp,by omega,rfl,?_,by rw[sZ ha];rfl,by rw[esn];exact R5,by rw[au];omega,by rw[ae,SI (by omega)];exact gN4,fun hm=>?_⟩,by omega⟩
  ·rw[aL ha];exact hp.snoc ⟨by omega,by omega⟩ fun b' hb'=>by rw[hb']at hbl;simp at hbl;omega
  ·rw[aL ha]at hm;rcases S5.1 hm with hm|hm
   ·exact hself hm
   ·exact d3 (List.mem_singleton.1 hm).symm
 ·have hb3':=hb3;rw[SH (by omega)]at hp hself R4;simp only[go_sem,h90,hb3,t4,tN];have hin:eF x.parents ns.length:=fun q hq=>by have:=hp.2 q hq;omega
  refine aw.clo (QV g ⟨by omega,by omega⟩ ns _ x hin (iQ (by omega) hp hall) f2 f3 _ (H.next+2) (H.next+3) R4.b2 R4.b3 R4.sl _ ⟨trivial,?_⟩);cases hnb:lZ g ns x
  ·simp only[go_sem,t1];exact no (fun h=>by rw[DF (h.rows x hxm)]at hnb;cases hnb) _ (R4.ov.upd (by omega) _)
  have w1:=SF ((k:Int)+1) (by omega);simp only[go_sem,h82,w1];refine⟨by omega,⟨k+1,_,by simp,by omega,R4,by omega,?_,fun i hi=>?_,fun y hy=>?_⟩,by omega⟩
  ·have h1:=mO hx;rw[aL h1,aL (SX hks),U3 (Nat.le_refl k),hs]
  ·rw[S2,S3 (by omega),<- S2];exact hs0 i (by omega)
  ·rw[aL hx]at hy;rcases S5.1 hy with hy|hy
   ·exact hall2 y hy
   ·obtain rfl:=List.mem_singleton.1 hy;exact⟨hp,QO.1 hnb⟩
theorem QY (g:Int)(ns:List NodeP)(hf:qI ns)(H:AHeap)(K:ARes->AHeap->Prop)(hK:K (.ret (aa (if oh g ns then 0 else 50))) H):ag prog G0 100 [bL g ns] H K:=by
 refine ag.clo ⟨_,func100,rfl,rfl⟩ fun hcl=>?_;refine ag.st (n:=11) (rs:=[.tmp 2]) func100 ?_;simp only[go_sem,bL,cE];refine aw.clo (QX g ns hf _ _ ⟨trivial,?_⟩);cases hb:oh g ns
 ·rw[hb]at hK;simp only[go_sem,yM,List.length_nil];exact ar.aV aE hcl (.ext _ _) (.lit _) hK
 ·rw[hb]at hK;simp only[go_sem,yQ,cE];exact ar.aV aE hcl (.ext _ _) (.lit _) hK
def dO (D v:Nat):List Nat := (List.range v).filter fun v => D.testBit v
def aU (D v:Nat):Nat := (dO D v).length
def az (d:InfP):List Nat := dO d.decs d.nodes.length
theorem uI (D v:Nat):dO D (v + 1)=if D.testBit v then dO D v ++ [v] else dO D v := by
  unfold dO;rw[TZ,List.filter_append];cases h:D.testBit v <;> simp[h]
theorem OC {D v:Nat}:∀ {n:Nat},v <= n -> ∃r,dO D n=dO D v ++ r := by
  intro n
  induction n with
  | zero => intro h; obtain rfl : v = 0 := by omega
            exact⟨[],by simp⟩
  |succ n ih =>
    intro h;by_cases hv:v=n + 1
    · subst hv;exact⟨[],by simp⟩
    · obtain⟨r,hr⟩ := ih (by omega);rw[uI];split
      · exact⟨r ++ [n],by rw[hr,List.append_assoc]⟩
      · exact⟨r,hr⟩
theorem kQ {D v n:Nat}(hv:v < n)(hb:D.testBit v=true):(dO D n)[aU D v]? = some v := by
  obtain⟨r,hr⟩ := OC (D := D) (v := v + 1) (n := n) hv;rw[hr,uI,SK hb,List.append_assoc];unfold aU;simp
theorem kR (D v:Nat):aU D (v + 1)=if D.testBit v then aU D v + 1 else aU D v := by
  unfold aU;rw[uI];split <;> simp
theorem eI {D v n:Nat}:v ∈ dO D n ↔ v < n /\ D.testBit v=true := by unfold dO;simp
theorem eE {D n k v:Nat}(h:(dO D n)[k]? = some v):v < n /\ D.testBit v=true /\ aU D v=k := by
  have hm := eI.1 (SE h);refine⟨hm.1,hm.2,?_⟩;have h2 := kQ hm.1 hm.2;have hnd:(dO D n).Nodup := Vh.filter _;have a := get_lt h;have b := get_lt h2;rw[SJ a]at h;rw[SJ b]at h2;have e:(dO D n)[aU D v]=(dO D n)[k] := by rw[Option.some.inj h,Option.some.inj h2]
  exact(List.getElem_inj hnd).1 e
theorem fY {D n:Nat}:(dO D n).length <= n := by
  have := V3 (fun v => D.testBit v) (List.range n);unfold dO;simpa using this
def bI (g card x:Int):List Int := (List.replicate card.toNat 0).set x.toNat g
def bB (ns:List NodeP)(x:NodeP):Nat := (ao (aP ns x)).toNat
def di (g:Int)(ns:List NodeP)(c:Nat -> Nat -> Int)(p:Nat)(x:NodeP):List (List Int) := (List.range (bB ns x)).map fun r => bI g x.card (c p r)
def fa (d:InfP)(c:Nat -> Nat -> Int)(k v:Nat)(x:NodeP):NodeP := if d.decs.testBit v=true /\ aU d.decs v < k then { x with rows := x.rows ++ di d.grain d.nodes c (aU d.decs v) x } else x
def dP (d:InfP)(c:Nat -> Nat -> Int)(k:Nat):List NodeP := d.nodes.zipIdx.map fun p => fa d c k p.2 p.1
def bG (d:InfP)(c:Nat -> Nat -> Int):List NodeP := dP d c (az d).length
theorem kS (d:InfP)(c:Nat -> Nat -> Int)(k:Nat):(dP d c k).length=d.nodes.length := by simp[dP]
theorem nP {d:InfP}{c:Nat -> Nat -> Int}{k v:Nat}{x:NodeP}(h:d.nodes[v]? = some x):(dP d c k)[v]? = some (fa d c k v x) := by
  unfold dP;rw[List.getElem?_map,Uz,h];simp
theorem OD (d:InfP)(c:Nat -> Nat -> Int):dP d c 0=d.nodes := by
  apply Ti;intro v;cases h:d.nodes[v]? with
  |none => rw[SQ];rw[kS];exact Ud.1 h
  |some x => rw[nP h];simp[fa]
theorem OE {d:InfP}{c:Nat -> Nat -> Int}{k v:Nat}{x:NodeP}(hd:(az d)[k]? = some v)(hx:d.nodes[v]? = some x):dP d c (k + 1)=(dP d c k).set v { x with rows := x.rows ++ di d.grain d.nodes c k x } := by
  obtain⟨h1,h2,h3⟩ := eE hd;apply Ti;intro u;rw[TM];split
  · rename_i h;subst h;rw[nP hx,SK (by rw[kS];exact h1)];unfold fa;rw[SK ⟨h2,by omega⟩,h3]
  · rename_i h;cases hu:d.nodes[u]? with
    |none => rw[SQ (by rw[kS];exact Ud.1 hu),SQ (by rw[kS];exact Ud.1 hu)]
    |some y =>
      rw[nP hu,nP hu];unfold fa;by_cases hb:d.decs.testBit u=true
      · have : aU d.decs u ≠ k := fun e => by
          have h4 := kQ (get_lt hu) hb;rw[e]at h4;have h5:(dO d.decs d.nodes.length)[k]? = some v := hd;rw[h4]at h5;exact h (Option.some.inj h5).symm
        have e:(aU d.decs u < k + 1)=(aU d.decs u < k) :=(by apply propext;omega);simp only[e]
      · simp[hb]
theorem OF {d:InfP}{c:Nat -> Nat -> Int}{k:Nat}:ak (dP d c k)=ak d.nodes := by
  apply Ti;intro v;unfold ak;rw[List.getElem?_map,List.getElem?_map];cases h:d.nodes[v]? with
  |none => rw[SQ (by rw[kS];exact Ud.1 h)]
  |some x =>
    rw[nP h];simp only[Option.map_some,fa];split <;> rfl
theorem gD (d:InfP)(c:Nat -> Nat -> Int)(k v:Nat)(x:NodeP):(fa d c k v x).card=x.card /\ (fa d c k v x).parents=x.parents := by unfold fa;split <;> exact⟨rfl,rfl⟩
def bK (d:InfP):List AVal:=[.lit (.int .i64 d.grain),.vec d.nodes.length (aF d.nodes),.lit (.int .u64 (d.decs:Int)),.vec d.utils.length (aO d.utils)]
theorem gI (d:InfP):cW d=.agg (bK d):=rfl
def eh (d:InfP):Blk:=.arr 0 38 (bK d)
def kX (d:InfP):List (List AVal):=(az d).zipIdx.map fun p=>[aa p.2,aa p.1]
theorem lW {d:InfP}{k:Nat}{x:List AVal}(h:(kX d)[k]?=some x):∃v,(az d)[k]?=some v/\x=[aa k,aa v]:=by
 unfold kX at h;rw[List.getElem?_map,Uz]at h;cases hr:(az d)[k]? with
 |none=>rw[hr]at h;simp at h
 |some r=>rw[hr]at h;simp at h;exact⟨r,rfl,h.symm⟩
theorem Dj {d:InfP}{k v:Nat}(h:(az d)[k]?=some v):(kX d)[k]?=some [aa k,aa v]:=by
 unfold kX;rw[List.getElem?_map,Uz,h];simp
theorem kY (d:InfP):(kX d).length=(az d).length:=by simp[kX]
theorem mK {d:InfP}:∀x∈kX d,x.length=2:=fun x hx=>by
 obtain⟨k,hk⟩:=SW.1 hx;obtain⟨v,_,rfl⟩:=lW hk;rfl
theorem vm (d:InfP)(hl:(d.nodes.length:Int)<2 ^ 40)(hD:d.decs<2 ^ 64)(b:Nat):vT prog G0 104 [] [.ptr b 0 0] (kX d) (fun H=>H.get b=some (eh d)):=by
 intro idy J Stop H K hS hJ0 hY hK hSt;have l0:=ah (hS 0 H hJ0);show ag _ _ _ ([.yld idy]++[.ptr b 0 0]) _ _;refine ag.st (n:=25) (rs:=[]) func104 ?_;simp only[go_sem,l0,bK];refine W.aG 33554200 (by rfl) (fun ρ H'=>∃v:Nat,ρ 8=aa v/\v<=d.nodes.length/\ρ 3=aa (aU d.decs v)/\J (aU d.decs v) H'/\H.next<=H'.next) (fun ρ H=>d.nodes.length-(iv (ρ 8)).toNat) ?_ ?_
 ·simp only[go_sem];exact⟨0,rfl,by omega,rfl,hJ0⟩
 rintro ρ H' ⟨v,h8,hv,h3,hj,hn⟩;refine W.vs ?_;by_cases hb:(v:Int)<d.nodes.length
 ·have l1:=ah (hS _ _ hj);have s1:=fun t x y=>mb (P:=prog) (t:=t) (x:=x) (y:=y) (k':=.i64) (s:=v) hD;have s2:=fun t x y=>oB (P:=prog) (t:=t) (x:=x) (y:=y) (s:=v) hD;have w1:=SF ((v:Int)+1) (by omega);have hp:aU d.decs v<=v:=by
   have:(dO d.decs v).length<=v:=fY;exact this
  have w2:=SF ((aU d.decs v:Int)+1) (by omega);cases hbit:d.decs.testBit v
  ·simp only[go_sem,h8,h3,hb,l1,bK,s1,s2,hbit,w1];exact⟨hn,⟨v+1,by simp,by omega,by rw[kR,hbit];rfl,by rw[kR,hbit];exact hj,hn⟩,by omega⟩
  ·have hdx:(kX d)[aU d.decs v]?=some [aa (aU d.decs v),aa v]:=Dj (kQ (by omega) hbit);simp only[go_sem,h8,h3,hb,l1,bK,s1,s2,hbit];refine hY _ _ H' _ hdx hj hn (fun H2 hj2 hn2=>⟨trivial,?_⟩) (fun H2 hs2 hn2=>⟨trivial,?_⟩)
   ·simp only[go_sem,h8,h3,w1,w2];exact⟨by omega,⟨v+1,by simp,by omega,by rw[kR,hbit];simp,by rw[kR,hbit];exact hj2,by omega⟩,by omega⟩
   ·simp only[go_sem];exact ar.mk (by omega) (hSt H2 hs2 (by omega))
 ·simp only[go_sem,h8,hb];have ek:v=d.nodes.length:=by omega
  subst ek;exact ar.mk (by omega) (hK H' (by rw[kY];exact hj) hn)
theorem vo (d:InfP)(H:AHeap)(K:ARes->AHeap->Prop)(hK:K (.ret (.clo 104 [] [.ptr H.next 0 0])) (ext H [eh d])):
  ag prog G0 60 [cW d] H K:=by
 refine ag.st (n:=4) (rs:=[.tmp 2]) func60 ?_;simp only[go_sem,gI,bK];exact ar.mk (by simp[aS]) hK
theorem Qh {g card x:Int}(hc:0<=card)(h:0<=x/\x<card):setAt (ints (List.replicate card.toNat 0)) x.toNat [.lit (.int .i64 g)]=ints (bI g card x):=by
 rw[fD (by simp;omega)];rfl
theorem Qi (g card x:Int)(hc:card<=2 ^ 40)(h:0<=x/\x<card)(H:AHeap)(K:ARes->AHeap->Prop)(hK:K (.ret (af (bI g card x))) H):ag prog G0 134 [aa g,aa card,aa x] H K:=by
 refine ag.clo ⟨_,func134,rfl,rfl⟩ fun hcl=>?_;obtain⟨n,rfl⟩:=SR (show 0<=card by omega);obtain⟨k,rfl⟩:=SR h.1;have h0:((n:Int)) >= 0:=by omega
 have hk:(k:Int)<n:=h.2;have hk2:k+1<=n:=by omega
 refine ag.st (n:=15) (rs:=[.tmp 6]) func134 ?_;simp only[go_sem,hk]
 repeat (refine And.intro (by first|omega|(simp;done)|(simp;omega)|(intros;omega)|exact⟨rfl,by omega,by omega,gQ _⟩) ?_)
 have e:=Qh (g:=g) (card:=n) (x:=k) (by omega) h;simp only[Int.toNat_natCast]at e;rw[show (List.replicate n (AVal.lit (Value.int IntKind.i64 0)))=ints (List.replicate n 0) by simp[ints,aa],e];refine ar.aV aE hcl (.ext _ _) ?_ hK;exact .ints (Nat.le_refl _) (cq ..) (by simp[bI]) fun i hi=>by simp[ij,hi]
theorem Qj (a b:AVal)(H:AHeap)(K:ARes->AHeap->Prop)(hK:K (.ret (aa 0)) H):ag prog G0 102 [a,b] H K:=by
 refine ag.st (n:=5) (rs:=[.tmp 4]) func102 ?_;simp only[go_sem];exact ar.mk (Nat.le_refl _) hK
noncomputable def kZ (p:Prop):Bool:=@decide p (Classical.propDecidable p)
theorem dU {p:Prop}(h:p):kZ p=true:=@decide_eq_true _ (Classical.propDecidable _) h
theorem eV {p:Prop}(h:¬p):kZ p=false:=@decide_eq_false _ (Classical.propDecidable _) h
structure RightN (d:InfP):Prop where
 n1:1<=d.nodes.length/\d.nodes.length<=8
 decs:d.decs >>> d.nodes.length=0
 card:∀x∈d.nodes,1<=x.card/\x.card<=4
 dec:∀v x,d.nodes[v]?=some x->d.decs.testBit v=true->x.rows=[]/\bO x.parents d.nodes.length
structure InfFit (d:InfP):Prop where
 nodes:qI d.nodes
 decs:d.decs<2 ^ 64
 utils:(d.utils.length:Int)<2 ^ 38/\∀u∈d.utils,(u.vars.length:Int)<2 ^ 38/\(u.w.length:Int)<2 ^ 38
theorem Qk (d:InfP)(hf:InfFit d)(H:AHeap)(K:ARes->AHeap->Prop)(hK:K (.ret (.lit (.bool (kZ (RightN d))))) H):ag prog G0 99 [cW d] H K:=by
 refine ag.clo ⟨_,func99,rfl,rfl⟩ fun hcl=>?_;have hl:=hf.nodes.1;have no:¬RightN d->∀H',Over H H'->ar prog G0 H K (.lit (.bool false)) H':=fun h H' ov=>ar.aV aE hcl ov (.lit _) (by rw[eV h]at hK;exact hK);refine ag.st (n:=67) (rs:=[.cell 2 4]) func99 ?_;simp only[go_sem,gI,bK];obtain⟨H1,hH1⟩:∃H1,H1=ext H [.arr 0 38 (bK d),.arr 0 4 [.lit (.bool false)]]:=⟨_,rfl⟩
 have g1:=df hH1
 have g2:=gE hH1 1 rfl
 have l1:=ah g1;have l2:=ah g2;have n1:H1.next=H.next+2:=hH1▸rfl
 have o1:Over H H1:=hH1▸.ext _ _
 unfold bK at hH1 l1;rw[<- hH1];have s1:=fun t x y=>mb (P:=prog) (t:=t) (x:=x) (y:=y) (k':=.i64) (s:=d.nodes.length) hf.decs;by_cases c1:(d.nodes.length:Int)<1
 ·simp only[go_sem,l2,c1];exact no (fun h=>by have:=h.n1;omega) _ (o1.upd (by omega) _)
 by_cases c2:(d.nodes.length:Int) > 8
 ·simp only[go_sem,l1,l2,c1,c2];exact no (fun h=>by have:=h.n1;omega) _ (o1.upd (by omega) _)
 by_cases c3:d.decs >>> d.nodes.length=0;rotate_left
 ·have c3':¬((d.decs >>> d.nodes.length:Nat):Int)=0:=by omega
  simp only[go_sem,l1,l2,c1,c2,c3',s1];exact no (fun h=>c3 h.decs) _ (o1.upd (by omega) _)
 have c3':((d.decs >>> d.nodes.length:Nat):Int)=0:=by omega
 simp only[go_sem,l1,c1,c2,c3',s1];refine W.aG 4397509640208 (by rfl) (fun ρ H'=>∃k:Nat,ρ 29=aa k/\k<=d.nodes.length/\Over H1 H'/\∀x∈d.nodes.take k,1<=x.card/\x.card<=4) (fun ρ H=>d.nodes.length-(iv (ρ 29)).toNat) ?_ ?_
 ·simp only[go_sem];exact⟨0,rfl,by omega,.refl _,by simp⟩
 rintro ρ H' ⟨k,h29,hk,ov,hall⟩;refine W.vs ?_;have ovn:=ov.next;have m1:=(ov.live (g:=0) (by omega:H.next<H1.next)).trans l1;have m2:=(ov.live (g:=0) (by omega:H.next+1<H1.next)).trans l2;by_cases hb:(k:Int)<d.nodes.length
 ·obtain⟨x,hx⟩:=get_of_lt (l:=d.nodes) (i:=k) (by omega);have hxm:=SE hx;have hne:=dJ hx;have e0:=my hx;have e1:k*3+3<=(aF d.nodes).length:=by rw[iI];omega
  have nb:¬H.next+1=H'.next:=by omega
  have m3:∀L,(ext H' L).live (H.next+1) 0=_:=fun L=>(dh (by omega)).trans m2;by_cases d1:x.card<1
  ·simp only[go_sem,h29,m3,hb,hne,e0,e1,d1];exact no (fun h=>by have:=h.card x hxm;omega) _ (((o1.trans ov).trans (.ext _ _)).upd (by omega) _)
  by_cases d2:x.card > 4
  ·simp only[go_sem,h29,m3,hb,hne,e0,e1,d1,d2];exact no (fun h=>by have:=h.card x hxm;omega) _ (((o1.trans ov).trans (.ext _ _)).upd (by omega) _)
  have w1:=SF ((k:Int)+1) (by omega);simp only[go_sem,h29,hb,hne,e0,e1,d1,d2,w1];exact⟨by omega,⟨k+1,by simp,by omega,ov.trans (.ext _ _),fun y hy=>by
   rw[aL hx]at hy;rcases S5.1 hy with hy|hy
   ·exact hall y hy
   ·obtain rfl:=List.mem_singleton.1 hy;exact⟨by omega,by omega⟩⟩,by omega⟩
 rw[SH (by omega)]at hall;simp only[go_sem,h29,hb,m1];refine aw.clo (vo d _ _ ⟨trivial,?_⟩);simp only[go_sem];obtain⟨H2,hH2⟩:∃H2,H2=ext H' [eh d]:=⟨_,rfl⟩
 rw[<- hH2];have o2:Over H' H2:=by rw[hH2];exact .ext _ _
 have n2:H2.next=H'.next+1:=by rw[hH2];rfl
 have hbx:H2.get H'.next=some (eh d):=by rw[hH2];exact bX
 refine W.env fun E hE=>?_;have e1:E 1=.ptr H.next 0 0:=by rw[hE];simp only[go_sem]
 have e2:E 2=.ptr (H.next+1) 0 0:=by rw[hE];simp only[go_sem]
 have i1:=(o2.live (g:=0) (by omega:H.next<H'.next)).trans m1;have i2:=(o2.old _ (by omega:H.next+1<H'.next)).trans ((ov.old _ (by omega)).trans g2);have o02:=(o1.trans ov).trans o2;refine W.mc (f:=104) (first:=[]) (cap:=[.ptr H'.next 0 0]) (by show E 43=_;rw[hE];rfl) (vm d (by omega) hf.decs H'.next)
  (fun k Hx=>Over H2 Hx/\∀v x,v∈(az d).take k->d.nodes[v]?=some x->x.rows=[]/\bO x.parents d.nodes.length) (fun c Hx=>c=.ret/\Over H Hx/\H2.next<=Hx.next/\Hx.get (H.next+1)=some (.arr 0 4 [.lit (.bool false)])/\¬RightN d)
  (fun k Hx h=>by rw[h.1.old _ (by omega)];exact hbx) (fun k Hx b h=>⟨h.1.upd (Nat.le_refl _) b,h.2⟩) (fun c Hx b h=>⟨h.1,h.2.1.upd (by omega) b,h.2.2.1,by rw[ae,SI (by omega)];exact h.2.2.2.1,h.2.2.2.2⟩)
  (fun b=>⟨.ext _ _,by simp⟩) (by decide) mK (fun _ _ _=>trivial) (fun _ _ _=>trivial) (fun k y Hx B Bb hy hj hn hB hBb=>?_) (fun Hx hj hn=>?_) (fun Hx hs hn=>?_) (fun i Hx hs hn=>by cases hs.1)
 ·obtain⟨v,hv,rfl⟩:=lW hy;obtain⟨v1,v2,v3⟩:=eE hv;obtain⟨x,hx⟩:=get_of_lt (l:=d.nodes) (i:=v) v1;refine W.vs ?_;simp only[go_sem,fV,bA,ir,Ts,TS,Tx,Tz,hB];obtain⟨H3,hH3⟩:∃H3,H3=Hx.upd H2.next Bb:=⟨_,rfl⟩
  rw[<- hH3];obtain⟨st,pd,n',en,ps',as',bo,hBe⟩:=hBb;have o3:Over H2 H3:=by rw[hH3];exact hj.1.upd (Nat.le_refl _) Bb
  have o4:Over H H3:=o02.trans o3;have n3:H3.next=Hx.next:=by rw[hH3];rfl
  have j1:=(o3.live (g:=0) (by omega:H.next<H2.next)).trans i1;have j2:=ah ((o3.old _ (by omega:H.next+1<H2.next)).trans i2);have jB:H3.get H2.next=some Bb:=by rw[hH3,ae,SK rfl]
  have hxm:=SE hx;obtain⟨f1,f2,f3⟩:=hf.nodes.2 x hxm;have hne:=dJ hx;have e1':=jY hx;have e2':=qf hx;have hvn:(v:Int)<d.nodes.length:=by omega
  have stop:¬RightN d->(H3.upd (H.next+1) (Blk.arr 0 4 [.lit (.bool false)])).get H2.next=some Bb/\Hx.next<=(H3.upd (H.next+1) (Blk.arr 0 4 [.lit (.bool false)])).next/\Over H (H3.upd (H.next+1) (Blk.arr 0 4 [.lit (.bool false)])) /\
    H2.next<=(H3.upd (H.next+1) (Blk.arr 0 4 [.lit (.bool false)])).next/\(H3.upd (H.next+1) (Blk.arr 0 4 [.lit (.bool false)])).get (H.next+1)=some (.arr 0 4 [.lit (.bool false)])/\¬RightN d:=fun h =>
   ⟨by rw[ae,SI (by omega)];exact jB,by rw[au];omega,o4.upd (by omega) _,by rw[au];omega,by rw[ae,SK rfl],h⟩
  refine W.vs ?_;simp only[go_sem];refine W.dr 18 [0,1,0,7,15,31,63,127,255,511,1023,511,4095,8191,16383,511,33279,98815] mixed ?_;by_cases c4:(x.rows.length:Int) > 0
  ·simp only[go_sem,bA,e1,e2,j1,j2,hvn,hne,e2',c4,aj,ep];exact stop fun h=>by have:=(h.dec v x hx v2).1;rw[this]at c4;simp at c4
  simp only[go_sem,bA,e1,j1,hvn,hne,e1',e2',c4,aj];refine aw.clo (Dy x.parents d.nodes.length (by omega) _ _ ⟨⟨_,_,_,_,_,_,_,by rw[jB,hBe]⟩,?_⟩);by_cases c5:bO x.parents d.nodes.length;rotate_left
  ·simp only[go_sem,bA,e2,j2,c5,ep];exact stop fun h=>c5 (h.dec v x hx v2).2
  simp only[go_sem,bA,c5,ep];refine⟨jB,by omega,o3,fun u y hu hy2=>?_⟩;rw[aL hv]at hu;rcases S5.1 hu with hu|hu
  ·exact hj.2 u y hu hy2
  ·obtain rfl:=List.mem_singleton.1 hu;rw[hx]at hy2;cases hy2;exact⟨SP (by omega),c5⟩
 ·have hok:RightN d:=⟨by omega,c3,hall,fun v x hx hb=>hj.2 v x (by
   rw[kY,TC];exact eI.2 ⟨get_lt hx,hb⟩) hx⟩
  rw[dU hok]at hK;have j2:=ah ((hj.1.old _ (by omega:H.next+1<H2.next)).trans i2);simp only[go_sem,e2,j2];exact ar.aV aE hcl ((o02.trans hj.1).upd (by omega) _) (.lit _) hK
 ·obtain⟨_,o4,n4,g4,hno⟩:=hs;have j2:=ah g4;simp only[go_sem,e2,j2];exact no hno _ o4
end Go.Proofs
namespace Go.Hx
variable {P:Program} {G:Nat->Option (List AVal)}
def AHeap.fF (H:AHeap)(rk ob:Nat)(b:Blk):AHeap:=⟨fun id=>if id=rk then none else if id=ob then some b else H.get id,H.next⟩
theorem RI {H:AHeap}(hc:Clo H){rk ob g:Nat}{e:TypeId}{cells cells':List AVal}(hob:H.get ob=some (.arr g e cells))(hne:ob≠rk)(hl:cells'.length=cells.length)
  (hcell:∀i (h:i<cells.length) (h':i<cells'.length),Fz (fun id=>id=rk) H H.next cells[i] cells'[i]):FzH (fun id=>id=rk) H (H.fF rk ob (.arr g e cells')) where
 gone id hs:=by simp[AHeap.fF,hs]
 kept id b hs hb:=by
  have hbb:=hc.below id b hb;refine⟨hc.lt id b hb,?_⟩;by_cases h:id=ob
  ·subst h;rw[hob]at hb;cases hb;exact⟨.arr g e cells',by simp[AHeap.fF,hs],rfl,rfl,hl,hcell⟩
  ·refine⟨b,by simp[AHeap.fF,hs,h,hb],?_⟩;cases b with
   |rsv=>trivial
   |mp=>rfl
   |arr g e cells=>exact⟨rfl,rfl,rfl,fun i h _=>.dead (hbb i h)⟩
   |loop st pend n env ps asg body=>exact⟨rfl,rfl,rfl,rfl,rfl,rfl,rfl,fun t ht=>.dead (hbb t ht)⟩
 none id hs hb:=by
  by_cases h:id=ob
  ·subst h;rw[hob]at hb;cases hb
  ·simp[AHeap.fF,hs,h,hb]
theorem cJ.fF (hG:fm G){s:St}{rk ob g:Nat}{e:TypeId}{cells cells':List AVal}(hob:s.H.get ob=some (.arr g e cells))(hne:ob≠rk)(hl:cells'.length=cells.length)
  (hcell:∀i (h:i<cells.length) (h':i<cells'.length),Fz (fun id=>id=rk) s.H s.H.next cells[i] cells'[i]):cJ P G s ⟨s.ρ,s.H.fF rk ob (.arr g e cells')⟩:=by
 intro n wb Γ a w hs;exact cJ.freeze (s:=s) (s':=⟨s.ρ,s.H.fF rk ob (.arr g e cells')⟩) hG (RI hs.heap.clo hob hne hl hcell) (fun t=>.dead (hs.env t).nt) n wb Γ a w hs
theorem RJ {S:Nat->Prop}{H:AHeap}{nx:Nat}{A B:List AVal}{o o':AVal}(hA:∀v,v∈A->Fz S H nx v v)(ho:Fz S H nx o o')(hB:∀v,v∈B->Fz S H nx v v):
  ∀i (h:i<(A++o :: B).length) (h':i<(A++o' :: B).length),Fz S H nx (A++o :: B)[i] (A++o' :: B)[i]:=by
 induction A with
 |nil =>
  intro i h h';cases i with
  |zero=>exact ho
  |succ i=>exact hB _ (Tk (l:=B) (by simpa using h))
 |cons a A ih =>
  intro i h h';cases i with
  |zero=>exact hA a (by simp)
  |succ i=>exact ih (fun v hv=>hA v (by simp[hv])) i (by simpa using h) (by simpa using h')
theorem D7 {A B:List AVal}{o o':AVal}{i:Nat}(h:A.length=i):setAt (A++o :: B) i [o']=A++o' :: B:=by
 subst h;simp[setAt]
theorem vU {H:AHeap}{rk ob:Nat}{b:Blk}(h:ob≠rk):(H.fF rk ob b).get ob=some b:=by simp[AHeap.fF,h]
theorem md {H:AHeap}{rk ob id:Nat}{b:Blk}(h:id≠rk)(h2:id≠ob):(H.fF rk ob b).get id=H.get id:=by simp[AHeap.fF,h,h2]
theorem zk {S:Nat->Prop}{H:AHeap}{nx:Nat}{l:List AVal}{i:Nat}{a b:AVal}(hl:∀v,v∈l->Fz S H nx v v)(hab:Fz S H nx a b):∀j (h:j<(l.set i a).length) (h':j<(l.set i b).length),Fz S H nx (l.set i a)[j] (l.set i b)[j]:=by
 intro j h h';rw[Ur,Ur];split
 ·exact hab
 ·exact hl _ (Tk _)
theorem W.me {n:Nat}{rd:Option Nat}{Q Q':AX->St->Prop}{c:Code}{s:St}(h:W P G n rd c Q' s)(hw:∀e s2,Q' e s2->∃s3,cJ P G s2 s3/\s2.H.next<=s3.H.next/\fT s3.H rd/\Q e s3):W P G n rd c Q s:=by
 intro wb Γ a w rb hs hr;refine wpIn_mono (h wb Γ a w rb hs hr) fun e a' w' hp=>?_;obtain⟨x,s',Γ',hx,hq,hrel,E,hn,hrd,hfr⟩:=hp;obtain⟨s3,hw3,hn3,hri,hq3⟩:=hw x s' hq;obtain⟨Γ3,hs3,E3,hrd3⟩:=hw3 n wb Γ' a' w' hrel;exact⟨x,s3,Γ3,hx,hq3,hs3,E.trans hn E3,Tt hn hn3,hrd3 rd rb hrd hri,hfr⟩
theorem ay.ne {lo:Nat}{H:AHeap}{e:TypeId}{v:AVal}{cs:List AVal}(h:ay lo H e v cs){k:Nat}(hk:k<lo):∀g n,v≠.own k g 0 n 1:=fun g n he=>by
 rcases h with ⟨h,_⟩|⟨i2,g2,a1,_,h,_⟩
 ·rw[h]at he;cases he
 ·rw[h]at he;have:=AVal.own.inj he;omega
def cG (lo:Nat)(H:AHeap)(e:TypeId)(z:Nat)(v:AVal)(n:Nat)(cs:List AVal):Prop :=
 (v=.lit (.slice none 0 0)/\n=0/\cs=[])\/∃id g,lo<=id/\id<H.next/\v=.own id g 0 n z/\cs.length=n*z/\H.get id=some (.arr g e cs)
theorem cG.nil {lo:Nat}{H:AHeap}{e:TypeId}{z:Nat}:cG lo H e z (.lit (.slice none 0 0)) 0 []:=.inl ⟨rfl,rfl,rfl⟩
theorem cG.keep {lo:Nat}{H H':AHeap}{e:TypeId}{z n:Nat}{v:AVal}{cs:List AVal}(h:cG lo H e z v n cs)(hn:H.next<=H'.next)(hk:∀id g,lo<=id->id<H.next->v=.own id g 0 n z->H'.get id=H.get id):cG lo H' e z v n cs:=by
 rcases h with h|⟨id,g,h1,h2,h3,h4,h5⟩
 ·exact .inl h
 ·exact .inr ⟨id,g,h1,by omega,h3,h4,(hk id g h1 h2 h3).trans h5⟩
theorem cG.over {lo:Nat}{H H':AHeap}{e:TypeId}{z n:Nat}{v:AVal}{cs:List AVal}(h:cG lo H e z v n cs)(ho:Over H H'):cG lo H' e z v n cs:=h.keep ho.next fun id _ _ h2 _=>ho.old id h2
theorem cG.one {lo:Nat}{H:AHeap}{e:TypeId}{z n:Nat}{v:AVal}{cs:List AVal}(h:cG lo H e z v n cs):v.one=true:=by
 rcases h with ⟨rfl,_⟩|⟨_,_,_,_,rfl,_⟩<;>rfl
theorem cG.cells {lo:Nat}{H:AHeap}{e:TypeId}{z n:Nat}{v:AVal}{cs:List AVal}(h:cG lo H e z v n cs):v.cells=[v]:=by
 rcases h with ⟨rfl,_⟩|⟨_,_,_,_,rfl,_⟩<;>rfl
theorem cG.ne {lo:Nat}{H:AHeap}{e:TypeId}{z m:Nat}{v:AVal}{cs:List AVal}(h:cG lo H e z v m cs){k:Nat}(hk:k<lo):∀g n,v≠.own k g 0 n z:=fun g n he=>by
 rcases h with ⟨h,_⟩|⟨i2,g2,a1,_,h,_⟩
 ·rw[h]at he;cases he
 ·rw[h]at he;have:=AVal.own.inj he;omega
theorem mR {H:AHeap}{t e:TypeId}{lo n z m:Nat}{v:AVal}{cs xs:List AVal}{zs:List AVal}(ht:P.underlying t=some (.slice e))(hz:P.cellsOf e=z)(hzero:bR P e=some zs)(hx:xs.all AVal.one=true)(hxl:xs.length=z)
  (hb:(n+1)*P.bytesOf e<=2 ^ 46/\n+1<=2 ^ 46) (ho:cG lo H e z v n cs) (hlo:lo<=H.next) (hn:m=H.next+1):
  ∃v' H',bM P (ext H [.arr 0 e xs]) m t t v (.own H.next 0 0 1 z)=some (v',H')/\cG lo H' e z v' (n+1) (cs++xs)/\H.next<=H'.next/\(∀k,k<H.next->(∀g n,v≠.own k g 0 n z)->H'.get k=H.get k):=by
 have hne:(ext H [.arr 0 e xs]).next=H.next+1:=rfl;have hsrc:cV (ext H [.arr 0 e xs]) z (.own H.next 0 0 1 z)=some (1,xs):=by
  unfold cV;have:=ah (H:=ext H [.arr 0 e xs]) (g:=0) (bX (b:=.arr 0 e xs));simp[this,<- hxl]
 rcases ho with ⟨rfl,rfl,rfl⟩|⟨i,g,h1,h2,rfl,h4,h5⟩
 ·refine⟨.own m 0 0 1 z,ext (ext H [.arr 0 e xs]) [.arr 0 e xs],?_,.inr ⟨m,0,by omega,by rw[aS,hne,hn];simp,by simp,by simp[hxl],?_⟩,by rw[aS,hne];omega,fun k hk _=>?_⟩
  ·unfold bM;rw[ht];simp only[hzero,hz,Option.bind_some];rw[hsrc];simp only[Option.bind_some];rw[SI (by decide),SK (by simpa using hb),rR (by rw[hn,hne])];rfl
  ·rw[hn,<- hne];exact bX
  ·rw[bb (by rw[hne];omega),bb hk]
 ·have h5':(ext H [.arr 0 e xs]).get i=some (.arr g e cs):=by rw[bb h2];exact h5
  refine⟨.own i (g+1) 0 (n+1) z,(ext H [.arr 0 e xs]).upd i (.arr (g+1) e (cs++xs)),?_,.inr ⟨i,g+1,h1,by rw[au,hne];omega,rfl,by simp[h4,hxl,T2],by rw[ae,SK rfl]⟩,by rw[au,hne];omega,fun k hk hne2=>?_⟩
  ·unfold bM;rw[ht];have hl:=ah h5';simp only[hzero,hz,Option.bind_some];rw[hsrc];simp only[Option.bind_some,hl];rw[SK ⟨trivial,trivial,by omega,hb.1,hb.2,hx⟩];simp
  ·rw[ae,SI,bb hk];rintro rfl;exact hne2 _ _ rfl
end Go.Hx
namespace Go.Proofs
open Go.Hx Tryz
def bq (x:NodeP):AVal:=if x.rows=[] then .lit (.slice none 0 0) else aj x.rows
def NodeP.gk (x:NodeP):List AVal:=[aa x.card,af x.parents,bq x]
def aY (l:List NodeP):List AVal:=(l.map NodeP.gk).flatten
theorem iM (l:List NodeP):(aY l).length=l.length*3:=kJ (f:=NodeP.gk) (fun _=>rfl) l
theorem mz {l:List NodeP}{i:Nat}{x:NodeP}(h:l[i]?=some x):(aY l)[i*3]?=some (aa x.card):=je (f:=NodeP.gk) (z:=3) (fun _=>rfl) l i 0 x h (by omega)
theorem nQ {l:List NodeP}{i:Nat}{x:NodeP}(h:l[i]?=some x):(aY l)[i*3+1]?=some (af x.parents):=je (f:=NodeP.gk) (z:=3) (fun _=>rfl) l i 1 x h (by omega)
theorem qj {l:List NodeP}{i:Nat}{x:NodeP}(h:l[i]?=some x):(aY l)[i*3+2]?=some (bq x):=je (f:=NodeP.gk) (z:=3) (fun _=>rfl) l i 2 x h (by omega)
theorem x9 (l:List NodeP)(x:NodeP):aY (l++[x])=aY l++[aa x.card,af x.parents,bq x]:=by unfold aY;simp[NodeP.gk]
theorem OG {l:List NodeP}{i:Nat}{x:NodeP}(h:l[i]?=some x):¬aY l=[]:=fun e=>by
 have:=mz h;rw[e]at this;simp at this
theorem OH (l:List (List Int)):aj l=.vec l.length (l.map af):=rfl
theorem Cb {x:NodeP}(h:x.rows=[]):bq x=.lit (.slice none 0 0):=SK h
theorem sB {x:NodeP}(h:x.rows≠[]):bq x=aj x.rows:=SI h
theorem Cc {l:List NodeP}{i:Nat}{x y:NodeP}(h:l[i]?=some x)(hy:y.card=x.card/\y.parents=x.parents):aY (l.set i y)=setAt (aY l) (i*3+2) [bq y]:=by
 have hi:=get_lt h;have hl:=iM l;rw[eM (by omega)];apply Ti;intro p;rw[TM];have hp:p=(p / 3)*3+p % 3:=by omega
 by_cases hb:p / 3<l.length
 ·by_cases hpi:p / 3=i
  ·have e0:(l.set i y)[p / 3]?=some y:=(by rw[hpi,SX hi]);have c3:p % 3=0\/p % 3=1\/p % 3=2:=(by omega);rcases c3 with c|c|c
   ·rw[SI (by omega),hp,c,Nat.add_zero,mz e0,mz (by rw[hpi];exact h),hy.1]
   ·rw[SI (by omega),hp,c,nQ e0,nQ (by rw[hpi];exact h),hy.2]
   ·rw[SK (by omega),SK (by omega),hp,c,qj e0]
  ·obtain⟨z,hz⟩:=get_of_lt hb;have e0:(l.set i y)[p / 3]?=some z:=(by rw[S3 (by omega)];exact hz);have c3:p % 3=0\/p % 3=1\/p % 3=2:=(by omega);rcases c3 with c|c|c
   ·rw[SI (by omega),hp,c,Nat.add_zero,mz e0,mz hz]
   ·rw[SI (by omega),hp,c,nQ e0,nQ hz]
   ·rw[SI (by omega),hp,c,qj e0,qj hz]
 ·rw[SQ (by rw[iM,SO];omega),SI (by omega),SQ (by omega)]
theorem Cd {S:Nat->Prop}{H:AHeap}{nx:Nat}(x:NodeP):Fz S H nx (bq x) (aj x.rows):=by
 unfold bq;split
 ·rename_i h;rw[h];exact .nil
 ·exact .aj _
theorem Ce {S:Nat->Prop}{H:AHeap}{nx:Nat}(x:NodeP):Fz S H nx (bq x) (bq x):=by
 unfold bq;split
 ·exact .lit _
 ·exact .aj _
theorem Cf {S:Nat->Prop}{H:AHeap}{nx:Nat}:∀(l:List NodeP) (i:Nat) (h:i<(aY l).length) (h':i<(aF l).length),Fz S H nx (aY l)[i] (aF l)[i]:=by
 intro l i h h';have hb:i / 3<l.length:=by rw[iM]at h;omega
 obtain⟨x,hx⟩:=get_of_lt hb;have hp:i=(i / 3)*3+i % 3:=by omega
 have g1:(aY l)[i]?=some (aY l)[i]:=SJ h;have g2:(aF l)[i]?=some (aF l)[i]:=SJ h';generalize (aY l)[i]=a at g1 ⊢;generalize (aF l)[i]=b at g2 ⊢;have c3:i % 3=0\/i % 3=1\/i % 3=2:=by omega
 rcases c3 with c|c|c
 ·rw[hp,c,Nat.add_zero,mz hx]at g1;rw[hp,c,Nat.add_zero,iJ hx]at g2;cases g1;cases g2;exact .lit _
 ·rw[hp,c,nQ hx]at g1;rw[hp,c,jY hx]at g2;cases g1;cases g2;exact .cI _
 ·rw[hp,c,qj hx]at g1;rw[hp,c,qf hx]at g2;cases g1;cases g2;exact Cd x
theorem uJ {S:Nat->Prop}{H:AHeap}{nx:Nat}(l:List NodeP):∀c∈aY l,Fz S H nx c c:=by
 intro c hc;unfold aY at hc;obtain⟨r,hr,hc⟩:=Uh.1 hc;obtain⟨x,_,rfl⟩:=SY.1 hr;unfold NodeP.gk at hc;simp only[List.mem_cons,List.not_mem_nil,or_false]at hc;rcases hc with rfl|rfl|rfl
 ·exact .lit _
 ·exact .cI _
 ·exact Ce x
structure NodesQ (e:Nat->Prop)(ns:List NodeP)(cs:List AVal):Prop where
 len:cs.length=ns.length*3
 node:∀(v:Nat) (x:NodeP),ns[v]?=some x->∃rv,cs[v*3]?=some (aa x.card)/\cs[v*3+1]?=some (af x.parents)/\cs[v*3+2]?=some rv/\(rv=aj x.rows\/rv=bq x)/\(e v->rv=bq x)
theorem ya (e:Nat->Prop)(ns:List NodeP):NodesQ e ns (aY ns):=⟨iM ns,fun v x hx=>⟨_,mz hx,nQ hx,qj hx,.inr rfl,fun _=>rfl⟩⟩
theorem NodesQ.c0 {e:Nat->Prop}{ns:List NodeP}{cs:List AVal}(h:NodesQ e ns cs){v:Nat}{x:NodeP}(hx:ns[v]?=some x):cs[v*3]?=some (aa x.card):=(h.node v x hx).elim fun _ h=>h.1
theorem NodesQ.c1 {e:Nat->Prop}{ns:List NodeP}{cs:List AVal}(h:NodesQ e ns cs){v:Nat}{x:NodeP}(hx:ns[v]?=some x):cs[v*3+1]?=some (af x.parents):=(h.node v x hx).elim fun _ h=>h.2.1
theorem NodesQ.ne {e:Nat->Prop}{ns:List NodeP}{cs:List AVal}(h:NodesQ e ns cs){v:Nat}{x:NodeP}(hx:ns[v]?=some x):¬cs=[]:=fun he=>by
 have:=h.c0 hx;rw[he]at this;simp at this
theorem NodesQ.part {e:Nat->Prop}{ns:List NodeP}{cs:List AVal}(h:NodesQ e ns cs){v:Nat}{x:NodeP}(hx:ns[v]?=some x):∃rv,(cs.drop (v*3)).take 3=[aa x.card,af x.parents,rv]/\cs[v*3+2]?=some rv/\(rv=aj x.rows\/rv=bq x)/\(e v->rv=bq x):=by
 obtain⟨rv,a,b,c,d,f⟩:=h.node v x hx;refine⟨rv,?_,c,d,f⟩;have h3:=get_lt c;rw[TB (by omega),TB (by omega),TB (by omega)];simp only[List.take_succ_cons,List.take_zero];rw[SJ (by omega)]at a b c;rw[Option.some.inj a,Option.some.inj b,Option.some.inj c]
theorem NodesQ.nil {e:Nat->Prop}:NodesQ e [] []:=⟨rfl,fun v x hx=>by simp at hx⟩
theorem NodesQ.snoc {e:Nat->Prop}{ns:List NodeP}{cs:List AVal}(h:NodesQ e ns cs){x:NodeP}{rv:AVal}(h1:rv=aj x.rows\/rv=bq x)(h2:e ns.length->rv=bq x):NodesQ e (ns++[x]) (cs++[aa x.card,af x.parents,rv]):=by
 have hl:=h.len;refine⟨by simp[hl];omega,fun v y hy=>?_⟩;by_cases hv:v<ns.length
 ·rw[SU hv]at hy;obtain⟨r,a,b,c,d⟩:=h.node v y hy;exact⟨r,by rw[SU (by omega)];exact a,by rw[SU (by omega)];exact b,by rw[SU (by omega)];exact c,d⟩
 ·have:v=ns.length:=by have:=get_lt hy;simp at this;omega
  subst this;rw[SZ (by omega),Ut]at hy;cases hy;refine⟨rv,?_,?_,?_,h1,h2⟩
  ·rw[SZ (by omega),show ns.length*3-cs.length=0 by omega];rfl
  ·rw[SZ (by omega),show ns.length*3+1-cs.length=1 by omega];rfl
  ·rw[SZ (by omega),show ns.length*3+2-cs.length=2 by omega];rfl
theorem NodesQ.mono {e e':Nat->Prop}{ns:List NodeP}{cs:List AVal}(h:NodesQ e ns cs)(he:∀v,e' v->e v):NodesQ e' ns cs:=⟨h.len,fun v x hx=>by
 obtain⟨r,a,b,c,d,f⟩:=h.node v x hx;exact⟨r,a,b,c,d,fun h=>f (he v h)⟩⟩
theorem NodesQ.uK {e:Nat->Prop}{ns:List NodeP}{cs:List AVal}(h:NodesQ e ns cs){S:Nat->Prop}{H:AHeap}{nx:Nat}:∀(i:Nat) (h1:i<cs.length) (h2:i<(aF ns).length),Fz S H nx cs[i] (aF ns)[i]:=by
 intro i h1 h2;have hb:i / 3<ns.length:=by rw[h.len]at h1;omega
 obtain⟨x,hx⟩:=get_of_lt hb;obtain⟨rv,a,b,c,d,_⟩:=h.node _ x hx;have hp:i=(i / 3)*3+i % 3:=by omega
 have g1:cs[i]?=some cs[i]:=SJ h1;have g2:(aF ns)[i]?=some (aF ns)[i]:=SJ h2;generalize cs[i]=u at g1 ⊢;generalize (aF ns)[i]=w at g2 ⊢;have c3:i % 3=0\/i % 3=1\/i % 3=2:=by omega
 rcases c3 with c0|c0|c0
 ·rw[hp,c0,Nat.add_zero,a]at g1;rw[hp,c0,Nat.add_zero,iJ hx]at g2;cases g1;cases g2;exact .lit _
 ·rw[hp,c0,b]at g1;rw[hp,c0,jY hx]at g2;cases g1;cases g2;exact .cI _
 ·rw[hp,c0,c]at g1;rw[hp,c0,qf hx]at g2;cases g1;cases g2;rcases d with d|d<;>rw[d]
  ·exact .aj _
  ·exact Cd x
theorem lh {α:Type}{l:List α}{i:Nat}{x:α}(h:l[i]?=some x):l.set i x=l:=by
 apply Ti;intro j;rw[TM];split
 ·rename_i hj;subst hj;rw[SK (get_lt h),h]
 ·rfl
structure FiS (d:InfP)(fv:AVal)(H H':AHeap)(nh:AVal)(n:Nat)(cs:List AVal):Prop where
 nx:H.next+4<=H'.next
 ov:Over H H'
 b0:H'.get H.next=some (.arr 0 38 [.lit (.int .i64 d.grain),.vec d.nodes.length (aF d.nodes),.lit (.int .u64 (d.decs:Int)),.vec d.utils.length (aO d.utils)])
 b1:H'.get (H.next+1)=some (.arr 0 122 [fv])
 b2:H'.get (H.next+2)=some (.arr 0 81 [.lit (.int .i64 0),.lit (.slice none 0 0)])
 b3:H'.get (H.next+3)=some (.arr 0 81 [.lit (.int .i64 d.grain),nh])
 nd:cG (H.next+4) H' 87 3 nh n cs
theorem FiS.over {d:InfP}{fv:AVal}{H H' H2:AHeap}{nh:AVal}{n:Nat}{cs:List AVal}(h:FiS d fv H H' nh n cs)(o:Over H' H2):FiS d fv H H2 nh n cs where
 nx:=Tt h.nx o.next
 ov:=h.ov.trans o
 b0:=(o.old _ (by have:=h.nx;omega)).trans h.b0
 b1:=(o.old _ (by have:=h.nx;omega)).trans h.b1
 b2:=(o.old _ (by have:=h.nx;omega)).trans h.b2
 b3:=(o.old _ (by have:=h.nx;omega)).trans h.b3
 nd:=h.nd.over o
theorem Qs {H H':AHeap}{v:AVal}{n:Nat}{cs xs:List AVal}(hx:xs.all AVal.one=true)(hxl:xs.length=3)(hn:n<2 ^ 38)(ho:cG (H.next+4) H' 87 3 v n cs)(hlo:H.next+4<=H'.next):
  ∃v' H2,bM prog (ext H' [.arr 0 87 xs]) (H'.next+1) 34 34 v (.own H'.next 0 0 1 3)=some (v',H2)/\cG (H.next+4) H2 87 3 v' (n+1) (cs++xs)/\H'.next<=H2.next/\(∀k,k<H'.next->(∀g n,v≠.own k g 0 n 3)->H2.get k=H'.get k) :=
 mR Tryz.underlying34 Tryz.sf Tryz.sj hx hxl (by rw[Tryz.sh];omega) ho hlo rfl
theorem Dq {lo:Nat}{H':AHeap}{v:AVal}{l:List AVal}(x:AVal)(hx:x.one=true)(h:ay lo H' 42 v l)(hlo:lo<=H'.next)(hl:l.length<2 ^ 40):
  ∃v' H2,bM prog (ext H' [.arr 0 42 [x]]) (H'.next+1) 33 33 v (.own H'.next 0 0 1 1)=some (v',H2)/\ay lo H2 42 v' (l++[x])/\H'.next<=H2.next/\(∀k,k<H'.next->(∀g n,v≠.own k g 0 n 1)->H2.get k=H'.get k) :=
 fW (P:=prog) (H:=H') (t:=33) (x:=x) (n:=H'.next+1) Tryz.underlying33 Tryz.jv Tryz.jH hx (by rw[Tryz.jG];omega) h hlo rfl
theorem Dr (d:InfP)(hf:InfFit d)(hR:RightN d)(c:Nat->Nat->Int)(fv:AVal)(rs:List Nat)(H:AHeap)(hrs:∀i∈rs,i<H.next)(hfc:fv.cells=[fv])(hfo:fv.one=true)
  (hfv:∀p r v x H1,(az d)[p]?=some v->d.nodes[v]?=some x->r<bB d.nodes x->Over H H1->(0<=c p r/\c p r<x.card)/\bf prog G0 fv [.lit (.int .i64 p),.lit (.int .i64 r)] H1 (.lit (.int .i64 (c p r))) rs)
  (K:ARes->AHeap->Prop) (hK:K (.ret (bL d.grain (bG d c))) H):ag prog G0 101 [cW d,fv] H K:=by
 refine ag.clo ⟨_,func101,rfl,rfl⟩ fun hcl=>?_;have hl:=hf.nodes.1;have hn8:=hR.n1.2;refine ag.st (n:=91) (rs:=[.cell 4 81]) func101 ?_;simp only[go_sem,gI,bK,hfc];obtain⟨Hb,hHb⟩:∃Hb,Hb=ext H [.arr 0 38 [.lit (.int .i64 d.grain),.vec d.nodes.length (aF d.nodes),.lit (.int .u64 (d.decs:Int)),.vec d.utils.length (aO d.utils)],.arr 0 122 [fv],.arr 0 81 [.lit (.int .i64 0),.lit (.slice none 0 0)],.arr 0 81 [.lit (.int .i64 d.grain),.lit (.slice none 0 0)]]:=⟨_,rfl⟩
 rw[<- hHb];have R0:FiS d fv H Hb (.lit (.slice none 0 0)) 0 []:=by
  rw[hHb];exact⟨by simp[aS],.ext _ _,cq ..,bD H _ 1 (by simp),bD H _ 2 (by simp),bD H _ 3 (by simp),.nil⟩
 have nb:Hb.next=H.next+4:=hHb▸rfl
 refine W.loop 4503599626323328 (by rfl) (fun ρ H'=>∃(k:Nat) (nh:AVal),ρ 20=aa k/\k<=d.nodes.length/\FiS d fv H H' nh k (aY (d.nodes.take k))) (fun ρ H=>d.nodes.length-(iv (ρ 20)).toNat) ?_ ?_
 ·simp only[go_sem];exact⟨0,_,rfl,by omega,R0⟩
 rintro ρ H' ⟨k,nh,h20,hk,R⟩;refine W.vs ?_;have rn:=R.nx;have q0:=ah R.b0;have q3:=ah R.b3;by_cases hb:(k:Int)<d.nodes.length
 ·obtain⟨x,hx⟩:=get_of_lt (l:=d.nodes) (i:=k) (by omega);have hxm:=SE hx;obtain⟨f1,f2,f3⟩:=hf.nodes.2 x hxm;have hne:=dJ hx;have e0:=my hx;have e1:k*3+3<=(aF d.nodes).length:=by rw[iI];omega
  simp only[go_sem,h20,hb,hne,e0,e1];refine W.dr 7 [0,1,0,4,12,31,0] mixed ?_;simp only[go_sem];refine⟨af x.parents,[],bf.pure fun H2=>qF x.parents (by omega) H2 _ ⟨rfl,rfl⟩,?_⟩;simp only[go_sem,OH]
  repeat (refine And.intro (by first|omega|(simp;done)|(simp;omega)|(intros;omega)|exact⟨rfl,by omega,by omega,gQ _⟩) ?_)
  obtain⟨H1,hH1⟩:∃H1,H1=ext (ext H' [.arr 0 87 [.lit (.int .i64 x.card),.vec x.parents.length (ints x.parents),.vec x.rows.length (x.rows.map af)]]) [.arr 0 87 [.lit (.int .i64 x.card),.vec x.parents.length (ints x.parents),.lit (.slice none 0 0)]]:=⟨_,rfl⟩
  have n1:H1.next=H'.next+2:=by rw[hH1];rfl
  have gA:H1.get H'.next=some (.arr 0 87 [.lit (.int .i64 x.card),.vec x.parents.length (ints x.parents),.vec x.rows.length (x.rows.map af)]):=by rw[hH1,bb (by simp[aS])];exact bX
  have gB:H1.get (H'.next+1)=some (.arr 0 87 [.lit (.int .i64 x.card),.vec x.parents.length (ints x.parents),.lit (.slice none 0 0)]):=by rw[hH1];exact bX (H:=ext H' [_])
  have o1:Over H' H1:=by rw[hH1];exact(Over.ext _ _).trans (.ext _ _)
  have lA:=ah gA;rw[hH1]at lA;simp only[go_sem,lA];rw[<- hH1];refine W.aG 35175782155264 (by rfl) (fun ρ' H2=>∃(j:Nat) (rh:AVal),ρ' 33=aa j/\j<=x.rows.length/\Over H' H2/\H1.next<=H2.next/\H2.get (H'.next+1)=some (.arr 0 87 [.lit (.int .i64 x.card),.vec x.parents.length (ints x.parents),rh])/\ay (H'.next+2) H2 42 rh ((x.rows.take j).map af)/\(j=0->rh=.lit (.slice none 0 0))) (fun ρ' H=>x.rows.length-(iv (ρ' 33)).toNat) ?_ ?_
  ·simp only[go_sem];exact⟨0,_,rfl,by omega,o1,gB,.nil,fun _=>rfl⟩
  rintro ρ' H2 ⟨j,rh,h33,hj,o2,hn2,gB2,hrh,hrh0⟩;refine W.vs ?_;have o2n:=o2.next;have lB:=ah gB2;by_cases hb2:(j:Int)<x.rows.length
  ·obtain⟨r,hr⟩:=get_of_lt (l:=x.rows) (i:=j) (by omega);have hrm:=SE hr;have hrne:=aJ hr;have w1:=SF ((j:Int)+1) (by omega);simp only[go_sem,h33,hb2,hr,hrne];obtain⟨rh2,H3,hA,hO,hn3,hp⟩:=Dq (af r) rfl hrh (by omega) (by simp;omega);simp only[af]at hA;have hcells:=hO.cells;have hone:=hO.one;have g3:H3.get (H'.next+1)=some (.arr 0 87 [.lit (.int .i64 x.card),.vec x.parents.length (ints x.parents),rh]):=(hp _ (by omega) (hrh.ne (by omega))).trans gB2;have l3:=ah g3;refine W.dr 5 [0,1,0,4,12] mixed ?_;simp only[go_sem,lB];refine⟨af r,[],bf.pure fun H2=>qF r (by have:=f3 r hrm;omega) H2 _ ⟨rfl,rfl⟩,?_⟩;simp only[go_sem,h33,hA,l3,hcells,hone,w1]
   repeat (refine And.intro (by first|omega|(simp;done)|(simp;omega)|(intros;omega)|exact⟨rfl,by omega,by omega,gQ _⟩) ?_)
   have o3:Over H' H3:=⟨by omega,fun id h=>(hp id (by omega) (hrh.ne (by omega))).trans (o2.old id h)⟩
   refine⟨by rw[au];omega,⟨j+1,rh2,by simp,by omega,o3.upd (by omega) _,by rw[au];omega,by rw[ae,SK rfl],?_,by omega⟩,by omega⟩;have e:(x.rows.take (j+1)).map af=(x.rows.take j).map af++[af r]:=(by rw[aL hr];simp);rw[e];exact hO.keep (Nat.le_refl _) (by rw[au];omega) fun id g h1 _ _ _=>by rw[ae,SI (by omega)]
  ·rw[SH (by omega)]at hrh;have R2:=R.over o2;have q3b:=ah R2.b3;obtain⟨nh2,H3,hA,hO,hn3,hp⟩:=Qs (H:=H) (H':=H2) (v:=nh) (n:=k) (xs:=[.lit (.int .i64 x.card),.vec x.parents.length (ints x.parents),rh]) (by rw[List.all_cons,List.all_cons,List.all_cons,hrh.one];rfl) rfl (by omega) R2.nd (by have:=R2.nx;omega);have r2n:=R2.nx;have fr:∀id,id<H.next+4->H3.get id=H2.get id:=fun id h=>hp id (by omega) (R2.nd.ne h);have g3:H3.live (H.next+3) 0=some (81,[.lit (.int .i64 d.grain),nh]):=ah ((fr _ (by omega)).trans R2.b3);have hcells:=hO.cells;have hone:=hO.one;have hrc:=hrh.cells;have hro:=hrh.one;have w1:=SF ((k:Int)+1) (by omega);simp only[go_sem,h20,h33,hb2,lB,q3b,hA,g3,hcells,hone,w1];obtain⟨H4,hH4⟩:∃H4,H4=H3.upd (H.next+3) (.arr 0 81 [.lit (.int .i64 d.grain),nh2]):=⟨_,rfl⟩
   rw[<- hH4];refine(fun (h:∀E:Env,E 20=aa ((k:Int)+1)->∃s₃:St,cJ prog G0 ⟨E,H4⟩ s₃/\Hb.next<=s₃.H.next/\(∃(k:Nat) (nh:AVal),s₃.ρ 20=aa k/\k<=d.nodes.length/\FiS d fv H s₃.H nh k (aY (d.nodes.take k)))/\d.nodes.length-(iv (s₃.ρ 20)).toNat<d.nodes.length-k)=>h _ (by simp only[go_sem])) fun E hE20=>?_;have n4:H4.next=H3.next:=(by rw[hH4];rfl);obtain⟨nb2,gn,b1,b2,rfl,b4,b5⟩:∃id g,H.next+4<=id/\id<H3.next/\nh2=.own id g 0 (k+1) 3/\(aY (d.nodes.take k)++[.lit (.int .i64 x.card),.vec x.parents.length (ints x.parents),rh]).length=(k+1)*3/\H3.get id=some (.arr g 87 (aY (d.nodes.take k)++[.lit (.int .i64 x.card),.vec x.parents.length (ints x.parents),rh])):=by
    rcases hO with ⟨_,h,_⟩|h
    ·omega
    ·exact h
   have c0:∀id,id<H.next+3->H4.get id=H2.get id:=fun id h=>by rw[hH4,ae,SI (by omega)];exact fr id (by omega)
   have c3:H4.get (H.next+3)=some (.arr 0 81 [.lit (.int .i64 d.grain),.own nb2 gn 0 (k+1) 3]):=(by rw[hH4,ae,SK rfl]);have c5:H4.get nb2=some (.arr gn 87 (aY (d.nodes.take k)++[.lit (.int .i64 x.card),.vec x.parents.length (ints x.parents),rh])):=(by rw[hH4,ae,SI (by omega)];exact b5);have e5:aY (d.nodes.take (k+1))=aY (d.nodes.take k)++[aa x.card,af x.parents,bq x]:=(by rw[aL hx,x9]);by_cases hr0:x.rows=[]
   ·have hrn:rh=.lit (.slice none 0 0):=hrh0 (by rw[hr0]at hj;simpa using hj);subst hrn;refine⟨⟨E,H4⟩,cJ.refl _,by show Hb.next<=H4.next;omega,⟨k+1,.own nb2 gn 0 (k+1) 3,hE20.trans (by simp),by omega,⟨by show _<=H4.next;omega,⟨by have:=R2.ov.next;show _<=H4.next;omega,fun id h=>(c0 id (by omega)).trans (R2.ov.old id h)⟩,(c0 _ (by omega)).trans R2.b0,(c0 _ (by omega)).trans R2.b1,(c0 _ (by omega)).trans R2.b2,c3,.inr ⟨nb2,gn,b1,by show _<H4.next;omega,rfl,?_,?_⟩⟩⟩,?_⟩
    ·rw[iM];simp;omega
    ·show H4.get nb2=_;rw[e5,Cb hr0];exact c5
    ·show _-(iv (E 20)).toNat<_;rw[hE20];simp only[aa,aM];omega
   ·obtain⟨rk,gr,r1,r2,rfl,r4⟩:∃id g,H'.next+2<=id/\id<H2.next/\rh=.own id g 0 (x.rows.map af).length 1/\H2.get id=some (.arr g 42 (x.rows.map af)):=by
     rcases hrh with ⟨_,h⟩|h
     ·simp at h;exact absurd h hr0
     ·exact h
    have nhne:∀g n,nh≠.own rk g 0 n 3:=fun g n he=>by
     rcases R.nd with ⟨h,_⟩|⟨i,g2,_,h,h2,_⟩
     ·rw[h]at he;cases he
     ·rw[h2]at he;have:=AVal.own.inj he;omega
    have c6:H4.get rk=some (.arr gr 42 (x.rows.map af)):=(by rw[hH4,ae,SI (by omega),hp rk r2 nhne];exact r4);have hne2:nb2≠rk:=by
     rintro rfl;rw[c5]at c6;have:=(Blk.arr.inj (Option.some.inj c6)).2.1;exact absurd this (by decide)
    have e6:∀c:AVal,aY (d.nodes.take k)++[.lit (.int .i64 x.card),.vec x.parents.length (ints x.parents),c]=(aY (d.nodes.take k)++[.lit (.int .i64 x.card),.vec x.parents.length (ints x.parents)])++c :: []:=fun c=>by simp
    rw[e6]at c5;have e7:aY (d.nodes.take (k+1))=(aY (d.nodes.take k)++[.lit (.int .i64 x.card),.vec x.parents.length (ints x.parents)])++aj x.rows :: []:=(by rw[e5,sB hr0,<- e6];rfl);refine⟨⟨E,H4.fF rk nb2 (.arr gn 87 ((aY (d.nodes.take k)++[.lit (.int .i64 x.card),.vec x.parents.length (ints x.parents)])++aj x.rows :: []))⟩,cJ.fF (s:=⟨E,H4⟩) aE c5 hne2 (by simp) (RJ (fun c hc=>?_) ?_ fun c hc=>by cases hc),by show Hb.next<=H4.next;omega,
     ⟨k+1,.own nb2 gn 0 (k+1) 3,hE20.trans (by simp),by omega,⟨by show _<=H4.next;omega,⟨by have:=R2.ov.next;show _<=H4.next;omega,fun id h=>(md (by omega) (by omega)).trans ((c0 id (by omega)).trans (R2.ov.old id h))⟩,(md (by omega) (by omega)).trans ((c0 _ (by omega)).trans R2.b0),(md (by omega) (by omega)).trans ((c0 _ (by omega)).trans R2.b1),(md (by omega) (by omega)).trans ((c0 _ (by omega)).trans R2.b2),(md (by omega) (by omega)).trans c3,.inr ⟨nb2,gn,b1,by show _<H4.next;omega,rfl,?_,?_⟩⟩⟩,?_⟩
    ·rcases S5.1 hc with hc|hc
     ·exact uJ _ c hc
     ·simp only[List.mem_cons,List.not_mem_nil,or_false]at hc;rcases hc with rfl|rfl
      ·exact .lit _
      ·exact .cI _
    ·show Fz (fun id=>id=rk) H4 _ _ _;rw[show aj x.rows=.vec (x.rows.map af).length (x.rows.map af) by simp[aj]];refine .frz (S:=fun id=>id=rk) rfl c6 (by rw[Nat.mul_one]) fun j hj h2 h'=>?_;simp only[Nat.zero_add,SV];exact .cI _
    ·rw[iM];simp;omega
    ·rw[e7];exact vU hne2
    ·show _-(iv (E 20)).toNat<_;rw[hE20];simp only[aa,aM];omega
 have ek:k=d.nodes.length:=by omega
 subst ek;rw[SH (Nat.le_refl _)]at R;obtain⟨nbk,gn,b1,b2,rfl,b4,b5⟩:∃id g,H.next+4<=id/\id<H'.next/\nh=.own id g 0 d.nodes.length 3/\(aY d.nodes).length=d.nodes.length*3/\H'.get id=some (.arr g 87 (aY d.nodes)):=by
  rcases R.nd with ⟨_,h,_⟩|h
  ·have:=hR.n1.1;omega
  ·exact h
 simp only[go_sem,h20,hb,q0];refine aw.clo (vo d _ _ ⟨trivial,?_⟩);simp only[go_sem];obtain⟨H2,hH2⟩:∃H2,H2=ext H' [eh d]:=⟨_,rfl⟩
 rw[<- hH2];have o2:Over H' H2:=by rw[hH2];exact .ext _ _
 have n2:H2.next=H'.next+1:=by rw[hH2];rfl
 have hbx:H2.get H'.next=some (eh d):=by rw[hH2];exact bX
 refine W.env fun E hE=>?_;have e2:E 2=.ptr H.next 0 0:=by rw[hE];simp only[go_sem]
 have e3:E 3=.ptr (H.next+1) 0 0:=by rw[hE];simp only[go_sem]
 have e4:E 4=.ptr (H.next+2) 0 0:=by rw[hE];simp only[go_sem]
 have e5:E 5=.ptr (H.next+3) 0 0:=by rw[hE];simp only[go_sem]
 let F:Nat->List AVal->AHeap->Prop:=fun lo cs Hx=>lo<=Hx.next/\(∀id,id<H2.next->id≠nbk->Hx.get id=H2.get id)/\Hx.get nbk=some (.arr gn 87 cs)
 refine W.mc (f:=104) (first:=[]) (cap:=[.ptr H'.next 0 0]) (by show E 53=_;rw[hE];rfl) (vm d (by omega) hf.decs H'.next)
  (fun k Hx=>F H2.next (aY (dP d c k)) Hx) (fun _ _=>False)
  (fun k Hx h=>by rw[h.2.1 _ (by omega) (by omega)];exact hbx) (fun k Hx b h=>⟨h.1,fun id h1 h2=>by rw[ae,SI (by omega)];exact h.2.1 id h1 h2,by rw[ae,SI (by omega)];exact h.2.2⟩) (fun _ _ _ h=>h)
  (fun b=>⟨by rw[aS];omega,fun id h1 h2=>bb h1,by rw[bb (by omega),OD];exact(o2.old _ b2).trans b5⟩) (by decide) mK (fun _ _ _=>trivial) (fun _ _ _=>trivial) (fun k y Hx B Bb hy hj hn hB hBb=>?_) (fun Hx hj hn=>?_) (fun Hx hs hn=>hs.elim) (fun i Hx hs hn=>hs.elim)
 ·obtain⟨v,hv,rfl⟩:=lW hy;obtain⟨v1,v2,v3⟩:=eE hv;obtain⟨x,hx⟩:=get_of_lt (l:=d.nodes) (i:=v) v1;have hxm:=SE hx;obtain⟨x1,x2⟩:=hR.dec v x hx v2;refine W.vs ?_;simp only[go_sem,fV,bA,ir,Ts,TS,Tx,Tz,hB];obtain⟨H3,hH3⟩:∃H3,H3=Hx.upd H2.next Bb:=⟨_,rfl⟩
  rw[<- hH3];obtain⟨st,pd,n',en,ps',as',bo,hBe⟩:=hBb;have n3:H3.next=Hx.next:=by rw[hH3];rfl
  have hj3:F H2.next (aY (dP d c k)) H3:=by rw[hH3];exact⟨hj.1,fun id h1 h2=>by rw[ae,SI (by omega)];exact hj.2.1 id h1 h2,by rw[ae,SI (by omega)];exact hj.2.2⟩
  have jB:H3.get H2.next=some Bb:=by rw[hH3,ae,SK rfl]
  refine W.en (fun E1=>E1 2=.ptr H.next 0 0 /\ E1 3=.ptr (H.next+1) 0 0 /\ E1 5=.ptr (H.next+3) 0 0 /\ E1 11=aa k /\ E1 12=aa v) (by simp only[go_sem,bA,e2,e3,e5]) fun E1 ⟨m2,m3,m5,m11,m12⟩=>?_
  have hvn:(v:Int)<d.nodes.length:=by omega
  have s2:=R.over o2;have oldH:∀ {Hy:AHeap},(∀id,id<H2.next->id≠nbk->Hy.get id=H2.get id)->Hy.live H.next 0=some (38,[.lit (.int .i64 d.grain),.vec d.nodes.length (aF d.nodes),.lit (.int .u64 (d.decs:Int)),.vec d.utils.length (aO d.utils)])/\Hy.live (H.next+1) 0=some (122,[fv])/\Hy.live (H.next+3) 0=some (81,[.lit (.int .i64 d.grain),.own nbk gn 0 d.nodes.length 3]):=fun h =>
   ⟨ah ((h _ (by omega) (by omega)).trans s2.b0),ah ((h _ (by omega) (by omega)).trans s2.b1),ah ((h _ (by omega) (by omega)).trans s2.b3)⟩
  obtain⟨k0,k1,k3⟩:=oldH hj3.2.1;have ps:=iQ hn8 x2 hR.card;have hpm:=oo (ns:=d.nodes) (x:=x) (fun q hq=>by have:=x2.2 q hq;omega) hR.card;have hpp:1<=ao (aP d.nodes x):=eD fun c hc=>(hpm c hc).1;have hpb:=ps.prod;have hrn:((bB d.nodes x:Nat):Int)=ao (aP d.nodes x):=by unfold bB;omega
  have hlk:(dP d c k)[v]?=some x:=by rw[nP hx];unfold fa;rw[SI (by omega)]
  have el:=iM (dP d c k);have hvk:v*3+2<(aY (dP d c k)).length:=by rw[el,kS];omega
  refine W.me (Q':=fun e s2=>e=.normal/\∃rh,F H3.next (setAt (aY (dP d c k)) (v*3+2) [rh]) s2.H/\s2.H.get H2.next=some Bb/\ay H3.next s2.H 42 rh ((List.range (bB d.nodes x)).map fun r=>af (bI d.grain x.card (c k r)))) ?_ ?_;rotate_left
  ·rintro e sx ⟨rfl,rh,hF,jBx,hrh⟩;obtain⟨rk,gr,r1,r2,rfl,r4⟩:∃id g,H3.next<=id/\id<sx.H.next/\rh=.own id g 0 ((List.range (bB d.nodes x)).map fun r=>af (bI d.grain x.card (c k r))).length 1/\sx.H.get id=some (.arr g 42 ((List.range (bB d.nodes x)).map fun r=>af (bI d.grain x.card (c k r)))):=by
    rcases hrh with ⟨_,h⟩|h
    ·have:bB d.nodes x=0:=(by simpa using h);omega
    ·exact h
   have hfs:=OE (c:=c) hv hx;have edr:di d.grain d.nodes c k x=(List.range (bB d.nodes x)).map fun r=>bI d.grain x.card (c k r):=rfl;have ey:bq { x with rows:=x.rows++di d.grain d.nodes c k x }=.vec ((List.range (bB d.nodes x)).map fun r=>af (bI d.grain x.card (c k r))).length ((List.range (bB d.nodes x)).map fun r=>af (bI d.grain x.card (c k r))):=by
    have hne:x.rows++di d.grain d.nodes c k x≠[]:=by
     rw[x1,edr,List.nil_append];intro h;have:bB d.nodes x=0:=(by simpa using h);omega
    rw[sB hne];show aj (x.rows++_)=_;rw[x1,edr,List.nil_append];simp[aj,UW,Function.comp_def]
   have hob:=hF.2.2;rw[eM hvk]at hob;have hc2:aY (dP d c (k+1))=(aY (dP d c k)).set (v*3+2) (.vec ((List.range (bB d.nodes x)).map fun r=>af (bI d.grain x.card (c k r))).length ((List.range (bB d.nodes x)).map fun r=>af (bI d.grain x.card (c k r)))):=by
    rw[hfs,Cc (y:={ x with rows:=x.rows++di d.grain d.nodes c k x }) hlk ⟨rfl,rfl⟩,ey,eM hvk]
   have hne2:nbk≠rk:=(by have:=hj3.1;omega);refine⟨⟨sx.ρ,sx.H.fF rk nbk (.arr gn 87 (aY (dP d c (k+1))))⟩,cJ.fF aE hob hne2 (by rw[hc2,SO,SO]) ?_,Nat.le_refl _,⟨_,_,_,_,_,_,_,by rw[md (by omega) (by omega),jBx,hBe]⟩,by rw[md (by omega) (by omega)];exact jBx,by show Hx.next<=sx.H.next;have:=hF.1;omega,
    ⟨by show H2.next<=sx.H.next;have:=hF.1;omega,fun id h1 h2=>(md (by omega) h2).trans (hF.2.1 id h1 h2),vU hne2⟩⟩
   rw[hc2];refine zk (uJ _) ?_;refine .frz (S:=fun id=>id=rk) rfl r4 (by rw[Nat.mul_one]) fun j hj h2 h'=>?_;simp only[Nat.zero_add,SV];exact .cI _
  refine W.vs ?_;simp only[go_sem,m2,m12,k0];refine aw.clo (qH d.nodes v x hx (fun q hq=>by have:=x2.2 q hq;omega) ps _ _ ⟨⟨_,_,_,_,_,_,_,by rw[jB,hBe]⟩,?_⟩);rw[<- hrn];simp only[go_sem];refine W.aG 1237940038132458770292285440 (by rfl) (fun ρ2 H4=>∃(r:Nat) (rh:AVal),ρ2 60=aa r/\r<=bB d.nodes x/\F H3.next (setAt (aY (dP d c k)) (v*3+2) [rh]) H4/\H4.get H2.next=some Bb/\ay H3.next H4 42 rh ((List.range r).map fun r=>af (bI d.grain x.card (c k r)))/\(r=0->rh=.lit (.slice none 0 0)))
   (fun ρ2 H=>bB d.nodes x-(iv (ρ2 60)).toNat) ?_ ?_
  ·simp only[go_sem];refine⟨0,.lit (.slice none 0 0),rfl,by omega,⟨Nat.le_refl _,hj3.2.1,?_⟩,jB,.nil,fun _=>rfl⟩;rw[show setAt (aY (dP d c k)) (v*3+2) [.lit (.slice none 0 0)]=aY (dP d c k) from by
    have:=Cc (y:=x) hlk ⟨rfl,rfl⟩;rw[Cb x1]at this;rw[<- this];congr 1;exact lh hlk]
   exact hj3.2.2
  rintro ρ2 H4 ⟨r,rh,h60,hr,hF,jB4,hrh,hrh0⟩;refine W.en (fun E2=>E2 2=.ptr H.next 0 0 /\ E2 3=.ptr (H.next+1) 0 0 /\ E2 5=.ptr (H.next+3) 0 0 /\ E2 11=aa k /\ E2 12=aa v /\ E2 59=aa (bB d.nodes x) /\ E2 60=aa r) (by simp only[go_sem,m2,m3,m5,m11,m12,h60]) fun E2 ⟨i2,i3,i5,i11,i12,i59,i60⟩=>?_
  refine W.vs ?_;by_cases hb2:(r:Int)<bB d.nodes x
  ·obtain⟨k0,k1,k3⟩:=oldH hF.2.1;have kn:=ah hF.2.2;have hne:=dJ hx;have ec:=iJ hx;have w1:=SF ((r:Int)+1) (by omega);obtain⟨cb,hpc⟩:=hfv k r v x H4 hv hx (by omega) ⟨by omega,fun id h=>(hF.2.1 id (by omega) (by omega)).trans (s2.ov.old id h)⟩;have hs:(setAt (aY (dP d c k)) (v*3+2) [rh])[v*3+2]?=some rh:=(by rw[eM hvk,SX hvk]);obtain⟨rh2,H5,hA,hO,hn5,hp⟩:=Dq (af (bI d.grain x.card (c k r))) rfl hrh hF.1 (by rw[SM,TK];omega);simp only[af]at hA;have hcells:=hO.cells;have hone:=hO.one;have hpr:bf prog G0 (.clo 134 [] []) [.lit (.int .i64 d.grain),.lit (.int .i64 x.card),.lit (.int .i64 (c k r))] H4 (af (bI d.grain x.card (c k r))) []:=bf.pure fun H2=>Qi d.grain x.card (c k r) (by have:=hR.card x hxm;omega) cb H2 _ ⟨rfl,rfl⟩;have hrhs:rh=.lit (.slice none 0 0)\/∃i g n,rh=.own i g 0 n 1/\H3.next<=i/\i<H4.next:=by
    rcases hrh with ⟨h,_⟩|⟨i,g,h1,h2,h3,_⟩
    ·exact .inl h
    ·exact .inr ⟨i,g,_,h3,h1,h2⟩
   have hset:∀a b,setAt (setAt (aY (dP d c k)) (v*3+2) [a]) (v*3+2) [b]=setAt (aY (dP d c k)) (v*3+2) [b]:=fun a b=>by rw[eM hvk,eM (by rw[SO];exact hvk),eM hvk,UD]
   have hslen:∀a,(setAt (aY (dP d c k)) (v*3+2) [a]).length=(aY (dP d c k)).length:=fun a=>by rw[eM hvk,SO]
   have hg5:H5.get nbk=some (.arr gn 87 (setAt (aY (dP d c k)) (v*3+2) [rh])):=(hp _ (by have:=hF.1;omega) (hrh.ne (by omega))).trans hF.2.2;have kn5:=ah hg5;have ho5:∀id,id<H2.next->id≠nbk->H5.get id=H2.get id:=fun id h1 h2=>(hp _ (by have:=hF.1;omega) (hrh.ne (by omega))).trans (hF.2.1 id h1 h2);have jB5:H5.get H2.next=some Bb:=(hp _ (by have:=hF.1;omega) (hrh.ne (by omega))).trans jB4;obtain⟨hn34,-,-⟩:=hF;rcases rs with _|⟨b0,rs⟩<;>rcases hrhs with rfl|⟨i,g,n,rfl,hi1,hi2⟩
   all_goals
    simp only[go_sem,i60,i59,hb2];refine W.dr 24 [0,1,0,0,8,0,56,120,248,0,512,0,2048,0,14336,30720,63488,0,0,0,917504,2096640,4193792,8388600] mixed ?_;simp only[go_sem,i2,i3,i5,i11,i12,k0,k1,k3,kn,hvn,hne,ec,hs];refine⟨.lit (.int .i64 (c k r)),_,hpc,af (bI d.grain x.card (c k r)),[],hpr,?_⟩;simp only[go_sem,i2,i3,i5,i11,i12,i60,hvn,kn5,hA,hcells,hone,w1];refine⟨by repeat' (first|refine And.intro ?_ ?_|(intro x hx;omega)),by repeat' (first|refine And.intro ?_ ?_|(intro x hx;omega)),by rw[hslen];omega,by rw[au];omega,⟨_,_,_,_,_,_,_,by rw[ae,SI (by omega),jB5,hBe]⟩,
     ⟨r+1,rh2,by simp,by omega,⟨by rw[au];omega,fun id h1 h2=>by rw[ae,SI h2];exact ho5 id h1 h2,by rw[ae,SK rfl,hset]⟩,by rw[ae,SI (by omega)];exact jB5,?_,by omega⟩,by rw[h60];simp only[aa,aM];omega⟩
    have e:((List.range (r+1)).map fun r=>af (bI d.grain x.card (c k r)))=((List.range r).map fun r=>af (bI d.grain x.card (c k r)))++[af (bI d.grain x.card (c k r))]:=(by rw[TZ];simp);show ay _ _ _ _ ((List.range (r+1)).map fun r=>af (bI d.grain x.card (c k r)));rw[e];exact hO.keep (Nat.le_refl _) (by rw[au];omega) fun id g h1 _ _ _=>by rw[ae,SI (by omega)]
  ·have er:r=bB d.nodes x:=(by omega);subst er;simp only[go_sem,i59,i60,hb2];exact⟨rh,hF,jB4,hrh⟩
 ·have s2:=R.over o2;have f4:=ah ((hj.2.1 _ (by omega) (by omega)).trans s2.b2);have f5:=ah ((hj.2.1 _ (by omega) (by omega)).trans s2.b3);simp only[go_sem,e4,e5,f4,f5];have ovx:Over H Hx:=⟨by omega,fun id h=>(hj.2.1 id (by omega) (by omega)).trans (s2.ov.old id h)⟩
  refine ar.aV (v':=bL d.grain (bG d c)) aE hcl (ovx.upd (by omega) _) (.agg rfl fun i hi _=>?_) hK
  match i,hi with
  |0,_=>exact .lit _
  |1,_ =>
   have hg:∀b,(Hx.upd (H.next+2) b).get nbk=some (.arr gn 87 (aY (bG d c))):=fun b=>by
    rw[ae,SI (by omega)];have:=hj.2.2;rw[kY]at this;exact this
   show Fz _ _ _ (.own nbk gn 0 d.nodes.length 3) (.vec (bG d c).length (aF (bG d c)));rw[show (bG d c).length=d.nodes.length from kS _ _ _];refine .frz (by show H.next<=_;omega) (hg _) (by rw[iI];congr 1;exact kS _ _ _) fun j hj h2 h'=>?_;simp only[Nat.zero_add];exact Cf _ j _ _
structure UtilOk (ns:List NodeP)(u:UtilP):Prop where
 vars:bO u.vars ns.length
 size:(u.w.length:Int)=ao (aI (ak ns) u.vars)
 w:∀x∈u.w,-100<=x/\x<=100
def vw (d:InfP):Prop:=d.utils.length<=4/\∀u∈d.utils,UtilOk d.nodes u
theorem pq {ns:List NodeP}{vars:List Int}(h8:ns.length<=8)(hp:bO vars ns.length)(hc:∀y∈ns,1<=y.card/\y.card<=4):cY (aI (ak ns) vars) :=
 iQ (x:=⟨0,vars,[]⟩) h8 hp hc
theorem Qt (d:InfP)(hf:InfFit d)(h8:d.nodes.length<=8)(hc:∀y∈d.nodes,1<=y.card/\y.card<=4)(H:AHeap)(K:ARes->AHeap->Prop)(hK:K (.ret (.lit (.bool (kZ (vw d))))) H):ag prog G0 103 [cW d] H K:=by
 refine ag.clo ⟨_,func103,rfl,rfl⟩ fun hcl=>?_;have hul:=hf.utils.1;have no:¬vw d->∀H',Over H H'->ar prog G0 H K (.lit (.bool false)) H':=fun h H' ov=>ar.aV aE hcl ov (.lit _) (by rw[eV h]at hK;exact hK);refine ag.st (n:=74) (rs:=[.tmp 2]) func103 ?_;simp only[go_sem,gI,bK];obtain⟨H1,hH1⟩:∃H1,H1=ext H [.arr 0 38 [.lit (.int .i64 d.grain),.vec d.nodes.length (aF d.nodes),.lit (.int .u64 (d.decs:Int)),.vec d.utils.length (aO d.utils)]]:=⟨_,rfl⟩
 have l1:H1.live H.next 0=some (38,[.lit (.int .i64 d.grain),.vec d.nodes.length (aF d.nodes),.lit (.int .u64 (d.decs:Int)),.vec d.utils.length (aO d.utils)]):=by rw[hH1];exact ah (cq ..)
 have n1:H1.next=H.next+1:=hH1▸rfl
 have o1:Over H H1:=hH1▸.ext _ _
 rw[<- hH1];refine W.aG 9444732965739290166632 (by rfl) (fun ρ H'=>∃k:Nat,ρ 18=aa k/\k<=d.utils.length/\Over H1 H'/\ρ 3=.lit (.bool (decide ((d.utils.length:Int)<=4)))/\(0<k->d.utils.length<=4)/\∀u∈d.utils.take k,UtilOk d.nodes u) (fun ρ H=>d.utils.length-(iv (ρ 18)).toNat) ?_ ?_
 ·simp only[go_sem];exact⟨0,rfl,by omega,.refl _,by omega,by simp⟩
 rintro ρ H' ⟨k,h18,hk,ov,h3,hk4,hall⟩;refine W.en (fun E=>E 1=.ptr H.next 0 0 /\ E 3=.lit (.bool (decide ((d.utils.length:Int)<=4))) /\ E 16=.vec d.utils.length (aO d.utils) /\ E 17=aa d.utils.length /\ E 18=aa k) (by simp only[go_sem,h3,h18]) fun E ⟨e1,e3,e16,e17,e18⟩=>?_
 refine W.vs ?_;have ovn:=ov.next;have l2:=(ov.live (g:=0) (by omega:H.next<H1.next)).trans l1;by_cases hb:(k:Int)<d.utils.length;rotate_left
 ·rw[SH (by omega)]at hall;by_cases h4:(d.utils.length:Int)<=4
  ·simp only[go_sem,e3,e17,e18,hb,h4];rw[dU ⟨by omega,hall⟩]at hK;exact ar.aV aE hcl (o1.trans ov) (.lit _) hK
  ·simp only[go_sem,e3,e17,e18,hb,h4];exact no (fun h=>by have:=h.1;omega) _ (o1.trans ov)
 obtain⟨u,hu⟩:=get_of_lt (l:=d.utils) (i:=k) (by omega);have hum:=SE hu;obtain⟨f1,f2⟩:=hf.utils.2 u hum;have hne:=qg hu;have p0:=sr hu;have p1:k*2+2<=(aO d.utils).length:=by rw[kK];omega
 have ove:∀L,Over H (ext H' L):=fun L=>(o1.trans ov).trans (.ext _ _);by_cases h4:(d.utils.length:Int)<=4;rotate_left
 ·simp only[go_sem,e3,e16,e17,e18,hb,h4,hne,p0,p1];exact no (fun h=>by have:=h.1;omega) _ (ove _)
 have l3:∀L,(ext H' L).live H.next 0=_:=fun L=>(dh (by omega)).trans l2;simp only[go_sem,e1,e3,e16,e17,e18,hb,h4,hne,p0,p1,l3];obtain⟨H2,hH2⟩:∃H2,H2=ext H' [.arr 0 90 [.vec u.vars.length (ints u.vars),.vec u.w.length (ints u.w)]]:=⟨_,rfl⟩
 have m1:H2.live H'.next 0=some (90,[.vec u.vars.length (ints u.vars),.vec u.w.length (ints u.w)]):=by rw[hH2];exact ah bX
 have m2:=l3 [.arr 0 90 [.vec u.vars.length (ints u.vars),.vec u.w.length (ints u.w)]];rw[<- hH2]at m2;have n2:H2.next=H'.next+1:=by rw[hH2];rfl
 have ov2:Over H H2:=by rw[hH2];exact ove _
 rw[<- hH2];refine aw.clo (Dy u.vars d.nodes.length (by omega) _ _ ⟨trivial,?_⟩);by_cases c1:bO u.vars d.nodes.length;rotate_left
 ·simp only[go_sem,c1];exact no (fun h=>c1 (h.2 u hum).vars) _ ov2
 have sm:=pq h8 c1 hc;have pl:(aI (ak d.nodes) u.vars).length=u.vars.length:=gJ _ _;have v8:=c1.len;simp only[go_sem,c1,m1];refine W.aG 562881233944896 (by rfl) (fun ρ' H3=>H3=H2/\∃j:Nat,ρ' 36=aa j/\j<=u.vars.length/\ρ' 6=aa (ao ((aI (ak d.nodes) u.vars).take j))) (fun ρ' H=>u.vars.length-(iv (ρ' 36)).toNat) ?_ ?_
 ·simp only[go_sem];exact⟨0,rfl,by omega,by simp[gm]⟩
 rintro ρ' H3 ⟨rfl,j,h36,hj,h6⟩;refine W.vs ?_;by_cases hb2:(j:Int)<u.vars.length
 ·obtain⟨q,hq⟩:=get_of_lt (l:=u.vars) (i:=j) (by omega);obtain⟨i,rfl,y,hy⟩:=lO (l:=d.nodes) (c1.2 q (SE hq)).1 (c1.2 q (SE hq)).2;have hne2:=aJ hq;have hne3:=dJ hy;have ey:=iJ hy;have hi:(i:Int)<d.nodes.length:=by have:=get_lt hy;omega
  have pk:(aI (ak d.nodes) u.vars)[j]?=some y.card:=by rw[lj hq,Int.toNat_natCast,bp (dm hy)]
  have b1:=(sm.take (j+1)).prod;rw[aL pk,eQ]at b1;have w1:=SF ((j:Int)+1) (by omega);have w2:=SF (ao ((aI (ak d.nodes) u.vars).take j)*y.card) (by omega);simp only[go_sem,h36,h6,e1,m2,hb2,hq,hne2,hne3,hi,ey,w1,w2];exact⟨⟨j+1,by simp,by omega,by rw[aL pk,eQ]⟩,by omega⟩
 rw[SH (by omega)]at h6;by_cases c2:(u.w.length:Int)=ao (aI (ak d.nodes) u.vars);rotate_left
 ·simp only[go_sem,h36,h6,m1,hb2,c2];exact no (fun h=>c2 (h.2 u hum).size) _ ov2
 simp only[go_sem,h36,h6,m1,hb2,c2];refine W.aG 4721790022117341791240 (by rfl) (fun ρ2 H4=>H4=H3/\∃i:Nat,ρ2 59=aa i/\i<=u.w.length/\ρ2 3=.lit (.bool true)/\∀w∈u.w.take i,-100<=w/\w<=100) (fun ρ2 H=>u.w.length-(iv (ρ2 59)).toNat) ?_ ?_
 ·simp only[go_sem];exact⟨0,rfl,by omega,by simp⟩
 rintro ρ2 H4 ⟨rfl,i,h59,hi,h3',hw⟩;refine W.vs ?_;have hpr:=sm.prod;by_cases hb3:(i:Int)<u.w.length<;>have hb3':=hb3<;>rw[c2]at hb3'
 ·obtain⟨a,ha⟩:=get_of_lt (l:=u.w) (i:=i) (by omega);have ham:=SE ha;have hane:=aJ ha;by_cases d1:a >= -100;rotate_left
  ·simp only[go_sem,h59,h3',hb3,hb3',ha,hane,d1];exact no (fun h=>by have:=(h.2 u hum).w a ham;omega) _ ov2
  by_cases d2:a<=100;rotate_left
  ·simp only[go_sem,h59,h3',hb3,hb3',ha,hane,d1,d2];exact no (fun h=>by have:=(h.2 u hum).w a ham;omega) _ ov2
  have w1:=SF ((i:Int)+1) (by omega);simp only[go_sem,h59,h3',hb3,hb3',ha,hane,d1,d2,w1];refine⟨⟨i+1,by simp,by omega,fun w hw'=>?_⟩,by omega⟩;rw[aL ha]at hw';rcases S5.1 hw' with hw'|hw'
  ·exact hw w hw'
  ·obtain rfl:=List.mem_singleton.1 hw';exact⟨by omega,by omega⟩
 ·have w1:=SF ((k:Int)+1) (by omega);rw[SH (by omega)]at hw;simp only[go_sem,h59,h3',e18,hb3',w1];refine⟨by omega,⟨k+1,by simp,by omega,by rw[hH2];exact ov.trans (.ext _ _),fun _=>by omega,fun y hy=>?_⟩,by rw[h18];simp only[aa,aM];omega⟩;rw[aL hu]at hy;rcases S5.1 hy with hy|hy
  ·exact hall y hy
  ·obtain rfl:=List.mem_singleton.1 hy;exact⟨c1,c2,hw⟩
structure InfOk (d:InfP):Prop where
 n:RightN d
 net:NetOk d.grain (bG d fun _ _=>0)
 utils:vw d
theorem sQ (g card x:Int):(bI g card x).length=card.toNat:=by simp[bI]
theorem sR {d:InfP}{c:Nat->Nat->Int}{y:NodeP}(h:y∈bG d c):∃v x,d.nodes[v]?=some x/\y=fa d c (az d).length v x:=by
 obtain⟨v,hv⟩:=SW.1 h;have hl:=get_lt hv;rw[show (bG d c).length=d.nodes.length from kS _ _ _]at hl;obtain⟨x,hx⟩:=get_of_lt hl;have:=nP (c:=c) (k:=(az d).length) hx;rw[show dP d c (az d).length=bG d c from rfl,hv]at this;exact⟨v,x,hx,Option.some.inj this⟩
theorem Qu {d:InfP}(hf:InfFit d)(hR:RightN d)(c:Nat->Nat->Int):qI (bG d c):=by
 refine⟨by rw[show (bG d c).length=d.nodes.length from kS _ _ _];exact hf.nodes.1,fun y hy=>?_⟩;obtain⟨v,x,hx,rfl⟩:=sR hy;have hxm:=SE hx;obtain⟨f1,f2,f3⟩:=hf.nodes.2 x hxm;unfold fa;split
 ·rename_i h;obtain⟨x1,x2⟩:=hR.dec v x hx h.1;have ps:=(iQ hR.n1.2 x2 hR.card).prod;have hc:=hR.card x hxm;refine⟨f1,?_,fun r hr=>?_⟩
  ·show ((x.rows++di d.grain d.nodes c (aU d.decs v) x).length:Int)<_;rw[x1];simp only[di,List.nil_append,SM,TK,bB];omega
  ·rw[show ({ x with rows:=x.rows++di d.grain d.nodes c (aU d.decs v) x }:NodeP).rows=x.rows++di d.grain d.nodes c (aU d.decs v) x from rfl,x1,List.nil_append]at hr;obtain⟨i,_,rfl⟩:=SY.1 hr;rw[sQ];omega
 ·exact⟨f1,f2,f3⟩
theorem Ds (d:InfP)(hf:InfFit d)(H:AHeap)(K:ARes->AHeap->Prop)(hK:K (.ret (aa (if kZ (InfOk d) then 0 else 200))) H):ag prog G0 59 [cW d] H K:=by
 refine ag.clo ⟨_,func59,rfl,rfl⟩ fun hcl=>?_;have no:¬InfOk d->∀H',Over H H'->ar prog G0 H K (.lit (.int .i64 200)) H':=fun h H' ov=>ar.aV aE hcl ov (.lit _) (by rw[eV h]at hK;exact hK);have hg:InfOk d->1<=d.grain/\d.grain<=60:=fun h=>h.net.g1;refine ag.st (n:=25) (rs:=[.tmp 2]) func59 ?_;simp only[go_sem,gI,bK];obtain⟨H1,hH1⟩:∃H1,H1=ext H [.arr 0 38 [.lit (.int .i64 d.grain),.vec d.nodes.length (aF d.nodes),.lit (.int .u64 (d.decs:Int)),.vec d.utils.length (aO d.utils)]]:=⟨_,rfl⟩
 have l1:H1.live H.next 0=some (38,[.lit (.int .i64 d.grain),.vec d.nodes.length (aF d.nodes),.lit (.int .u64 (d.decs:Int)),.vec d.utils.length (aO d.utils)]):=by rw[hH1];exact ah (cq ..)
 have o1:Over H H1:=hH1▸.ext _ _
 rw[<- hH1];by_cases c1:d.grain<1
 ·simp only[go_sem,c1];exact no (fun h=>by have:=hg h;omega) _ o1
 by_cases c2:d.grain > 60
 ·simp only[go_sem,l1,c1,c2];exact no (fun h=>by have:=hg h;omega) _ o1
 simp only[go_sem,l1,c1,c2];refine aw.clo (Qk d hf _ _ ⟨trivial,?_⟩);by_cases c3:RightN d;rotate_left
 ·rw[eV c3];simp only[go_sem];exact no (fun h=>c3 h.n) _ o1
 rw[dU c3];simp only[go_sem,l1];refine aw.clo (Dr d hf c3 (fun _ _=>0) _ [] _ (fun i h=>by cases h) rfl rfl (fun p r v x H2 _ hx _ _=>⟨⟨Int.le_refl 0,by have:=c3.card x (SE hx);omega⟩,bf.pure fun H3=>Qj _ _ H3 _ ⟨rfl,rfl⟩⟩) _ ⟨trivial,?_⟩);simp only[go_sem];refine aw.clo (QY d.grain _ (Qu hf c3 _) _ _ ⟨trivial,?_⟩);by_cases c4:NetOk d.grain (bG d fun _ _=>0);rotate_left
 ·rw[vD c4];simp only[go_sem];exact no (fun h=>c4 h.net) _ o1
 rw[vC c4];simp only[go_sem,l1];refine aw.clo (Qt d hf c3.n1.2 c3.card _ _ ⟨trivial,?_⟩);by_cases c5:vw d;rotate_left
 ·rw[eV c5];simp only[go_sem];exact no (fun h=>c5 h.utils) _ o1
 rw[dU c5];simp only[go_sem];rw[dU (⟨c3,c4,c5⟩:InfOk d)]at hK;exact ar.aV aE hcl o1 (.lit _) hK
structure PolOk (d:InfP)(p:List (List Int)):Prop where
 len:p.length=(az d).length
 row:∀(k v:Nat) (x:NodeP) (l:List Int),(az d)[k]?=some v->d.nodes[v]?=some x->p[k]?=some l->l.length=bB d.nodes x/\∀a∈l,0<=a/\a<x.card
def ji (p:List (List Int)):Prop:=(p.length:Int)<2 ^ 38/\∀r∈p,(r.length:Int)<2 ^ 38
noncomputable def cK (d:InfP)(p:List (List Int)):Int:=if kZ (InfOk d) then (if kZ (PolOk d p) then 0 else 201) else 200
theorem sS (d:InfP)(hf:InfFit d)(p:List (List Int))(hp:ji p)(H:AHeap)(K:ARes->AHeap->Prop)(hK:K (.ret (aa (cK d p))) H):ag prog G0 38 [cW d,aj p] H K:=by
 refine ag.clo ⟨_,func38,rfl,rfl⟩ fun hcl=>?_;refine ag.st (n:=64) (rs:=[.cell 4 46]) func38 ?_;simp only[go_sem,gI,bK];obtain⟨H1,hH1⟩:∃H1,H1=ext H [.arr 0 38 (bK d),.arr 0 33 [aj p],.arr 0 46 [.lit (.int .i64 0)]]:=⟨_,rfl⟩
 have g1:=df hH1
 have g2:=gE hH1 1 rfl
 have g3:=gE hH1 2 rfl
 have l1:=ah g1;have l3:=ah g3;have n1:H1.next=H.next+3:=hH1▸rfl
 have o1:Over H H1:=hH1▸.ext _ _
 unfold bK at hH1 l1;rw[<- hH1];refine aw.clo (Ds d hf _ _ ⟨trivial,?_⟩);by_cases hok:InfOk d;rotate_left
 ·rw[eV hok];simp only[go_sem,l3];unfold cK at hK;rw[eV hok]at hK;exact ar.aV aE hcl (o1.upd (by omega) _) (.lit _) hK
 rw[dU hok];have hR:=hok.n;have no:¬PolOk d p->∀H',Over H H'->ar prog G0 H K (.lit (.int .i64 201)) H':=fun h H' ov=>ar.aV aE hcl ov (.lit _) (by unfold cK at hK;rw[dU hok,eV h]at hK;exact hK);have nb0:H.next≠H1.next:=by omega
 have l1e:∀L,(ext H1 L).live H.next 0=_:=fun L=>(dh (by omega)).trans l1;simp only[go_sem,l1e];refine aw.clo (vo d _ _ ⟨trivial,?_⟩);simp only[go_sem];obtain⟨H2,hH2⟩:∃H2,H2=ext (ext H1 [.arr 0 3 [.lit (.int .i64 0)]]) [eh d]:=⟨_,rfl⟩
 rw[<- hH2];have o2:Over H1 H2:=by rw[hH2];exact(Over.ext _ _).trans (.ext _ _)
 have n2:H2.next=H.next+5:=by rw[hH2,aS,aS,n1];rfl
 have hbx:H2.get (H.next+4)=some (eh d):=by rw[hH2,show H.next+4=(ext H1 [.arr 0 3 [.lit (.int .i64 0)]]).next by rw[aS,n1];rfl];exact bX
 have g6:H2.get (H.next+3)=some (.arr 0 3 [.lit (.int .i64 0)]):=by rw[hH2,dv _ _ _ (by rw[aS,n1];simp),show H.next+3=H1.next by omega];exact bX
 have o02:=o1.trans o2;refine W.env fun E hE=>?_;have e2:E 2=.ptr H.next 0 0:=by rw[hE];simp only[go_sem]
 have e3:E 3=.ptr (H.next+1) 0 0:=by rw[hE];simp only[go_sem]
 have e4:E 4=.ptr (H.next+2) 0 0:=by rw[hE];simp only[go_sem]
 have e6:E 6=.ptr (H.next+3) 0 0:=by rw[hE,<- n1];simp only[go_sem]
 have eN:(ext H1 [.arr 0 3 [.lit (.int .i64 0)]]).next=H.next+4:=by rw[aS,n1];rfl
 have e17:E 17=.clo 104 [] [.ptr (H.next+4) 0 0]:=by rw[hE,<- eN];rfl
 clear hE
  -- what stays as it is
 let S:AHeap->Prop:=fun Hx=>H2.next<=Hx.next/\∀id,id<H2.next->id≠H.next+3->id≠H.next+2->Hx.get id=H2.get id
 have ovS:∀ {Hx},S Hx->Over H Hx:=fun h=>⟨by have:=h.1;omega,fun id hi=>(h.2 id (by omega) (by omega) (by omega)).trans (o02.old id hi)⟩
 refine W.mc (f:=104) (first:=[]) (cap:=[.ptr (H.next+4) 0 0]) (by show E 17=_;exact e17) (vm d (by have:=hf.nodes.1;omega) hf.decs (H.next+4))
  (fun k Hx=>S Hx/\Hx.get (H.next+2)=some (.arr 0 46 [.lit (.int .i64 0)])/\Hx.get (H.next+3)=some (.arr 0 3 [.lit (.int .i64 k)])/\∀j v x,j<k->(az d)[j]?=some v->d.nodes[v]?=some x->∃l,p[j]?=some l/\l.length=bB d.nodes x/\∀a∈l,0<=a/\a<x.card)
  (fun c Hx=>c=.ret/\S Hx/\Hx.get (H.next+2)=some (.arr 0 46 [.lit (.int .i64 201)])/\¬PolOk d p)
  (fun k Hx h=>by rw[h.1.2 _ (by omega) (by omega) (by omega)];exact hbx)
  (fun k Hx b h=>⟨⟨h.1.1,fun id h1 h2 h3=>by rw[ae,SI (by omega)];exact h.1.2 id h1 h2 h3⟩,by rw[ae,SI (by omega)];exact h.2.1,by rw[ae,SI (by omega)];exact h.2.2.1,h.2.2.2⟩)
  (fun c Hx b h=>⟨h.1,⟨h.2.1.1,fun id h1 h2 h3=>by rw[ae,SI (by omega)];exact h.2.1.2 id h1 h2 h3⟩,by rw[ae,SI (by omega)];exact h.2.2.1,h.2.2.2⟩)
  (fun b=>⟨⟨by rw[aS];omega,fun id h1 h2 h3=>bb h1⟩,by rw[bb (by omega),o2.old _ (by omega)];exact g3,by rw[bb (by omega)];exact g6,fun j v x h=>absurd h (S4 _)⟩)
  (by decide) mK (fun _ _ _=>trivial) (fun _ _ _=>trivial) (fun k y Hx B Bb hy hj hn hB hBb=>?_) (fun Hx hj hn=>?_) (fun Hx hs hn=>?_) (fun i Hx hs hn=>by cases hs.1)
 ·obtain⟨v,hv,rfl⟩:=lW hy;obtain⟨v1,v2,v3⟩:=eE hv;obtain⟨x,hx⟩:=get_of_lt (l:=d.nodes) (i:=v) v1;obtain⟨x1,x2⟩:=hR.dec v x hx v2;refine W.vs ?_;simp only[go_sem,fV,bA,ir,Ts,TS,Tx,Tz,hB];obtain⟨H3,hH3⟩:∃H3,H3=Hx.upd H2.next Bb:=⟨_,rfl⟩
  rw[<- hH3];obtain⟨st,pd,n',en,ps',as',bo,hBe⟩:=hBb;have n3:H3.next=Hx.next:=by rw[hH3];rfl
  have o3:∀id,id≠H2.next->H3.get id=Hx.get id:=fun id h=>by rw[hH3,ae,SI h]
  have jB:H3.get H2.next=some Bb:=by rw[hH3,ae,SK rfl]
  have hS3:S H3:=⟨by rw[n3];exact hj.1.1,fun id h1 h2 h3=>(o3 id (by omega)).trans (hj.1.2 id h1 h2 h3)⟩
  have j1:=ah ((hS3.2 _ (by omega) (by omega) (by omega)).trans ((o2.old _ (by omega)).trans g1));have j2:=ah ((hS3.2 _ (by omega) (by omega) (by omega)).trans ((o2.old _ (by omega)).trans g2));have j4:=ah ((o3 _ (by omega)).trans hj.2.1);have j6:=ah ((o3 _ (by omega)).trans hj.2.2.1);unfold bK at j1;have ps:=iQ hR.n1.2 x2 hR.card;have hin:eF x.parents d.nodes.length:=fun q hq=>by have:=x2.2 q hq;omega
  have hpp:1<=ao (aP d.nodes x):=eD fun c hc=>(oo hin hR.card c hc).1;have hpb:=ps.prod;have hrn:((bB d.nodes x:Nat):Int)=ao (aP d.nodes x):=by unfold bB;omega
  have hvn:(v:Int)<d.nodes.length:=by omega
  have hne:=dJ hx;have ec:=iJ hx;have hkl:=get_lt hv;have hk8:k<8:=by
   have h1:=fY (D:=d.decs) (n:=d.nodes.length);have h2:=hR.n1.2;have h3:k<(dO d.decs d.nodes.length).length:=hkl;omega
  refine W.en (fun E1=>E1 2=.ptr H.next 0 0 /\ E1 3=.ptr (H.next+1) 0 0 /\ E1 4=.ptr (H.next+2) 0 0 /\ E1 6=.ptr (H.next+3) 0 0 /\ E1 7=aa k /\ E1 8=aa v) (by simp only[go_sem,bA,e2,e3,e4,e6]) fun E1 ⟨m2,m3,m4,m6,m7,m8⟩=>?_
  have stop:¬PolOk d p->(H3.upd (H.next+2) (Blk.arr 0 46 [.lit (.int .i64 201)])).get H2.next=some Bb/\Hx.next<=(H3.upd (H.next+2) (Blk.arr 0 46 [.lit (.int .i64 201)])).next/\S (H3.upd (H.next+2) (Blk.arr 0 46 [.lit (.int .i64 201)])) /\
    (H3.upd (H.next+2) (Blk.arr 0 46 [.lit (.int .i64 201)])).get (H.next+2)=some (.arr 0 46 [.lit (.int .i64 201)])/\¬PolOk d p:=fun h =>
   ⟨by rw[ae,SI (by omega)];exact jB,by rw[au];omega,⟨by rw[au];exact hS3.1,fun id h1 h2 h3=>by rw[ae,SI h3];exact hS3.2 id h1 h2 h3⟩,by rw[ae,SK rfl],h⟩
  refine W.vs ?_;simp only[go_sem];refine W.dr 14 [0,0,2,7,15,31,31,127,255,511,31,1055,31,7199] mixed ?_;by_cases c1:(k:Int) >= p.length
  ·simp only[go_sem,m3,m4,m7,j2,j4,c1,aj,ep];exact stop fun h=>by have:=h.len;omega
  obtain⟨l,hl⟩:=get_of_lt (l:=p) (i:=k) (by omega);have hlm:=SE hl;have hlne:=aJ hl;have hkp:(k:Int)<p.length:=by omega
  have hll:=hp.2 l hlm;simp only[go_sem,m2,m3,m7,m8,j1,j2,c1,hkp,hl,hlne,aj];refine⟨.lit (.int .i64 (bB d.nodes x:Nat)),[],bf.pure fun H2=>qH d.nodes v x hx hin ps H2 _ ⟨by rw[hrn];rfl,rfl⟩,?_⟩;by_cases c2:(l.length:Int)=bB d.nodes x;rotate_left
  ·simp only[go_sem,c2,m4,j4,ep];exact stop fun h=>c2 (by have:=(h.row k v x l hv hx hl).1;omega)
  simp only[go_sem,c2,m3,m7,j2,hkp,hl,hlne,aj];refine W.aG 288228177128457216 (by rfl) (fun ρ2 H4=>H4=H3/\∃i:Nat,ρ2 41=aa i/\i<=l.length/\∀a∈l.take i,0<=a/\a<x.card) (fun ρ2 H=>l.length-(iv (ρ2 41)).toNat) ?_ ?_
  ·simp only[go_sem];exact⟨0,rfl,by omega,by simp⟩
  rintro ρ2 H4 ⟨rfl,i,h41,hi,hw⟩;refine W.vs ?_;by_cases hb2:(i:Int)<l.length<;>have hb2':=hb2<;>rw[c2]at hb2'
  ·obtain⟨a,ha⟩:=get_of_lt (l:=l) (i:=i) (by omega);have ham:=SE ha;have hane:=aJ ha;by_cases d1:a<0
   ·simp only[go_sem,h41,hb2,hb2',ha,hane,d1,m4,j4,ep];exact stop fun h=>by have:=(h.row k v x l hv hx hl).2 a ham;omega
   by_cases d2:a >= x.card
   ·simp only[go_sem,h41,hb2,hb2',ha,hane,d1,d2,m2,m4,m8,j1,j4,hvn,hne,ec,ep];exact stop fun h=>by have:=(h.row k v x l hv hx hl).2 a ham;omega
   have w1:=SF ((i:Int)+1) (by omega);simp only[go_sem,h41,hb2,hb2',ha,hane,d1,d2,w1,m2,m8,j1,hvn,hne,ec];refine⟨⟨_,_,_,_,_,_,_,by rw[jB,hBe]⟩,⟨i+1,by simp,by omega,fun w hw'=>?_⟩,by omega⟩;rw[aL ha]at hw';rcases S5.1 hw' with hw'|hw'
   ·exact hw w hw'
   ·obtain rfl:=List.mem_singleton.1 hw';exact⟨by omega,by omega⟩
  ·rw[SH (by omega)]at hw;have w1:=SF ((k:Int)+1) (by omega);simp only[go_sem,h41,hb2',m6,j6,w1,ep];refine⟨by rw[ae,SI (by omega)];exact jB,by rw[au];omega,⟨by rw[au];exact hS3.1,fun id h1 h2 h3=>by rw[ae,SI h2];exact hS3.2 id h1 h2 h3⟩,by rw[ae,SI (by omega),o3 _ (by omega)];exact hj.2.1,by rw[ae,SK rfl];simp,fun j u z hj2 hu hz=>?_⟩;rcases S9 j k with hjk|hjk
   ·exact hj.2.2.2 j u z hjk hu hz
   ·obtain rfl:j=k:=(by omega);rw[hv]at hu;cases hu;rw[hx]at hz;cases hz;exact⟨l,hl,by omega,hw⟩
 ·rw[kY]at hj;have j2:=ah ((hj.1.2 _ (by omega) (by omega) (by omega)).trans ((o2.old _ (by omega)).trans g2));have j4:=ah hj.2.1;have j6:=ah hj.2.2.1;by_cases c3:(p.length:Int)=(az d).length;rotate_left
  ·simp only[go_sem,e3,e4,e6,j2,j4,j6,c3,aj];exact no (fun h=>c3 (by have:=h.len;omega)) _ ((ovS hj.1).upd (by omega) _)
  have hpo:PolOk d p:=⟨by omega,fun k v x l h1 h2 h3=>by
   obtain⟨l',h4,h5⟩:=hj.2.2.2 k v x (get_lt h1) h1 h2;rw[h3]at h4;cases h4;exact h5⟩
  simp only[go_sem,e3,e4,e6,j2,j4,j6,c3,aj];unfold cK at hK;rw[dU hok,dU hpo]at hK;exact ar.aV aE hcl ((ovS hj.1).upd (by omega) _) (.lit _) hK
 ·obtain⟨_,hS,h4,hno⟩:=hs;have j4:=ah h4;simp only[go_sem,e4,j4];exact no hno _ (ovS hS)
def fixC (p:List (List Int))(k r:Nat):Int:=(p.getD k []).getD r 0
theorem Qv (p:List (List Int))(k r b:Nat)(l:List Int)(a:Int)(hl:p[k]?=some l)(ha:l[r]?=some a)(H:AHeap)(hb:H.get b=some (.arr 0 33 [aj p]))(K:ARes->AHeap->Prop)(hK:K (.ret (.lit (.int .i64 a))) H):
  ag prog G0 105 [.lit (.int .i64 k),.lit (.int .i64 r),.ptr b 0 0] H K:=by
 have l0:=ah hb;have h1:(k:Int)<p.length:=by have:=get_lt hl;omega
 have h2:(r:Int)<l.length:=by have:=get_lt ha;omega
 have n1:=aJ hl;have n2:=aJ ha;refine ag.st (n:=13) (rs:=[.tmp 5]) func105 ?_;simp only[go_sem,l0,aj,h1,h2,hl,ha,n1,n2];exact ar.mk (Nat.le_refl _) hK
theorem Qw (p:List (List Int))(k r b:Nat)(l:List Int)(a:Int)(hl:p[k]?=some l)(ha:l[r]?=some a)(H:AHeap)(hlt:b<H.next)(hb:H.get b=some (.arr 0 33 [aj p])):
  bf prog G0 (.clo 105 [] [.ptr b 0 0]) [.lit (.int .i64 k),.lit (.int .i64 r)] H (.lit (.int .i64 a)) [b] :=
 bf.mk (fun i hi=>by obtain rfl:=List.mem_singleton.1 hi;exact hlt) fun H2 h2 _=>Qv p k r b l a hl ha H2 ((h2 b (by simp)).trans hb) _ ⟨rfl,rfl⟩
theorem Du {d:InfP}{p:List (List Int)}(h:PolOk d p){k v r:Nat}{x:NodeP}(hv:(az d)[k]?=some v)(hx:d.nodes[v]?=some x)(hr:r<bB d.nodes x):
  ∃l a,p[k]?=some l/\l[r]?=some a/\fixC p k r=a/\0<=a/\a<x.card:=by
 obtain⟨l,hl⟩:=get_of_lt (l:=p) (i:=k) (by rw[h.len];exact get_lt hv);obtain⟨h1,h2⟩:=h.row k v x l hv hx hl;obtain⟨a,ha⟩:=get_of_lt (l:=l) (i:=r) (by omega);exact⟨l,a,hl,ha,by unfold fixC;rw[bp hl,bp ha],h2 a (SE ha)⟩
def sT:AVal:=.agg [.lit (.int .i64 0),.vec 0 []]
noncomputable def sU (d:InfP)(p:List (List Int)):AVal:=if cK d p=0 then bL d.grain (bG d (fixC p)) else sT
theorem qC {d:InfP}{p:List (List Int)}:cK d p=0↔InfOk d/\PolOk d p:=by
 unfold cK;by_cases h1:InfOk d
 ·by_cases h2:PolOk d p
  ·rw[dU h1,dU h2];exact⟨fun _=>⟨h1,h2⟩,fun _=>rfl⟩
  ·rw[dU h1,eV h2];exact⟨fun h=>by simp at h,fun h=>absurd h.2 h2⟩
 ·rw[eV h1];exact⟨fun h=>by simp at h,fun h=>absurd h.1 h1⟩
theorem Qx (d:InfP)(hf:InfFit d)(p:List (List Int))(hp:ji p)(H:AHeap)(K:ARes->AHeap->Prop)(hK:K (.ret (.tup [sU d p,aa (cK d p)])) H):ag prog G0 61 [cW d,aj p] H K:=by
 refine ag.clo ⟨_,func61,rfl,rfl⟩ fun hcl=>?_;refine ag.st (n:=17) (rs:=[.cell 4 81,.tmp 5]) func61 ?_;simp only[go_sem,gI,bK];obtain⟨H1,hH1⟩:∃H1,H1=ext H [.arr 0 38 [.lit (.int .i64 d.grain),.vec d.nodes.length (aF d.nodes),.lit (.int .u64 (d.decs:Int)),.vec d.utils.length (aO d.utils)],.arr 0 33 [aj p],.arr 0 81 [.lit (.int .i64 0),.lit (.slice none 0 0)]]:=⟨_,rfl⟩
 have g1:=df hH1
 have g2:=gE hH1 1 rfl
 have g3:=gE hH1 2 rfl
 have l1:=ah g1;have l2:=ah g2;have l3:=ah g3;have n1:H1.next=H.next+3:=hH1▸rfl
 have o1:Over H H1:=hH1▸.ext _ _
 rw[<- hH1];refine aw.clo (sS d hf p hp _ _ ⟨trivial,?_⟩);by_cases hz:cK d p=0;rotate_left
 ·have hcell:(AVal.lit (.int .i64 (cK d p))).cells=[.lit (.int .i64 (cK d p))]:=rfl;simp only[go_sem,hz,l3];have ef:sU d p=sT:=SI hz;rw[ef]at hK;refine ar.aV (v':=.tup [sT,aa (cK d p)]) aE hcl (o1.upd (by omega) _) (.tup rfl fun i hi _=>?_) hK
  match i,hi with
  |0,_ =>
   refine .agg rfl fun i hi _=>?_
   match i,hi with
   |0,_=>exact .lit _
   |1,_=>exact .nil
  |1,_=>exact .lit _
 obtain⟨hok,hpo⟩:=qC.1 hz;rw[hz]at hK ⊢;simp only[go_sem,l1];refine aw.clo (Dr d hf hok.n (fixC p) _ [H.next+1] _ (fun i hi=>by obtain rfl:=List.mem_singleton.1 hi;omega) rfl rfl (fun k r v x H2 hv hx hr ov=>?_) _ ⟨trivial,?_⟩)
 ·obtain⟨l,a,hl,ha,he,hb⟩:=Du hpo hv hx hr;rw[he];exact⟨hb,Qw p k r (H.next+1) l a hl ha H2 (by have:=ov.next;omega) ((ov.old _ (by omega)).trans g2)⟩
 ·simp only[go_sem,l3,bL,cE];have ef:sU d p=bL d.grain (bG d (fixC p)):=SK hz;rw[ef]at hK;refine ar.aV (v':=.tup [bL d.grain (bG d (fixC p)),aa 0]) aE hcl (o1.upd (by omega) _) (.tup rfl fun i hi _=>?_) hK
  match i,hi with
  |0,_ =>
   refine .agg rfl fun i hi _=>?_
   match i,hi with
   |0,_=>exact .lit _
   |1,_=>exact qJ _
  |1,_=>exact .lit _
end Go.Proofs
namespace Go.Hx
variable {P:Program} {G:Nat->Option (List AVal)} {n:Nat} {rd:Option Nat} {Q:AX->St->Prop}
def vV (N:Nat)(H1 H2:AHeap):Prop:=H1.next<=H2.next/\∀id,id≠N->id<H1.next->H2.get id=H1.get id
def D8 (P:Program)(G:Nat->Option (List AVal))(f:FuncId)(first cap:List AVal)(xs:List (List AVal))(N:Nat)(S0:AHeap->Prop)(S:Nat->AHeap->Prop):Prop :=
 ∀(idy:Nat) (J:Nat->AHeap->Prop) (Stop:AHeap->Prop) (H:AHeap) (K:ARes->AHeap->Prop),H.next=N ->
  (∀k H1,J k H1->S0 H1)->(∀k H1 H2,J k H1->vV N H1 H2->J k H2)->J 0 H ->
  (∀k x H1 K1,xs[k]?=some x->J k H1->S k H1->N<H1.next->(∀H',J (k+1) H'->S k H'->H1.next<=H'.next->K1 (.ret (.lit (.bool true))) H')->(∀H',Stop H'->H1.next<=H'.next->K1 (.ret (.lit (.bool false))) H')->aw P G (.yld idy) x H1 K1) ->
  (∀H',J xs.length H'->N<=H'.next->K (.ret (.tup [])) H') ->
  (∀H',Stop H'->N<=H'.next->K (.ret (.tup [])) H') ->
  ag P G f (first++[.yld idy]++cap) H K
theorem W.tv {g:Operand}{ps:Array Tmp}{asg body:Code}{ρ:Env}{H:AHeap}{f:FuncId}{first cap:List AVal}{xs:List (List AVal)}{S0:AHeap->Prop}{S:Nat->AHeap->Prop}(hg:aB G ρ g=.clo f first cap)
  (hit:D8 P G f first cap xs (H.next+1) S0 S) (J:Nat->AHeap->Prop) (Stop:AX->AHeap->Prop) (hS:∀k H1,J k H1->S0 H1) (hJw:∀k H1 H2,J k H1->vV (H.next+1) H1 H2->J k H2) (hlow:∀k H1,J k H1->H.next<H1.next)
  (hJu:∀k H1 b,J k H1->J k (H1.upd H.next b)) (hSu:∀c H1 b,Stop c H1->Stop c (H1.upd H.next b)) (hSk:∀k H1 b,S k H1->S k (H1.upd H.next b))
  (hJ0:∀b,J 0 (ext H [b])) (hps:ps.toList.all (fun t=>decide (t<n))=true) (hxl:∀x∈xs,x.length=ps.size)
  (hrd:∀k H1,J k H1->fT H1 rd) (hrd2:∀c H1,Stop c H1->fT H1 rd)
  (hround:∀k x H1 B Bb,xs[k]?=some x->J k H1->S k H1->H.next+1<H1.next->H1.get H.next=some B->(∃st pd n' en ps' as' bo,Bb=Blk.loop st pd n' en ps' as' bo) ->
   W P G n (some H.next) asg (ir P G n H.next B Bb H1.next body (fun H'=>J (k+1) H'/\S k H') Stop) ⟨fV (bA ρ n) (ps.toList.zip x),H1⟩)
  (hend:∀H',J xs.length H'->H.next+1<=H'.next->Q .normal ⟨ρ,H'⟩)
  (hret:∀H',Stop .ret H'->H.next+1<=H'.next->Q .ret ⟨ρ,H'⟩) (hexit:∀i H',Stop (.exit i) H'->H.next+1<=H'.next->Q (.exit i) ⟨ρ,H'⟩):
  W P G n rd (.rangeFunc g ps asg body) Q ⟨ρ,H⟩:=by
 refine W.rangeFunc (s:=⟨ρ,H⟩) hg ⟨_,ue _ _,?_⟩;obtain⟨B,hB⟩:∃B,B=Blk.loop .ready none n ρ ps asg body:=⟨_,rfl⟩
 obtain⟨Bb,hBb⟩:∃B,B=Blk.loop .busy none n ρ ps asg body:=⟨_,rfl⟩
 have nx:(ext H [B]).next=H.next+1:=rfl;show ag P G f (first++[.yld H.next]++cap) (ext H [Blk.loop .ready none n ρ ps asg body]) (xj rd Q ρ H.next);rw[<- hB];refine hit H.next (fun k H1=>H1.get H.next=some B/\J k H1) (fun H1=>∃c pend,H1.get H.next=some (.loop .done (some pend) n ρ ps asg body)/\Stop c H1/\((c=.ret/\pend=.ret)\/∃i,c=.exit i/\pend=.exit i)) _ _ nx
  (fun k H1 h=>hS k H1 h.2) (fun k H1 H2 h hw=>⟨(hw.2 _ (by omega) (hlow _ _ h.2)).trans h.1,hJw _ _ _ h.2 hw⟩) ⟨bX,hJ0 B⟩ (fun k x H1 K1 hx hj hs hn hgo hst=>?_) (fun H' hj hn=>?_) (fun H' hj hn=>?_)
 ·have hxm:=hxl x (SE hx);refine aw.yld (hj.1.trans (congrArg some hB)) hxm hps ?_;refine(hround k x H1 B Bb hx hj.2 hs hn hj.1 ⟨_,_,_,_,_,_,_,hBb⟩).mono fun e s1 h1=>?_;cases e with
  |normal =>
   obtain⟨a1,a2⟩:=h1;refine⟨Bb,by rw[a1,hB,hBb];rfl,?_⟩;refine a2.mono fun e2 s2 h2=>?_;cases e2 with
   |normal =>
    obtain⟨b1,b2,b3,b4⟩:=h2;exact⟨B,by rw[b1,hB,hBb];rfl,hgo _ ⟨by rw[ae,SK rfl],hJu _ _ _ b3⟩ (hSk _ _ _ b4) b2⟩
   |ret =>
    obtain⟨b1,b2,b3⟩:=h2;exact⟨.loop .done (some .ret) n ρ ps asg body,by rw[b1,hBb];rfl,hst _ ⟨.ret,.ret,by rw[ae,SK rfl],hSu _ _ _ b3,.inl ⟨rfl,rfl⟩⟩ b2⟩
   |exit i =>
    obtain⟨b1,b2,b3⟩:=h2;exact⟨.loop .done (some (.exit i)) n ρ ps asg body,by rw[b1,hBb];rfl,hst _ ⟨.exit i,.exit i,by rw[ae,SK rfl],hSu _ _ _ b3,.inr ⟨i,rfl,rfl⟩⟩ b2⟩
   |_=>exact h2.elim
  |_=>exact h1.elim
 ·refine⟨hrd _ _ hj.2,(none,.loop .exhausted none n ρ ps asg body),by rw[hj.1,hB];rfl,?_⟩;exact hend _ (hJu _ _ _ hj.2) hn
 ·obtain⟨c,pend,h1,h2,h3⟩:=hj;refine⟨hrd2 _ _ h2,(some pend,.loop .exhausted (some pend) n ρ ps asg body),by rw[h1];rfl,?_⟩;rcases h3 with ⟨rfl,rfl⟩|⟨i,rfl,rfl⟩
  ·exact hret _ (hSu _ _ _ h2) hn
  ·exact hexit i _ (hSu _ _ _ h2) hn
end Go.Hx
