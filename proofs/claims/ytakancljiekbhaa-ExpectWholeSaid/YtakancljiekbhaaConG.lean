/- Own work: contracts. -/
import Derived.Test.YtakancljiekbhaaConA
import Derived.Test.YtakancljiekbhaaConF
import Derived.Test.YtakancljiekbhaaConE
set_option linter.all false
set_option maxRecDepth 100000
namespace Go.Proofs
open Go.Hx
set_option maxHeartbeats 2000000 in
theorem QU (g:Int)(ns:List NodeP)(hf:jd ns)(H:AHeap)(K:ARes->AHeap->Prop)(hK:K (.ret (.lit (.bool true))) H):ae Try.prog G0 21 [bP g ns,bP g ns] H K:=by
 refine ae.clo ⟨_,Try.func21,rfl,rfl⟩ fun hcl=>?_;have hl:=hf.1;refine ae.cX (n:=81) (rs:=[.tmp 4]) Try.func21 rfl rfl rfl (by decide) (by simp) ?_;refine W.sq ?_;simp only[go_sem,bP,de];obtain⟨R,hR⟩:∃ R,R=ext H [.arr 0 35 [.lit (.int .i64 g),.vec ns.length (ar ns)],.arr 0 35 [.lit (.int .i64 g),.vec ns.length (ar ns)]]:=⟨_,rfl⟩
 have oR:Over H R:=by rw[hR];exact .ext _ _
 have nR:R.next=H.next+2:=by rw[hR];rfl
 have l0:R.live H.next 0=some (35,[.lit (.int .i64 g),.vec ns.length (ar ns)]):=by rw[hR];exact ao (dV ..)
 have l1:R.live (H.next+1) 0=some (35,[.lit (.int .i64 g),.vec ns.length (ar ns)]):=by rw[hR];exact ao (bk H _ 1 (by simp))
 rw[<- hR];clear hR;refine W.en (fun E=>E 2=.ptr H.next 0 0 /\ E 3=.ptr (H.next+1) 0 0) (by simp only[go_sem]) fun E ⟨e2,e3⟩=>?_
 refine W.sq ?_;simp only[go_sem,e2,e3,l0,l1];refine W.seq ?_;refine W.sq ?_;simp only[go_sem];refine W.block ?_;refine W.env fun E1 hE1=>?_;have f2:E1 2=.ptr H.next 0 0:=by rw[hE1];simp only[go_sem,e2]
 have f3:E1 3=.ptr (H.next+1) 0 0:=by rw[hE1];simp only[go_sem,e3]
 have f5:E1 5=aa 0:=by rw[hE1];simp only[go_sem]
 clear hE1;refine W.aI 2417851639229258341024240 (by rfl) (fun ρ Hx=>∃ k:Nat,ρ 5=aa k/\k<=ns.length/\Over R Hx) (fun ρ H=>ns.length - (iv (ρ 5)).toNat) ?_ ?_
 ·simp only[go_sem,f5];exact⟨0,rfl,by omega,.refl _⟩
 rintro ρ Hx ⟨k,h5,hk,ov⟩;refine W.en (fun E2=>E2 2=.ptr H.next 0 0 /\ E2 3=.ptr (H.next+1) 0 0 /\ E2 5=aa k) (by simp only[go_sem,f2,f3,h5]) fun E2 ⟨a2,a3,a5⟩=>?_
 have x0:=(ov.live (g:=0) (by omega:H.next<R.next)).trans l0;have x1:=(ov.live (g:=0) (by omega:H.next+1<R.next)).trans l1;by_cases hb:(k:Int)<ns.length;rotate_left
 ·refine W.vs ?_;simp only[go_sem,a2,a5,x0,hb];refine W.vs ?_;simp only[go_sem];exact av.cK aZ hcl (oR.trans ov) (.lit _) hK
 obtain⟨x,hx⟩:=get_of_lt (l:=ns) (i:=k) (by omega);obtain⟨g1,g2,g3⟩:=hf.2 x (Ry hx);have p0:=l9 hx;have pne:=fZ hx;have p1:k*3+3<=(ar ns).length:=by rw[fY];omega
 have w1:=Rw ((k:Int)+1) (by omega);refine W.sq ?_;simp only[go_sem,a2,a5,x0,hb];refine W.seq (W.block (W.seq ?_));obtain⟨zb,hzb⟩:∃ zb:Blk,zb=.arr 0 69 [.lit (.int .i64 0),.lit (.slice none 0 0),.lit (.slice none 0 0)]:=⟨_,rfl⟩
 have z0:(ext (ext Hx [.arr 0 69 [.lit (.int .i64 0),.lit (.slice none 0 0),.lit (.slice none 0 0)]]) [.arr 0 69 [.lit (.int .i64 0),.lit (.slice none 0 0),.lit (.slice none 0 0)]]).live Hx.next 0=some (69,[.lit (.int .i64 0),.lit (.slice none 0 0),.lit (.slice none 0 0)]):=by rw[kA];exact ao (bk Hx _ 0 (by simp))
 have z1:∀ b,((ext (ext Hx [.arr 0 69 [.lit (.int .i64 0),.lit (.slice none 0 0),.lit (.slice none 0 0)]]) [.arr 0 69 [.lit (.int .i64 0),.lit (.slice none 0 0),.lit (.slice none 0 0)]]).upd Hx.next b).live (Hx.next+1) 0=some (69,[.lit (.int .i64 0),.lit (.slice none 0 0),.lit (.slice none 0 0)]):=fun b=>by rw[mn (by omega),kA];exact ao (bk Hx _ 1 (by simp))
 have hnx:=ov.next;refine W.draw 13 [0,1,0,7,15,0,32,0,224,480,0,0,3103] Try.mixed (by kernel_rfl) (by kernel_rfl) ?_;simp only[go_sem,a2,a3,a5,x0,x1,hb,p0,p1,pne,aH,z0,z1];refine⟨by repeat' (first|refine And.intro ?_ ?_|(intro x hx;omega)),by repeat' (first|refine And.intro ?_ ?_|(intro x hx;omega)),?_⟩;refine⟨by repeat' (first|refine And.intro ?_ ?_|(intro x hx;omega)),?_⟩;obtain⟨H2,hH2⟩:∃ H2,H2=((ext (ext Hx [.arr 0 69 [.lit (.int .i64 0),.lit (.slice none 0 0),.lit (.slice none 0 0)]]) [.arr 0 69 [.lit (.int .i64 0),.lit (.slice none 0 0),.lit (.slice none 0 0)]]).upd Hx.next (.arr 0 69 [.lit (.int .i64 x.card),.vec x.parents.length (ints x.parents),.vec x.rows.length (x.rows.map ab)])).upd (Hx.next+1) (.arr 0 69 [.lit (.int .i64 x.card),.vec x.parents.length (ints x.parents),.vec x.rows.length (x.rows.map ab)]):=⟨_,rfl⟩
 have o2:Over Hx H2:=⟨by rw[hH2,aL,aL,kA,cJ];omega,fun i h=>by rw[hH2,aj,RB (by omega),aj,RB (by omega),kA];exact dI _ _ _ h⟩
 have q0:H2.live Hx.next 0=some (69,[.lit (.int .i64 x.card),.vec x.parents.length (ints x.parents),.vec x.rows.length (x.rows.map ab)]):=by rw[hH2,mn (by omega)];exact yC
 have q1:H2.live (Hx.next+1) 0=some (69,[.lit (.int .i64 x.card),.vec x.parents.length (ints x.parents),.vec x.rows.length (x.rows.map ab)]):=by rw[hH2];exact yC
 refine W.en (fun E3=>E3 2=.ptr H.next 0 0 /\ E3 3=.ptr (H.next+1) 0 0 /\ E3 5=aa k /\ E3 6=.ptr Hx.next 0 0 /\ E3 7=.ptr (Hx.next+1) 0 0) (by simp only[go_sem,a2,a3,a5]) fun E3 ⟨b2,b3,b5,b6,b7⟩=>?_
 rw[<- hH2];clear hH2;refine W.seq ?_;refine W.sq ?_;simp only[go_sem,b6,b7,q0,q1];refine az.clo (DC x.parents x.parents (by omega) _ _ ⟨trivial,?_⟩);simp only[go_sem,b6,b7,q0,q1];refine W.vs ?_;simp only[go_sem];refine W.sq ?_;simp only[go_sem];refine W.block ?_;refine W.env fun E4 hE4=>?_;have c2:E4 2=.ptr H.next 0 0:=by rw[hE4];simp only[go_sem,b2]
 have c3:E4 3=.ptr (H.next+1) 0 0:=by rw[hE4];simp only[go_sem,b3]
 have c5:E4 5=aa k:=by rw[hE4];simp only[go_sem,b5]
 have c6:E4 6=.ptr Hx.next 0 0:=by rw[hE4];simp only[go_sem,b6]
 have c7:E4 7=.ptr (Hx.next+1) 0 0:=by rw[hE4];simp only[go_sem,b7]
 have c8:E4 8=aa 0:=by rw[hE4];simp only[go_sem]
 clear hE4;refine W.aI 2417847027543239922024720 (by rfl) (fun ρ2 Hy=>Hy=H2/\∃ j:Nat,ρ2 8=aa j/\j<=x.rows.length) (fun ρ2 H=>x.rows.length - (iv (ρ2 8)).toNat) ?_ ?_
 ·simp only[go_sem,c8];exact⟨0,rfl,by omega⟩
 rintro ρ2 Hy ⟨rfl,j,h8,hj⟩;refine W.en (fun E5=>E5 5=aa k /\ E5 6=.ptr Hx.next 0 0 /\ E5 7=.ptr (Hx.next+1) 0 0 /\ E5 8=aa j) (by simp only[go_sem,c5,c6,c7,h8]) fun E5 ⟨d5,d6,d7,d8⟩=>?_
 by_cases hc:(j:Int)<x.rows.length;rotate_left
 ·refine W.vs ?_;simp only[go_sem,d6,d8,q0,hc];refine W.vs ?_;simp only[go_sem,d5,w1];exact⟨So ov.next o2.next,⟨k+1,rfl,by omega,ov.trans o2⟩,by rw[h5];simp only[aa,aM];omega⟩
 obtain⟨l,hl⟩:=get_of_lt (l:=x.rows) (i:=j) (by omega);have hll:=g3 l (Ry hl);have hlg:(x.rows.map ab)[j]?=some (ab l):=by rw[List.getElem?_map,hl];rfl
 have hln:=aK hl;have w2:=Rw ((j:Int)+1) (by omega);refine W.sq ?_;simp only[go_sem,d6,d8,q0,hc];refine W.seq (W.block (W.seq ?_));refine W.draw 10 [0,1,0,7,15,0,32,0,224,480] Try.mixed (by kernel_rfl) (by kernel_rfl) ?_;simp only[go_sem,d6,d7,d8,q0,q1,hc,hlg,hln];refine az.clo (DC l l (by omega) _ _ ⟨trivial,?_⟩);simp only[go_sem];refine W.vs ?_;simp only[go_sem];refine W.vs ?_;simp only[go_sem,d8,w2];exact⟨⟨j+1,rfl,by omega⟩,by rw[h8];simp only[aa,aM];omega⟩
theorem Nf {cs:List Int}(hc:∀ c∈cs,1<=c)(xs:List (List Int)){ps:List Nat}(hl:ps.length=cs.length)(g least:Int):∃ ns,kf cs xs ps g 0 least ps.length ns:=by
 refine⟨(List.range ps.length).map fun v=>(⟨cs.getD v 0,cG ps.length (ps.getD v 0),(List.range (aw (aA cs (cG ps.length (ps.getD v 0)))).toNat).map fun j=>jF least (bJ g least (fM cs (cG ps.length (ps.getD v 0)) v xs 0 j)) (fM cs (cG ps.length (ps.getD v 0)) v xs 0 j)⟩:NodeP),by simp,fun v s x hs hx=>?_⟩;have hv:=get_lt hs;rw[List.getElem?_map,Sm hv]at hx;obtain rfl:=Option.some.inj hx;simp only[aO hs];obtain⟨c,hcv⟩:=get_of_lt (l:=cs) (i:=v) (by omega);have hc1:=hc c (Ry hcv);refine⟨rfl,rfl,?_,fun j r hj=>?_⟩
 ·have:=jH (l:=aA cs (cG ps.length s)) fun c hcm=>by
   obtain⟨q,hq,rfl⟩:=RI.1 hcm;have:=Ct q hq;obtain⟨d,hd⟩:=get_of_lt (l:=cs) (i:=q.toNat) (by omega);rw[aO hd];exact hc d (Ry hd)
  show (((List.range _).map _).length:Int)=_;rw[RJ,Sn];omega
 ·have hjl:=get_lt hj;rw[RJ,Sn]at hjl;rw[List.getElem?_map,Sm hjl]at hj;obtain rfl:=Option.some.inj hj;obtain⟨q,hq⟩:=qY least (bJ g least (fM cs (cG ps.length s) v xs 0 j)) (c:=fM cs (cG ps.length s) v xs 0 j) (by rw[ue,aO hcv];omega);have e:=kI hq;rw[e]at hq;exact hq
set_option maxHeartbeats 1000000 in
theorem Ng (l:List Int)(hl:(l.length:Int)<2 ^ 40)(hr:∀ k,k<=l.length->-(2 ^ 62)<(l.take k).sum/\(l.take k).sum<2 ^ 62)(H:AHeap)(K:ARes->AHeap->Prop)(hK:K (.ret (aa l.sum)) H):
  ae Try.prog G0 32 [ab l] H K:=by
 refine ae.bH (n:=17) (rs:=[.tmp 2]) Try.func32 rfl rfl rfl (by decide) (by kernel_rfl) (by simp) ?_;simp only[go_sem];refine W.aI 65320 (by rfl) (fun ρ H'=>H'=H/\∃ k:Nat,ρ 8=aa k/\k<=l.length/\ρ 3=aa (l.take k).sum) (fun ρ H=>l.length - (iv (ρ 8)).toNat) ?_ ?_
 ·simp only[go_sem];exact⟨0,rfl,by omega,rfl⟩
 rintro ρ H' ⟨rfl,k,h8,hk,h3⟩;refine W.vs ?_;by_cases hb:(k:Int)<l.length
 ·obtain⟨x,hx⟩:=get_of_lt (l:=l) (i:=k) (by omega);have hxn:=aK hx;have hs:(l.take (k+1)).sum=(l.take k).sum+x:=by rw[aP hx];simp
  have h1:=hr (k+1) (by omega);rw[hs]at h1;have w1:=Rw ((k:Int)+1) (by omega);have w2:=Rw ((l.take k).sum+x) (by omega);simp only[go_sem,h8,h3,hb,hx,hxn,w1,w2];exact⟨⟨k+1,by simp,by omega,by rw[hs]⟩,by omega⟩
 ·simp only[go_sem,h8,h3,hb];rw[RA (by omega)];exact av.mk (Nat.le_refl _) hK
theorem BZ {g:Int}{ns:List NodeP}(h:NetOk g ns)(h6:ns.length<=6){v:Nat}{x:NodeP}(hx:ns[v]?=some x){xs:List (List Int)}(hx40:xs.length<=64)(hr:∀ r∈xs,r.length=ns.length)(H:AHeap):
  ae Try.prog G0 32 [ab (bI ns x v xs)] H fun r H'=>r=.ret (aa (720*xs.length))/\H'=H:=by
 obtain⟨hl,hb⟩:=oS h h6 hx xs hr;have hrc:=qL h hx;refine Ng _ (by omega) (fun k hk=>?_) H _ ⟨by rw[MK h h6 hx xs hr],rfl⟩;have:∀ l:List Int,(∀ y∈l,0<=y/\y<=46080)->0<=l.sum/\l.sum<=46080*l.length:=by
  intro l
  induction l with
  | nil=>intro _;simp
  | cons a l ih =>
   intro hh;have h1:=hh a (by simp);have h2:=ih fun y hy=>hh y (by simp [hy]);rw[RZ,List.length_cons];omega
 have h1:=this ((bI ns x v xs).take k) fun y hy=>by have:=hb y (RS hy);omega
 rw[RH]at h1;omega
theorem Nh {g:Int}{ns:List NodeP}(h:NetOk g ns)(h6:ns.length<=6){xs:List (List Int)}(hd:DataOk (ah ns) xs)(hw:∀ r∈xs,bE (ah ns) r)(least:Int):
  ∃ (g':Int) (ns':List NodeP),(∀ Hz,ae Try.prog G0 33 [dM (ah ns) xs,cP (aT ns),aa g,aa 0,aa least] Hz fun r H'=>r=.ret (.tup [bP g' ns',aa (if im g ns least=true then 0 else 2)])/\H'=Hz)/\(im g ns least=true->eH ns xs=true->g'=g/\ns'=jz g least ns xs):=by
 have hsl:(aT ns).length=ns.length:=by simp [aT]
 have hn:=h.n1;have hgr:=M4 h;have hx40:=hd.x1;have hp64:∀ p∈aT ns,p<2 ^ 64:=fun p hp=>by
  have:=hgr.2.1 p hp;have:2 ^ (ah ns).length<=2 ^ 64:=R8 (by decide) (by rw[bA];omega);omega
 have hfd:j9 (ah ns) xs:=xO (by rw[bA];omega) (by omega) fun r hr=>by rw[(hw r hr).1,bA];omega
 obtain⟨fs,hfs⟩:=Nf (gO h) xs (ps:=aT ns) (by rw[hsl,bA]) g least;by_cases hf:im g ns least=true
 ·have e0:iX (ah ns) xs (aT ns) g 0 least=0:=Cz (tY hd) ⟨hgr,(BX h least).2 ((mX h).1 hf)⟩;refine⟨g,fs,fun Hz=>CC _ xs hfd (aT ns) (by rw[hsl];omega) hp64 g 0 least Hz _ fun g' ns' h1 _=>?_,fun _ hp=>⟨rfl,?_⟩⟩
  ·obtain⟨rfl,hk⟩:=h1 e0;rw[hk.unique hfs,e0,RC hf];exact⟨rfl,rfl⟩
  ·refine hfs.unique (M7 h h6 ((mX h).1 hf) (by omega) hw fun r hr h0=>?_);unfold eH at hp;exact of_decide_eq_true hp (h0 ▸ RI.2 ⟨r,hr,rfl⟩)
 ·have e2:iX (ah ns) xs (aT ns) g 0 least=2:=Cy (tY hd) fun hh=>hf ((mX h).2 ((BX h least).1 hh.2));refine⟨0,[],fun Hz=>CC _ xs hfd (aT ns) (by rw[hsl];omega) hp64 g 0 least Hz _ fun g' ns' _ h1=>?_,fun hh=>absurd hh hf⟩;obtain⟨rfl,rfl⟩:=h1 (by rw[e2];decide);rw[e2,RB hf];exact⟨rfl,rfl⟩
theorem Ni {S:Nat->Prop}{H:AHeap}{nx n:Nat}(ws:List Int):Fz S H nx (.vec n (ef ws)) (.vec n (ef ws)):=by
 have key:∀ c,c∈ef ws->Fz S H nx c c:=fun c hc=>by
  unfold ef at hc;obtain⟨_,_,rfl⟩:=RI.1 hc;exact .lit _
 exact .vec rfl fun i h _=>key _ (Sv h)
theorem B0 {g:Int}{ns:List NodeP}{cs:List Int}{xs:List (List Int)}(hl:fA g ns cs xs=0){v:Nat}{x:NodeP}(hx:ns[v]?=some x):
  oW g ns cs xs v=(if eH ns xs=true then 0 else 7)/\oY g ns cs xs v=(if eH ns xs=true then bI ns x v xs else []):=by
 have hv:=get_lt hx;constructor
 ·unfold oW;rw[RB (fun h=>h hl),RB (by omega)]
 ·unfold oY;rw[RB (fun h=>h hl),RB (by omega),Int.toNat_natCast,aO hx]
set_option maxHeartbeats 8000000 in
theorem Nj (g0:Int)(ps:List DrP)(ord:List Int)(hg0:U8 g0)(hps:∀ x∈ps,x.Ok)(hpl:(ps.length:Int)<2 ^ 63)(hol:(ord.length:Int)<2 ^ 63)(ho8:∀ x∈ord,U8 x)
  (cw ca cr cn:Int) (ws ms:List Int) (hws:∀ x∈ws,0<=x/\x<65536) (hms:∀ x∈ms,0<=x/\x<256) (hwl:(ws.length:Int)<2 ^ 63) (hml:(ms.length:Int)<2 ^ 63)
  (bw ba bn:Int) (u:Int) (hu:0<=u/\u<256) (H:AHeap) (K:ARes->AHeap->Prop) (hK:∀ H',H.next<=H'.next->K (.ret (.lit (.bool true))) H'):
  ae Try.prog G0 8 [.agg (qQ g0 ps ord cw ca cr cn ws ms bw ba bn),.lit (.int .u8 u)] H K:=by
 refine ae.cX (n:=237) (rs:=[.tmp 4]) Try.func8 rfl rfl rfl (by decide) (by simp) ?_;refine W.sq ?_;simp only[go_sem,qQ];obtain⟨H1,hH1⟩:∃ H1,H1=ext H [.arr 0 32 (qQ g0 ps ord cw ca cr cn ws ms bw ba bn)]:=⟨_,rfl⟩
 have b0:H1.get H.next=some (.arr 0 32 [.lit (.int .u8 g0),.vec ps.length (eL ps),.vec ord.length (aX ord),.lit (.int .u8 cw),.lit (.int .u8 ca),.lit (.int .u8 cr),.lit (.int .i64 cn),.vec ws.length (ef ws),.vec ms.length (aX ms),.lit (.int .u8 bw),.lit (.int .u8 ba),.lit (.int .i64 bn)]):=by rw[hH1];exact dV ..
 have n1:H1.next=H.next+1:=by rw[hH1];rfl
 have o1:Over H H1:=by rw[hH1];exact .ext _ _
 refine W.en (fun E=>E 1=.lit (.int .u8 u) /\ E 2=.ptr H.next 0 0) (by simp only[go_sem]) fun E ⟨e1,e2⟩=>?_
 show W _ _ _ _ _ _ ⟨E,ext H [.arr 0 32 (qQ g0 ps ord cw ca cr cn ws ms bw ba bn)]⟩;rw[<- hH1];clear hH1;have l0:=ao b0;refine W.sq ?_;simp only[go_sem];refine az.clo (Rk _ _ ⟨trivial,?_⟩);simp only[go_sem];refine W.sq ?_;simp only[go_sem,e2,l0];refine az.clo (P1 g0 ps ord hg0 hps hpl hol ho8 _ _ fun g ns N H2 o2 hN1 hN2 hN hok hn5 hp3 hc2=>⟨trivial,?_⟩);simp only[go_sem];have o2n:=o2.next;have hob:(ext H2 [.arr 0 35 [.lit (.int .i64 g),.own N 0 0 ns.length 3]]).get H2.next=some (.arr 0 35 [.lit (.int .i64 g),.own N 0 0 ns.length 3]):=cq;refine W.ET (dv.eC aZ (rk:=N) (ob:=H2.next) (cells':=[.lit (.int .i64 g),.vec ns.length (ar ns)]) hob (by omega) rfl (fun i hi _=>?_)) (Nat.le_refl _) trivial ?_
 ·match i,hi with
  | 0,_=>exact .lit _
  | 1,_=>exact .frz (cells:=ar ns) rfl (by show (ext H2 _).get N=_;rw[dI _ _ _ hN2];exact hN) (fY ns) fun j h1 h2 h3=>by simp only[Nat.zero_add];exact MH ns _ (Sv _)
 obtain⟨H3,hH3⟩:∃ H3,H3=(ext H2 [.arr 0 35 [.lit (.int .i64 g),.own N 0 0 ns.length 3]]).eC N H2.next (.arr 0 35 [.lit (.int .i64 g),.vec ns.length (ar ns)]):=⟨_,rfl⟩
 have n3:H3.next=H2.next+1:=by rw[hH3];rfl
 have g3:H3.get H.next=H1.get H.next:=by
  rw[hH3,yE (by omega) (by omega),dI _ _ _ (by omega)];exact o2.old _ (by omega)
 have gn:H3.get H2.next=some (.arr 0 35 [.lit (.int .i64 g),.vec ns.length (ar ns)]):=by rw[hH3];exact yD (by omega)
 refine W.en (fun E1=>E1 1=.lit (.int .u8 u) /\ E1 2=.ptr H.next 0 0 /\ E1 5=.ptr H2.next 0 0) (by simp only[go_sem,e1,e2]) fun E1 ⟨f1,f2,f5⟩=>?_
 clear e1 e2;rw[<- hH3];clear hH3 hob;have ln:=ao gn;have ls:=ao (g3.trans b0);have nn8:=hok.n1.2;have nn1:=hok.n1.1;have sm:=MI hok hp3;have h6:ns.length<=6:=by omega
 have hc4:∀ y∈ns,1<=y.card/\y.card<=4:=fun y hy=>(hok.node y hy).1;obtain⟨least,hle⟩:∃ q:Int,q=u % 2:=⟨_,rfl⟩
 have hl01:0<=least/\least<=1:=by omega
 have tm:u.tmod 2=least:=by rw[hle];exact Sx hu.1
 have wl1:=UJ least (by omega);have wl2:=Rw least (by omega);refine W.sq ?_;simp only[go_sem,f1,tm,wl2];refine W.sq ?_;simp only[go_sem,f2,f5,ls,ln];have fzA:∀ (Hq:AHeap) (i:Nat) (h:i<[AVal.agg [.lit (.int .i64 g),.vec ns.length (ar ns)],.vec ws.length (ef ws),.lit (.slice none 0 0)].length) (h':i<[bP g ns,.vec ws.length (ef ws),.vec 0 (aX [])].length),Fz (fun _=>False) Hq Hq.next [AVal.agg [.lit (.int .i64 g),.vec ns.length (ar ns)],.vec ws.length (ef ws),.lit (.slice none 0 0)][i] [bP g ns,.vec ws.length (ef ws),.vec 0 (aX [])][i]:=fun Hq i h h' =>
  match i,h with
  | 0,_=>.agg rfl fun i hi _=>match i,hi with
   | 0,_=>.lit _
   | 1,_=>rB _
  | 1,_=>Ni _
  | 2,_=>.nil
 refine az.clo (ae.Rh (args':=[bP g ns,.vec ws.length (ef ws),.vec 0 (aX [])]) aZ rfl (fzA _) (BM g ns hok.n1 hc4 hok.size ws [] hws (by simp) hwl (by simp) _ _ ⟨trivial,?_⟩));have hlw:=BV hok hn5 hc2 ws [];have hls:=BV hok hn5 hc2 ws ms;have hfw:=M9 hok ws;have hpw:=Nd hok ws ms;obtain⟨xw,hxw⟩:∃ xs,xs=fL ns ws []:=⟨_,rfl⟩
 obtain⟨xs,hxs⟩:∃ xs,xs=fL ns ws ms:=⟨_,rfl⟩
 rw[<- hxw]at hlw hfw hpw ⊢;rw[<- hxs]at hls hpw;have xwl:xw.length<=12:=by rw[hxw];unfold fL;rw[RJ,Sn];omega
 have xsl:xs.length<=12:=by rw[hxs];unfold fL;rw[RJ,Sn];omega
 obtain⟨_,dkw,_⟩:=qO hlw;obtain⟨_,dks,_⟩:=qO hls;obtain⟨_,_,hrw⟩:=tU hlw;obtain⟨_,_,hrs⟩:=tU hls;have fitN:jd ns:=sm.fit (by omega);have fitW:j9 (ah ns) xw:=xO (by rw[bA];omega) (by omega) fun r hr=>by rw[hrw r hr];omega
 have fitS:j9 (ah ns) xs:=xO (by rw[bA];omega) (by omega) fun r hr=>by rw[hrs r hr];omega
 obtain⟨Bw,hBw⟩:∃ B:AHeap->Prop,B=fun Hx=>Hx.get H3.next=some (.arr 0 42 [.vec (ah ns).length (ints (ah ns)),.vec xw.length (xw.map ab)]):=⟨_,rfl⟩
 simp only[go_sem,dM,aH];obtain⟨H4,hH4⟩:∃ H4,H4=ext H3 [.arr 0 42 [.vec (ah ns).length (ints (ah ns)),.vec xw.length (xw.map ab)]]:=⟨_,rfl⟩
 have n4:H4.next=H3.next+1:=by rw[hH4];rfl
 have o4:Over H3 H4:=by rw[hH4];exact .ext _ _
 have gW4:H4.get H3.next=some (.arr 0 42 [.vec (ah ns).length (ints (ah ns)),.vec xw.length (xw.map ab)]):=by rw[hH4];exact cq
 have gN4:=(o4.old _ (by omega)).trans gn;have ln4:=ao gN4;have ls4:=ao ((o4.old _ (by omega)).trans (g3.trans b0));rw[<- hH4];clear hH4;refine W.sq ?_;simp only[go_sem,f2,f5,ls4,ln4];refine az.clo (BM g ns hok.n1 hc4 hok.size ws ms hws hms hwl hml _ _ ⟨trivial,?_⟩);rw[<- hxs];simp only[go_sem,dM,aH];obtain⟨H5,hH5⟩:∃ H5,H5=ext H4 [.arr 0 42 [.vec (ah ns).length (ints (ah ns)),.vec xs.length (xs.map ab)]]:=⟨_,rfl⟩
 have n5:H5.next=H4.next+1:=by rw[hH5];rfl
 have o5:Over H4 H5:=by rw[hH5];exact .ext _ _
 have gS:H5.get H4.next=some (.arr 0 42 [.vec (ah ns).length (ints (ah ns)),.vec xs.length (xs.map ab)]):=by rw[hH5];exact cq
 have gW:=(o5.old _ (by omega)).trans gW4;have gN:=(o5.old _ (by omega)).trans gN4;refine W.en (fun E2=>E2 5=.ptr H2.next 0 0 /\ E2 6=aa least /\ E2 7=.ptr H3.next 0 0 /\ E2 8=.ptr H4.next 0 0) (by simp only[go_sem,f5]) fun E2 ⟨a5,a6,a7,a8⟩=>?_
 rw[<- hH5];clear hH5;have lN:=ao gN;refine W.sq ?_;simp only[go_sem];refine W.sq ?_;simp only[go_sem,a5,lN];refine W.env fun E3 hE3=>?_;have c5:E3 5=.ptr H2.next 0 0:=by rw[hE3];simp only[go_sem,a5]
 have c6:E3 6=aa least:=by rw[hE3];simp only[go_sem,a6]
 have c7:E3 7=.ptr H3.next 0 0:=by rw[hE3];simp only[go_sem,a7]
 have c8:E3 8=.ptr H4.next 0 0:=by rw[hE3];simp only[go_sem,a8]
 have c9:E3 9=.lit (.bool true):=by rw[hE3];simp only[go_sem]
 have c44:E3 44=.vec ns.length (ar ns):=by rw[hE3];simp only[go_sem]
 have c45:E3 45=aa ns.length:=by rw[hE3];simp only[go_sem]
 have c46:E3 46=aa 0:=by rw[hE3];simp only[go_sem]
 clear hE3;obtain⟨FB,hFB⟩:∃ FB:Nat->Bool,FB=fun k=>decide (∀ x∈ns.take k,least*x.card<=g):=⟨_,rfl⟩
 have fb0:FB 0=true:=by rw[hFB];simp
 refine W.aI 200867255532373784442745261542645325315275374152480361741840 (by kernel_rfl) (fun ρ Hx=>Over H5 Hx/\∃ v:Nat,ρ 46=aa v/\v<=ns.length/\ρ 9=.lit (.bool (FB v))) (fun ρ H=>ns.length - (iv (ρ 46)).toNat) ?_ ?_
 ·exact⟨.refl _,0,c46,by omega,by rw[fb0];exact c9⟩
 rintro ρ Hx ⟨ov,v,h46,hv,h9⟩;have ovn:=ov.next;refine W.en (fun E4=>E4 5=.ptr H2.next 0 0 /\ E4 6=aa least /\ E4 7=.ptr H3.next 0 0 /\ E4 8=.ptr H4.next 0 0 /\ E4 9=.lit (.bool (FB v)) /\ E4 44=.vec ns.length (ar ns) /\ E4 45=aa ns.length /\ E4 46=aa v) (by simp only[go_sem,c5,c6,c7,c8,h9,c44,c45,h46]) fun E4 ⟨d5,d6,d7,d8,d9,d44,d45,d46⟩=>?_
 have xN:=ao ((ov.old _ (by omega)).trans gN);have xW:=ao ((ov.old _ (by omega)).trans gW);have xS:=ao ((ov.old _ (by omega)).trans gS);have oX:∀ Hz,Over Hx Hz->H.next<=Hz.next:=fun Hz h=>by have:=h.next;have:=o1.next;have:=o4.next;have:=o5.next;omega
 by_cases hb:(v:Int)<ns.length;rotate_left
 ·obtain rfl:v=ns.length:=by omega
  have fbN:FB ns.length=im g ns least:=by
   rw[hFB];simp only[TD];rw[Tu,Su,mX hok];exact⟨fun h=>⟨hl01.1,h⟩,fun h=>h.2⟩
  rw[fbN]at d9;obtain⟨g',ns',hfit,hsame⟩:=Nh hok h6 dkw hfw least;have hst:jA g ns (ah ns) xw least=if im g ns least=true then if eH ns xw=true then 0 else 7 else 2:=by unfold jA;rw[RB (fun h=>h hlw)]
  obtain⟨y1,hy1⟩:∃ y,y=(mY g ns (ah ns) xw least).1:=⟨_,rfl⟩
  obtain⟨y2,hy2⟩:∃ y,y=(mY g ns (ah ns) xw least).2:=⟨_,rfl⟩
  obtain⟨e,he⟩:∃ e,e=jA g ns (ah ns) xw least:=⟨_,rfl⟩
  refine W.vs ?_;simp only[go_sem,d45,d46,hb];refine W.sq ?_;simp only[go_sem,d5,d6,d7,xN,xW];refine az.clo (MT g ns (ah ns) xw fitN fitW least _ _ ⟨trivial,?_⟩);rw[<- hy1,<- hy2,<- he];simp only[go_sem,bP,de];obtain⟨H6,hH6⟩:∃ H6,H6=ext Hx [.arr 0 35 [.lit (.int .i64 y1),.vec y2.length (ar y2)]]:=⟨_,rfl⟩
  have n6:H6.next=Hx.next+1:=by rw[hH6];rfl
  have o6:Over Hx H6:=by rw[hH6];exact .ext _ _
  have gA:H6.get Hx.next=some (.arr 0 35 [.lit (.int .i64 y1),.vec y2.length (ar y2)]):=by rw[hH6];exact cq
  refine W.en (fun E5=>E5 5=.ptr H2.next 0 0 /\ E5 6=aa least /\ E5 7=.ptr H3.next 0 0 /\ E5 9=.lit (.bool (im g ns least)) /\ E5 21=.ptr Hx.next 0 0 /\ E5 22=aa e) (by simp only[go_sem,d5,d6,d7,d9]) fun E5 ⟨k5,k6,k7,k9,k21,k22⟩=>?_
  clear d5 d6 d7 d8 d9 d44 d45 d46;rw[<- hH6];clear hH6;have zN:=ao ((o6.old _ (by omega)).trans ((ov.old _ (by omega)).trans gN));have zW:=ao ((o6.old _ (by omega)).trans ((ov.old _ (by omega)).trans gW));refine W.seq ?_;refine W.draw 12 [0,0,2,0,8,0,63,127,255,255,0,1535] Try.mixed (by kernel_rfl) (by kernel_rfl) ?_;simp only[go_sem,k5,k6,k7,zN,zW];refine⟨_,[],ed.pure (fun Hz=>QA g ns (by omega) (fun y hy=>⟨by have:=hp3 y hy;omega,fun q hq=>by have:=(hok.node y hy).2.2 q hq;omega⟩) Hz _ ⟨rfl,rfl⟩),?_⟩;simp only[go_sem];refine⟨_,[],ed.pure hfit,?_⟩;simp only[go_sem,k5,k6,k7,bP,de];refine⟨⟨fun _ h=>by omega,fun _ h=>by omega,fun _ h=>by omega,fun _ h=>by omega⟩,?_⟩;obtain⟨H8,hH8⟩:∃ H8,H8=ext H6 [.arr 0 35 [.lit (.int .i64 g'),.vec ns'.length (ar ns')]]:=⟨_,rfl⟩
  have n8:H8.next=H6.next+1:=by rw[hH8];rfl
  have o8:Over H6 H8:=by rw[hH8];exact .ext _ _
  have lA:=ao ((o8.old _ (by omega)).trans gA);have lB:H8.live H6.next 0=some (35,[.lit (.int .i64 g'),.vec ns'.length (ar ns')]):=by rw[hH8];exact ao cq
  refine W.en (fun E7=>E7 9=.lit (.bool (im g ns least)) /\ E7 21=.ptr Hx.next 0 0 /\ E7 22=aa e /\ E7 23=.ptr H6.next 0 0 /\ E7 24=aa (if im g ns least=true then 0 else 2)) (by simp only[go_sem,k9,k21,k22]) fun E7 ⟨s9,s21,s22,s23,s24⟩=>?_
  rw[<- hH8];clear hH8;have fin:av Try.prog G0 H K (.lit (.bool true)) H8:=av.mk (oX _ (o6.trans o8)) (hK H8 (oX _ (o6.trans o8)));rw[hst]at he;cases hfb:im g ns least
  ·rw[hfb]at s9 s24 he;rw[RB (by decide)]at s24 he;rw[he]at s22;refine W.sq ?_;simp only[go_sem,s9,s22,s24];exact fin
  rw[hfb]at s9 s24 he;rw[RC rfl]at s24 he;refine W.sq ?_;simp only[go_sem,s9];refine W.vs ?_;cases hPw:eH ns xw
  ·rw[hPw,RB (by decide)]at he;rw[he]at s22;simp only[go_sem,s22,jL];exact fin
  rw[hPw,RC rfl]at he;rw[he]at s22;obtain⟨e1',e2'⟩:=hsame hfb hPw;have hs0:jA g ns (ah ns) xw least=0:=by rw[hst,hfb,RC rfl,hPw,RC rfl]
  have hy:y1=g/\y2=jz g least ns xw:=by rw[hy1,hy2];unfold mY;rw[RC hs0];exact⟨rfl,rfl⟩
  rw[hy.1,hy.2]at lA;rw[e1',e2']at lB;simp only[go_sem,s21,s22,s23,s24,lA,lB];refine az.clo (QU g (jz g least ns xw) (MQ hok h6 ((mX hok).1 hfb) (by omega) hrw fitN) _ _ ⟨trivial,?_⟩);simp only[go_sem];exact fin
 obtain⟨x,hx⟩:=get_of_lt (l:=ns) (i:=v) (by omega);have hxm:=Ry hx;have hc:=(hok.node x hxm).1;have h0:=l8 hx;have h1:=uh hx;have h2:=CU hx;have pne:=fZ hx;have fbS:FB (v+1)=(FB v && decide (least*x.card<=g)):=by
  rw[hFB];simp only;rw[aP hx,Tu,RU,Su,Su,Su];constructor
  ·intro hh;exact⟨fun y hy=>hh y (Tn _ hy),hh x (by simp)⟩
  ·rintro⟨q1,q2⟩ y hy;rcases RX.1 hy with hy|hy
   ·exact q1 y hy
   ·rw[List.mem_singleton.1 hy];exact q2
 have m0:0<=least*x.card/\least*x.card<=1*4:=⟨SD hl01.1 (by omega),SX (by omega) (by omega) (by omega) (by omega)⟩
 have wm:=Rw (least*x.card) (by omega);refine W.sq ?_;simp only[go_sem,d45,d46,hb];refine W.sq ?_;simp only[go_sem];refine W.seq (W.block ?_);refine W.sq ?_;simp only[go_sem,d46];refine W.cu (fun s'=>s'.ρ 5=.ptr H2.next 0 0/\s'.ρ 6=aa least/\s'.ρ 7=.ptr H3.next 0 0/\s'.ρ 8=.ptr H4.next 0 0/\s'.ρ 9=.lit (.bool (FB (v+1)))/\s'.ρ 10=aa v/\s'.ρ 46=aa v/\s'.H=Hx) ?_ ?_
 ·rw[fbS];cases hFv:FB v
  ·rw[hFv]at d9;refine W.draw 12 [0,1,3,3,11,3,59,123,251,511,3,1027] Try.mixed (by kernel_rfl) (by kernel_rfl) ?_;simp only[go_sem,d5,d6,d7,d8,d9,d46];exact rfl
  ·rw[hFv]at d9;refine W.draw 12 [0,1,3,3,11,3,59,123,251,511,3,1027] Try.mixed (by kernel_rfl) (by kernel_rfl) ?_;simp only[go_sem,d5,d6,d7,d8,d9,d46,xN,hb,h0,pne,wm];exact rfl
 rintro⟨E5,Hx'⟩ ⟨k5,k6,k7,k8,k9,k10,k46,kH⟩;simp only at k5 k6 k7 k8 k9 k10 k46 kH;obtain rfl:Hx=Hx':=kH.symm;obtain⟨eW,lW⟩:=B0 hlw hx;obtain⟨eS,lS⟩:=B0 hls hx;obtain⟨e,he⟩:∃ e,e=oW g ns (ah ns) xw v:=⟨_,rfl⟩
 obtain⟨f,hf⟩:∃ e,e=oW g ns (ah ns) xs v:=⟨_,rfl⟩
 obtain⟨L,hL⟩:∃ e,e=oY g ns (ah ns) xw v:=⟨_,rfl⟩
 obtain⟨S,hS⟩:∃ e,e=oY g ns (ah ns) xs v:=⟨_,rfl⟩
 refine W.sq ?_;simp only[go_sem,k5,k7,k10,xN,xW];refine az.clo (BL g ns (ah ns) xw fitN fitW v _ _ ⟨trivial,?_⟩);rw[BN,<- he,<- hL];simp only[go_sem];refine W.sq ?_;simp only[go_sem,k5,k8,k10,xN,xS];refine az.clo (BL g ns (ah ns) xs fitN fitS v _ _ ⟨trivial,?_⟩);rw[BN,<- hf,<- hS];simp only[go_sem];refine W.en (fun E6=>E6 5=.ptr H2.next 0 0 /\ E6 7=.ptr H3.next 0 0 /\ E6 8=.ptr H4.next 0 0 /\ E6 9=.lit (.bool (FB (v+1))) /\ E6 10=aa v /\ E6 11=.vec L.length (ints L) /\ E6 12=aa e /\ E6 13=ab S /\ E6 14=aa f /\ E6 46=aa v) (by simp only[go_sem,k5,k7,k8,k9,k10,k46]) fun E6 ⟨m5,m7,m8,m9,m10,m11,m12,m13,m14,m46⟩=>?_
 clear k5 k6 k7 k8 k9 k10 k46;rw[eW]at he;rw[eS]at hf;rw[lW]at hL;rw[lS]at hS;have w1:=Rw ((v:Int)+1) (by omega);have w720:=Rw (720*(xs.length:Int)) (by omega);have pS:=BZ hok h6 hx (xs:=xs) (by omega) hrs;cases hPw:eH ns xw
 ·rw[hPw,RB (by decide)]at he;subst he;cases hPs:eH ns xs
  ·rw[hPs,RB (by decide)]at hf;subst hf;refine W.sq ?_;simp only[go_sem,m12,m14];refine W.seq (W.seq ?_);refine W.draw 9 [0,1,3,7,15,7,39,103,231] Try.mixed (by kernel_rfl) (by kernel_rfl) ?_;simp only[go_sem,m14];refine W.vs ?_;simp only[go_sem];refine W.sq ?_;simp only[go_sem,m12];refine W.vs ?_;simp only[go_sem,m9,m46,w1];exact⟨by omega,⟨ov,v+1,rfl,by omega,rfl⟩,by rw[h46];simp only[aa,aM];omega⟩
  ·rw[hPs,RC rfl]at hf hS;subst hf;rw[hS]at m13;refine W.sq ?_;simp only[go_sem,m12,m14];refine W.seq (W.seq ?_);refine W.draw 9 [0,1,3,7,15,7,39,103,231] Try.mixed (by kernel_rfl) (by kernel_rfl) ?_;simp only[go_sem,m13,m14];refine⟨_,[],ed.pure pS,?_⟩;simp only[go_sem,m8,xS,w720];refine W.vs ?_;simp only[go_sem];refine W.sq ?_;simp only[go_sem,m12];refine W.vs ?_;simp only[go_sem,m9,m46,w1];exact⟨by omega,⟨ov,v+1,rfl,by omega,rfl⟩,by rw[h46];simp only[aa,aM];omega⟩
 have hPs:=hpw hPw;rw[hPw,RC rfl]at he hL;rw[hPs,RC rfl]at hf hS;subst he hf;rw[hS]at m13;have hmw:∀ r∈xw,dJ ns r≠0:=fun r hr h0=>by
  unfold eH at hPw;exact of_decide_eq_true hPw (h0 ▸ RI.2 ⟨r,hr,rfl⟩)
 have hLc:L=fy ns x v xw:=by rw[hL];exact BP hok h6 hx xw hfw hmw
 have pW:=BZ hok h6 hx (xs:=xw) (by omega) hrw;have hLl:(L.length:Int)=x.rows.length*x.card:=by rw[hL];exact(oS hok h6 hx xw hrw).1
 have hrc:=qL hok hx;have wW:=Rw (720*(xw.length:Int)) (by omega);have wR:=Rw ((x.rows.length:Int)*x.card) (by omega);rw[<- hL]at pW;refine W.sq ?_;simp only[go_sem,m12,m14];refine W.seq (W.seq ?_);refine W.draw 9 [0,1,3,7,15,7,39,103,231] Try.mixed (by kernel_rfl) (by kernel_rfl) ?_;simp only[go_sem,m13,m14];refine⟨_,[],ed.pure pS,?_⟩;simp only[go_sem,m8,xS,w720];refine W.vs ?_;simp only[go_sem];refine W.sq ?_;simp only[go_sem,m12];refine W.seq (W.seq ?_);refine W.draw 24 [0,1,0,4,12,28,63,127,255,511,255,1279,255,7423,15615,31999,64767,255,131327,255,917759,1966335,4063487,8387839] Try.mixed (by kernel_rfl) (by kernel_rfl) ?_;simp only[go_sem,m11];refine⟨_,[],ed.pure pW,?_⟩;simp only[go_sem,m5,m7,m10,m11,xN,xW,wW,hb,h0,h2,aH,pne,wR,hLl];refine W.vs ?_;simp only[go_sem];have hLn:L.length=x.rows.length*x.card.toNat:=by
  have:((x.rows.length*x.card.toNat:Nat):Int)=x.rows.length*x.card:=by rw[Tj,Sw (by omega)]
  omega
 refine W.sq ?_;simp only[go_sem,m11];refine⟨by omega,?_⟩;obtain⟨H6,hH6⟩:∃ H6,H6=ext Hx [.arr 0 3 (List.replicate L.length (AVal.lit (.int .i64 0)))]:=⟨_,rfl⟩
 have n6:H6.next=Hx.next+1:=by rw[hH6];rfl
 have o6:Over Hx H6:=by rw[hH6];exact .ext _ _
 have gC:H6.get Hx.next=some (.arr 0 3 (ints (fy ns x v (xw.take 0)))):=by
  rw[hH6,show ints (fy ns x v (xw.take 0))=List.replicate L.length (AVal.lit (.int .i64 0)) by rw[hLn];show ints (List.replicate _ 0)=_;simp [ints,aa]];exact cq
 refine W.en (fun E7=>E7 5=.ptr H2.next 0 0 /\ E7 7=.ptr H3.next 0 0 /\ E7 9=.lit (.bool (FB (v+1))) /\ E7 10=aa v /\ E7 11=.vec L.length (ints L) /\ E7 15=.own Hx.next 0 0 L.length 1 /\ E7 46=aa v) (by simp only[go_sem,m5,m7,m9,m10,m11,m46]) fun E7 ⟨p5,p7,p9,p10,p11,p15,p46⟩=>?_
 clear m5 m7 m8 m9 m10 m11 m12 m13 m14 m46;rw[<- hH6];clear hH6;have yN:=ao ((o6.old _ (by omega)).trans ((ov.old _ (by omega)).trans gN));have yW:=ao ((o6.old _ (by omega)).trans ((ov.old _ (by omega)).trans gW));refine W.cu (fun s'=>s'.ρ 9=.lit (.bool (FB (v+1)))/\s'.ρ 11=.vec L.length (ints L)/\s'.ρ 15=.own Hx.next 0 0 L.length 1/\s'.ρ 46=aa v/\Over Hx s'.H/\s'.H.get Hx.next=some (.arr 0 3 (ints L))) ?_ ?_
 ·refine W.sq ?_;simp only[go_sem,p7,yW];refine W.block ?_;refine W.en (fun E8=>E8 5=.ptr H2.next 0 0 /\ E8 9=.lit (.bool (FB (v+1))) /\ E8 10=aa v /\ E8 11=.vec L.length (ints L) /\ E8 15=.own Hx.next 0 0 L.length 1 /\ E8 46=aa v /\ E8 142=.vec xw.length (xw.map ab) /\ E8 143=aa xw.length /\ E8 144=aa 0) (by simp only[go_sem,p5,p9,p10,p11,p15,p46]) fun E8 ⟨q5,q9,q10,q11,q15,q46,q142,q143,q144⟩=>?_
  refine W.aI 6277101735386658463090590892584524880384082796102529974272 (by kernel_rfl) (fun ρ2 Hy=>Hy.next=H6.next/\(∀ id,id<Hx.next->Hy.get id=Hx.get id)/\∃ j:Nat,ρ2 144=aa j/\j<=xw.length/\Hy.get Hx.next=some (.arr 0 3 (ints (fy ns x v (xw.take j))))) (fun ρ2 H=>xw.length - (iv (ρ2 144)).toNat) ?_ ?_
  ·exact⟨rfl,fun id h=>o6.old id h,0,q144,by omega,gC⟩
  rintro ρ2 Hy ⟨hny,holdy,j,h144,hj,gy⟩;refine W.en (fun E9=>E9 5=.ptr H2.next 0 0 /\ E9 9=.lit (.bool (FB (v+1))) /\ E9 10=aa v /\ E9 11=.vec L.length (ints L) /\ E9 15=.own Hx.next 0 0 L.length 1 /\ E9 46=aa v /\ E9 142=.vec xw.length (xw.map ab) /\ E9 143=aa xw.length /\ E9 144=aa j) (by simp only[go_sem,q5,q9,q10,q11,q15,q46,q142,q143,h144]) fun E9 ⟨r5,r9,r10,r11,r15,r46,r142,r143,r144⟩=>?_
  by_cases hb2:(j:Int)<xw.length;rotate_left
  ·refine W.vs ?_;simp only[go_sem,r9,r11,r15,r46,r143,r144,hb2];rw[RA (by omega),<- hLc]at gy;exact⟨⟨by omega,fun id h=>holdy id h⟩,gy⟩
  obtain⟨r,hr⟩:=get_of_lt (l:=xw) (i:=j) (by omega);have hrm:=Ry hr;have hrf:=hfw r hrm;have hr':=o0 hr;have hrn:=aK hr';have hrl:=hrw r hrm;have zN:=ao ((holdy _ (by omega)).trans ((ov.old _ (by omega)).trans gN));have zC:=ao gy;have wj:=Rw ((j:Int)+1) (by omega);refine W.sq ?_;simp only[go_sem,r143,r144,hb2];refine W.sq ?_;simp only[go_sem];refine W.seq (W.block ?_);refine W.sq ?_;simp only[go_sem,r142,r144,hr',hrn,hb2];refine W.sq ?_;simp only[go_sem];refine W.en (fun F=>F 5=.ptr H2.next 0 0 /\ F 9=.lit (.bool (FB (v+1))) /\ F 10=aa v /\ F 11=.vec L.length (ints L) /\ F 15=.own Hx.next 0 0 L.length 1 /\ F 17=ab r /\ F 18=aa 0 /\ F 46=aa v /\ F 142=.vec xw.length (xw.map ab) /\ F 143=aa xw.length /\ F 144=aa j) (by simp only[go_sem,r5,r9,r10,r11,r15,r46,r142,r143,r144]) fun F ⟨s5,s9,s10,s11,s15,s17,s18,s46,s142,s143,s144⟩=>?_
  have hin:iE x.parents ns.length:=fun q hq=>by have:=(hok.node x hxm).2.2 q hq;omega
  have fp:bE (aN ns x) (aA r x.parents):=rq hin hrf;have pl:(aN ns x).length=x.parents.length:=dQ _ _;have vl:(aA r x.parents).length=x.parents.length:=dQ _ _;have hp3x:=hp3 x hxm;have hpc:∀ c∈aN ns x,2<=c/\c<=4:=fun c hcm=>by
   unfold aN aA at hcm;obtain⟨q,hq,rfl⟩:=RI.1 hcm;obtain⟨i,rfl,y,hy⟩:=jG (l:=ns) (hin q hq).1 (hin q hq).2;rw[Int.toNat_natCast,aO (bX hy)];exact⟨hc2 y (Ry hy),(hc4 y (Ry hy)).2⟩
  have ft:∀ k,bE ((aN ns x).take k) ((aA r x.parents).take k):=fun k=>⟨by simp [pl,vl],fun i c b h1 h2=>by
   rw[Td]at h1 h2;split at h1
   ·rename_i hik;rw[RC hik]at h2;exact fp.2 i c b h1 h2
   ·cases h1⟩
  have hrg:∀ k,0<=cO ((aN ns x).take k) ((aA r x.parents).take k)/\cO ((aN ns x).take k) ((aA r x.parents).take k)<4096:=fun k=>by
   rw[kJ (ft k).1];have a:=np (ft k);have b:=xK (l:=(aN ns x).take k) (fun c hcm=>hpc c (RS hcm)) (by rw[RH];omega);omega
  refine W.cu (fun s'=>s'.ρ 5=.ptr H2.next 0 0/\s'.ρ 9=.lit (.bool (FB (v+1)))/\s'.ρ 10=aa v/\s'.ρ 11=.vec L.length (ints L)/\s'.ρ 15=.own Hx.next 0 0 L.length 1/\s'.ρ 17=ab r/\s'.ρ 18=aa (dG (aN ns x) (aA r x.parents))/\s'.ρ 46=aa v/\s'.ρ 142=.vec xw.length (xw.map ab)/\s'.ρ 143=aa xw.length/\s'.ρ 144=aa j/\s'.H=Hy) ?_ ?_
  ·refine W.sq ?_;simp only[go_sem,s5,s10,zN,hb,h1,pne];refine W.block ?_;refine W.aI 11972575741088590115208392284460768113177035145478144 (by kernel_rfl) (fun ρ3 Hz=>Hz=Hy/\∃ k:Nat,ρ3 155=aa k/\k<=x.parents.length/\ρ3 18=aa (cO ((aN ns x).take k) ((aA r x.parents).take k))) (fun ρ3 H=>x.parents.length - (iv (ρ3 155)).toNat) ?_ ?_
   ·simp only[go_sem,s18];exact⟨0,rfl,by omega,rfl⟩
   rintro ρ3 Hz ⟨rfl,k,h155,hk,h18⟩;refine W.vs ?_;by_cases hb4:(k:Int)<x.parents.length;rotate_left
   ·simp only[go_sem,h155,hb4,s5,s9,s10,s11,s15,s17,s46,s142,s143,s144,h18];rw[RA (by omega),RA (by omega),kJ (by rw[pl,vl])]
   obtain⟨q,hq⟩:=get_of_lt (l:=x.parents) (i:=k) (by omega);obtain⟨i,rfl,y,hy⟩:=jG (l:=ns) (hin q (Ry hq)).1 (hin q (Ry hq)).2;obtain⟨b,hbv⟩:=get_of_lt (l:=r) (i:=i) (by have:=get_lt hy;omega);have hyb:=hrf.2 i y.card b (bX hy) hbv;have hy4:=hc4 y (Ry hy);have a1:(aN ns x)[k]?=some y.card:=(by unfold aN;rw[km hq,Int.toNat_natCast,aO (bX hy)]);have a2:(aA r x.parents)[k]?=some b:=(by rw[km hq,Int.toNat_natCast,aO hbv]);have hne2:=aK hq;have hne3:=aK hbv;have ey:=l8 hy;have hi:(i:Int)<ns.length:=(by have:=get_lt hy;omega);have hi2:(i:Int)<r.length:=(by omega);have w1':=Rw ((k:Int)+1) (by omega);have r1:=hrg (k+1);rw[ma a1 a2]at r1;have r0:=hrg k;have mm0:0<=cO ((aN ns x).take k) ((aA r x.parents).take k)*y.card:=SD r0.1 (by omega);have w2:=Rw (cO ((aN ns x).take k) ((aA r x.parents).take k)*y.card) (by omega);have w3:=Rw (cO ((aN ns x).take k) ((aA r x.parents).take k)*y.card+b) (by omega);simp only[go_sem,h155,hb4,hq,hne2];refine W.draw 12 [0,0,2,0,14,30,62,127,0,0,768,1792] Try.mixed (by kernel_rfl) (by kernel_rfl) ?_;simp only[go_sem,h155,h18,s5,s17,zN,pne,hne3,hi,hi2,hbv,ey,w1',w2,w3];exact⟨⟨k+1,by simp,by omega,by rw[ma a1 a2]⟩,by omega⟩
  clear s5 s9 s10 s11 s15 s17 s18 s46 s142 s143 s144;rintro⟨F2,Hy'⟩ ⟨s5,s9,s10,s11,s15,s17,s18,s46,s142,s143,s144,kH⟩;simp only at s5 s9 s10 s11 s15 s17 s18 s46 s142 s143 s144 kH;obtain rfl:Hy=Hy':=kH.symm;obtain⟨a,ha⟩:=get_of_lt (l:=r) (i:=v) (by omega);have hac:=hrf.2 v x.card a (bX hx) ha;have hpr:=qM hok hx hrf;have hpe:dD ns x v r=dG (aN ns x) (aA r x.parents)*x.card+a:=by unfold dD;rw[aO ha]
  obtain⟨z,hz2⟩:∃ z:Nat,dD ns x v r=z:=⟨(dD ns x v r).toNat,by omega⟩
  rw[<- hLl,hz2]at hpr;obtain⟨C,hC⟩:∃ C,C=fy ns x v (xw.take j):=⟨_,rfl⟩
  have hCl:C.length=L.length:=by rw[hC,xH,hLn]
  have hCs:fy ns x v (xw.take (j+1))=C.set z (C.getD z 0+720):=by
   rw[aP hr,MZ,<- hC];unfold dL;rw[hz2,Int.toNat_natCast]
  obtain⟨e0,he0⟩:=get_of_lt (l:=C) (i:=z) (by omega);have hez:=BW hok hx (xs:=xw.take j) (fun r hr=>hfw r (RS hr)) z;rw[<- hC,aO he0]at hez;have hcp:=UA (p:=fun r=>decide (dD ns x v r=z)) (l:=xw.take j);rw[RH]at hcp;rw[aO he0]at hCs;have hir:=hrg x.parents.length;rw[RA (by rw[pl];exact Nat.le_refl _),RA (by rw[vl];exact Nat.le_refl _),kJ fp.1]at hir;have mm0:0<=dG (aN ns x) (aA r x.parents)*x.card:=SD hir.1 (by omega);rw[hz2]at hpe;have w2:=Rw (dG (aN ns x) (aA r x.parents)*x.card) (by omega);have w3:=Rw (z:Int) (by omega);have w4:=Rw (e0+720) (by omega);have hzL:(z:Int)<L.length:=by omega
  have hvw:(v:Int)<r.length:=by omega
  have han:=aK ha;rw[<- hC]at zC gy;refine W.vs ?_;refine W.draw 14 [0,0,0,4,0,28,60,124,254,0,0,1536,3584,8190] Try.mixed (by kernel_rfl) (by kernel_rfl) ?_;simp only[go_sem,s5,s10,s15,s17,s18,zN,zC,hb,h0,pne,ha,han,hvw,<- hpe,he0,hCl,hzL,w2,w3,w4];refine⟨by omega,?_⟩;refine W.vs ?_;simp only[go_sem,s144,wj];exact⟨by rw[aL];omega,⟨by rw[aL];exact hny,fun id h=>by rw[aj,RB (by omega)];exact holdy id h,j+1,rfl,by omega,by rw[aj,RC rfl,fa (by omega),hCs]⟩,by rw[h144];simp only[aa,aM];omega⟩
 clear p5 p7 p9 p10 p11 p15 p46;rintro⟨F3,H7⟩ ⟨p9,p11,p15,p46,o7,g7⟩;simp only at p9 p11 p15 p46 o7 g7;have o7n:=o7.next;have pE:ae Try.prog G0 16 [.vec L.length (ints L),.own Hx.next 0 0 L.length 1] H7 fun r H'=>r=.ret (.lit (.bool true))/\H'=H7 :=
  ae.frame (args':=[ab L,ab L]) aZ rfl (fun i hi _=>match i,hi with
   | 0,_=>.dT _
   | 1,_=>Fz.ints (S:=fun _=>True) trivial g7 rfl fun j' hj'=>by rw[Nat.zero_add,gI];simp only[Rz hj',Option.map_some]) (Qw L L (by omega) bU _ ⟨_,by rw[RN (rfl:L=L)],.lit _⟩)
 refine W.sq ?_;simp only[go_sem,p11,p15];refine az.clo (pE.mono ?_);rintro rr Hq ⟨hr,hH⟩;rw[hr,hH];refine⟨trivial,?_⟩;simp only[go_sem];refine W.vs ?_;simp only[go_sem];refine W.vs ?_;simp only[go_sem,p9,p46,w1];exact⟨by omega,⟨ov.trans o7,v+1,rfl,by omega,rfl⟩,by rw[h46];simp only[aa,aM];omega⟩
end Go.Proofs
